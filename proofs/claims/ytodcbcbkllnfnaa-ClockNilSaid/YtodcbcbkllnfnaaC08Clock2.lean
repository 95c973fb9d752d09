/- What the clock's In, Left, Due, Set, Copy and Same compute, over the translation of this seat. Conditions: the blocks that are named hold what is said. -/
import Derived.Test.YtodcbcbkllnfnaaC08Clock
import Derived.Test.YtodcbcbkllnfnaaFlat
namespace Go.Proofs.Ytodcbcbkllnfnaa
open Go.RowKit

/-! In. -/
theorem in_gone (w : World) (v : Value) (k n : Int) (h : Gone w v) : Calls Try.prog 11 #[v, .int .i64 k, .int .i64 n] w fun e w' => e = .returned (.tuple #[.int .i64 0, .int .i64 1]) ∧ w = w' := by
  go_enter Try.func11, Try.ntmps11
  go_wp2_with (go_at_call 10; refine (now_gone _ _ _ h).mono ?_; rintro e w' ⟨rfl, rfl⟩)
  go_ret2
  exact ⟨rfl, rfl⟩
def inV (x n : Int) : Int := if n < 1099511627776 - x then x + n else 1099511627776
def inF (r o k n : Int) : Int × Int := if (nowF r o k).2 = 0 then (if n < 0 then (0, 2) else (inV (nowF r o k).1 n, 0)) else (0, 2)
theorem nowF_ok {r o k : Int} (h : (nowF r o k).2 = 0) : nowF r o k = ((nowF r o k).1, 0) := by rw [← h]
theorem nowF_bad {r o k : Int} (h : (nowF r o k).2 ≠ 0) : nowF r o k = (0, 2) := by
  unfold nowF at h ⊢
  by_cases k0 : k = 0
  · simp [k0] at h
  · by_cases k1 : k = 1
    · simp [k1] at h
    · simp [k0, k1]
theorem nowF_rng {r o k : Int} (hr : 0 ≤ r ∧ r ≤ 1099511627776) (ho : 0 ≤ o ∧ o ≤ 1099511627776) : 0 ≤ (nowF r o k).1 ∧ (nowF r o k).1 ≤ 1099511627776 := by
  unfold nowF; split <;> (try split) <;> simp <;> omega
theorem in_c (w : World) (b : Nat) (r o k n : Int) {x e : Int} (h : w.heap[b]? = some (clkO true r o)) (hr : 0 ≤ r ∧ r ≤ 1099511627776) (ho : 0 ≤ o ∧ o ≤ 1099511627776) (hx : inF r o k n = (x, e)) :
    Calls Try.prog 11 #[.pointer (some ⟨b, 0, none⟩), .int .i64 k, .int .i64 n] w fun e' w' => e' = .returned (.tuple #[.int .i64 x, .int .i64 e]) ∧ w = w' := by
  by_cases hk : (nowF r o k).2 = 0
  · have hn := nowF_ok hk
    obtain ⟨y0, y1⟩ := nowF_rng (k := k) hr ho
    by_cases h0 : n < 0
    · obtain ⟨rfl, rfl⟩ : 0 = x ∧ 2 = e := by simpa [inF, hk, h0] using hx
      have HN := Lib.hid hn
      generalize (nowF r o k).1 = y at *
      clear hx hn hr ho hk
      go_enter Try.func11, Try.ntmps11
      go_wp2_with (go_at_call 10; refine (now_c _ _ _ _ _ h HN.out).mono ?_; rintro e w' ⟨rfl, rfl⟩)
      go_ret2
      exact ⟨rfl, rfl⟩
    · obtain ⟨rfl, rfl⟩ : inV (nowF r o k).1 n = x ∧ 0 = e := by simpa [inF, hk, h0] using hx
      have HN := Lib.hid hn
      generalize (nowF r o k).1 = y at *
      clear hx hn hr ho hk
      have hu : inV y n = y + (if n ≤ 1099511627776 - y then n else 1099511627776 - y) := by unfold inV; split <;> omega
      rw [hu]
      clear hu
      by_cases hle : n ≤ 1099511627776 - y
      all_goals
        go_enter Try.func11, Try.ntmps11
        go_wp2_with (go_at_call 10; refine (now_c _ _ _ _ _ h HN.out).mono ?_; rintro e w' ⟨rfl, rfl⟩)
        go_ret2
        exact ⟨by simp [hle], rfl⟩
  · have hn := nowF_bad hk
    obtain ⟨rfl, rfl⟩ : 0 = x ∧ 2 = e := by simpa [inF, hk] using hx
    have HN := Lib.hid hn
    clear hx hn hr ho hk
    go_enter Try.func11, Try.ntmps11
    go_wp2_with (go_at_call 10; refine (now_c _ _ _ _ _ h HN.out).mono ?_; rintro e w' ⟨rfl, rfl⟩)
    go_ret2
    exact ⟨rfl, rfl⟩

/-! Left, Due. -/
theorem left_gone (w : World) (v : Value) (k n : Int) (h : Gone w v) : Calls Try.prog 12 #[v, .int .i64 k, .int .i64 n] w fun e w' => e = .returned (.tuple #[.int .i64 0, .int .i64 1]) ∧ w = w' := by
  go_enter Try.func12, Try.ntmps12
  go_wp2_with (go_at_call 10; refine (now_gone _ _ _ h).mono ?_; rintro e w' ⟨rfl, rfl⟩)
  go_ret2
  exact ⟨rfl, rfl⟩
def leftV (x n : Int) : Int := if n ≤ x then 0 else if n < 1099511627776 then n - x else 1099511627776 - x
def leftF (r o k n : Int) : Int × Int := if (nowF r o k).2 = 0 then (leftV (nowF r o k).1 n, 0) else (0, 2)
theorem left_c (w : World) (b : Nat) (r o k n : Int) {x e : Int} (h : w.heap[b]? = some (clkO true r o)) (hr : 0 ≤ r ∧ r ≤ 1099511627776) (ho : 0 ≤ o ∧ o ≤ 1099511627776) (hx : leftF r o k n = (x, e)) :
    Calls Try.prog 12 #[.pointer (some ⟨b, 0, none⟩), .int .i64 k, .int .i64 n] w fun e' w' => e' = .returned (.tuple #[.int .i64 x, .int .i64 e]) ∧ w = w' := by
  by_cases hk : (nowF r o k).2 = 0
  · have hn := nowF_ok hk
    obtain ⟨y0, y1⟩ := nowF_rng (k := k) hr ho
    obtain ⟨rfl, rfl⟩ : leftV (nowF r o k).1 n = x ∧ 0 = e := by simpa [leftF, hk] using hx
    have HN := Lib.hid hn
    generalize (nowF r o k).1 = y at *
    clear hx hn hr ho hk
    by_cases h0 : n ≤ y
    · have hu : leftV y n = 0 := by unfold leftV; simp [h0]
      rw [hu]
      clear hu
      go_enter Try.func12, Try.ntmps12
      go_wp2_with (go_at_call 10; refine (now_c _ _ _ _ _ h HN.out).mono ?_; rintro e w' ⟨rfl, rfl⟩)
      go_ret2
      exact ⟨rfl, rfl⟩
    · by_cases hle : n ≤ 1099511627776
      · have hu : leftV y n = n - y := by unfold leftV; simp [h0]; omega
        rw [hu]
        clear hu
        go_enter Try.func12, Try.ntmps12
        go_wp2_with (go_at_call 10; refine (now_c _ _ _ _ _ h HN.out).mono ?_; rintro e w' ⟨rfl, rfl⟩)
        go_ret2
        exact ⟨by simp, rfl⟩
      · have hu : leftV y n = 1099511627776 - y := by unfold leftV; simp [h0]; omega
        rw [hu]
        clear hu
        go_enter Try.func12, Try.ntmps12
        go_wp2_with (go_at_call 10; refine (now_c _ _ _ _ _ h HN.out).mono ?_; rintro e w' ⟨rfl, rfl⟩)
        go_ret2
        exact ⟨by simp, rfl⟩
  · have hn := nowF_bad hk
    obtain ⟨rfl, rfl⟩ : 0 = x ∧ 2 = e := by simpa [leftF, hk] using hx
    have HN := Lib.hid hn
    clear hx hn hr ho hk
    go_enter Try.func12, Try.ntmps12
    go_wp2_with (go_at_call 10; refine (now_c _ _ _ _ _ h HN.out).mono ?_; rintro e w' ⟨rfl, rfl⟩)
    go_ret2
    exact ⟨rfl, rfl⟩
theorem due_gone (w : World) (v : Value) (k n : Int) (h : Gone w v) : Calls Try.prog 13 #[v, .int .i64 k, .int .i64 n] w fun e w' => e = .returned (.bool false) ∧ w = w' := by
  go_enter Try.func13, Try.ntmps13
  go_wp2_with (go_at_call 12; refine (left_gone _ _ _ _ h).mono ?_; rintro e w' ⟨rfl, rfl⟩)
  go_ret
  exact ⟨rfl, rfl⟩
def dueF (r o k n : Int) : Bool := (leftF r o k n).2 == 0 && (leftF r o k n).1 == 0
theorem due_c (w : World) (b : Nat) (r o k n : Int) {x : Bool} (h : w.heap[b]? = some (clkO true r o)) (hr : 0 ≤ r ∧ r ≤ 1099511627776) (ho : 0 ≤ o ∧ o ≤ 1099511627776) (hx : dueF r o k n = x) :
    Calls Try.prog 13 #[.pointer (some ⟨b, 0, none⟩), .int .i64 k, .int .i64 n] w fun e' w' => e' = .returned (.bool x) ∧ w = w' := by
  have C := left_c w b r o k n (x := (leftF r o k n).1) (e := (leftF r o k n).2) h hr ho rfl
  have hx' : ((leftF r o k n).2 == 0 && (leftF r o k n).1 == 0) = x := hx
  rw [← hx']
  generalize (leftF r o k n).1 = y at C
  generalize (leftF r o k n).2 = z at C
  have CH := Lib.hid C
  clear hx hx' h hr ho C
  go_enter Try.func13, Try.ntmps13
  go_wp2_with (go_at_call 12; refine CH.out.mono ?_; rintro e w' ⟨rfl, rfl⟩)
  all_goals
    rename_i hz
    go_ret
    exact ⟨by simp [hz], rfl⟩

/-! Set. -/
theorem set_gone (w : World) (v : Value) (k n : Int) (h : Gone w v) : Calls Try.prog 20 #[v, .int .i64 k, .int .i64 n] w fun e w' => e = .returned (.int .i64 1) ∧ w = w' := by
  go_enter Try.func20, Try.ntmps20
  go_wp2_with (go_at_call 10; refine (now_gone _ _ _ h).mono ?_; rintro e w' ⟨rfl, rfl⟩)
  go_ret
  exact ⟨rfl, rfl⟩
/-- What Set answers, and what Real shows behind it. -/
def setF (k n : Int) : Int := if k = 0 ∨ k = 1 then (if n < 0 ∨ 1099511627776 < n then 2 else if k = 1 then 7 else 0) else 2
def setR (r k n : Int) : Int := if k = 0 ∧ 0 ≤ n ∧ n ≤ 1099511627776 then n else r
theorem set_c (w : World) (b : Nat) (r o k n : Int) {e : Int} (h : w.heap[b]? = some (clkO true r o)) (hx : setF k n = e) :
    Calls Try.prog 20 #[.pointer (some ⟨b, 0, none⟩), .int .i64 k, .int .i64 n] w fun e' w' => e' = .returned (.int .i64 e) ∧ Upd w b (clkO true (setR r k n) o) w' := by
  have H := Lib.hid h
  have c1 := has_cell 1 h rfl
  have fz := has_free h
  clear h
  by_cases k0 : k = 0
  · subst k0
    have hN : Hid (nowF r o 0 = (r, 0)) := Lib.hid rfl
    by_cases n0 : n < 0
    · obtain rfl : 2 = e := by rw [← hx]; simp [setF, n0]
      rw [show setR r 0 n = r from by unfold setR; rw [if_neg (by omega)]]
      clear hx
      go_enter Try.func20, Try.ntmps20
      go_wp2_with (go_at_call 10; refine (now_c _ _ _ _ _ H.out hN.out).mono ?_; rintro e w' ⟨rfl, rfl⟩)
      go_ret
      exact ⟨rfl, Upd.refl H.out⟩
    · by_cases n1 : 1099511627776 < n
      · obtain rfl : 2 = e := by rw [← hx]; simp [setF, n1]
        rw [show setR r 0 n = r from by unfold setR; rw [if_neg (by omega)]]
        clear hx
        go_enter Try.func20, Try.ntmps20
        go_wp2_with (go_at_call 10; refine (now_c _ _ _ _ _ H.out hN.out).mono ?_; rintro e w' ⟨rfl, rfl⟩)
        go_ret
        exact ⟨rfl, Upd.refl H.out⟩
      · obtain rfl : 0 = e := by rw [← hx]; simp [setF, n0, n1]
        rw [show setR r 0 n = n from by unfold setR; rw [if_pos (by omega)]]
        clear hx
        go_enter Try.func20, Try.ntmps20
        go_wp2_with (go_at_call 10; refine (now_c _ _ _ _ _ H.out hN.out).mono ?_; rintro e w' ⟨rfl, rfl⟩)
        go_ret
        exact ⟨rfl, ((Upd.refl H.out).setCell 1 _).to (by simp)⟩
  · rw [show setR r k n = r from by unfold setR; rw [if_neg (by omega)]]
    by_cases k1 : k = 1
    · subst k1
      have hN : Hid (nowF r o 1 = (o, 0)) := Lib.hid rfl
      by_cases n0 : n < 0
      · obtain rfl : 2 = e := by rw [← hx]; simp [setF, n0]
        clear hx
        go_enter Try.func20, Try.ntmps20
        go_wp2_with (go_at_call 10; refine (now_c _ _ _ _ _ H.out hN.out).mono ?_; rintro e w' ⟨rfl, rfl⟩)
        go_ret
        exact ⟨rfl, Upd.refl H.out⟩
      · by_cases n1 : 1099511627776 < n
        · obtain rfl : 2 = e := by rw [← hx]; simp [setF, n1]
          clear hx
          go_enter Try.func20, Try.ntmps20
          go_wp2_with (go_at_call 10; refine (now_c _ _ _ _ _ H.out hN.out).mono ?_; rintro e w' ⟨rfl, rfl⟩)
          go_ret
          exact ⟨rfl, Upd.refl H.out⟩
        · obtain rfl : 7 = e := by rw [← hx]; simp [setF, n0, n1]
          clear hx
          go_enter Try.func20, Try.ntmps20
          go_wp2_with (go_at_call 10; refine (now_c _ _ _ _ _ H.out hN.out).mono ?_; rintro e w' ⟨rfl, rfl⟩)
          go_ret
          exact ⟨rfl, Upd.refl H.out⟩
    · obtain rfl : 2 = e := by rw [← hx]; simp [setF, k0, k1]
      have hN : Hid (nowF r o k = (0, 2)) := Lib.hid (by simp [nowF, k0, k1])
      clear hx
      go_enter Try.func20, Try.ntmps20
      go_wp2_with (go_at_call 10; refine (now_c _ _ _ _ _ H.out hN.out).mono ?_; rintro e w' ⟨rfl, rfl⟩)
      go_ret
      exact ⟨rfl, Upd.refl H.out⟩

/-! Copy. -/
theorem copy_gone (w : World) (v : Value) (h : Gone w v) : Calls Try.prog 25 #[v] w fun e w' => e = .returned (.pointer none) ∧ w = w' := by
  go_enter Try.func25, Try.ntmps25
  go_wp2_with (go_at_call 22; refine (there_gone _ _ h).mono ?_; rintro e w' ⟨rfl, rfl⟩)
  go_ret
  exact ⟨rfl, rfl⟩
theorem copy_c (w : World) (b : Nat) (r o : Int) (h : w.heap[b]? = some (clkO true r o)) :
    Calls Try.prog 25 #[.pointer (some ⟨b, 0, none⟩)] w fun e w' => ∃ b', e = .returned (.pointer (some ⟨b', 0, none⟩)) ∧ w.heap.size ≤ b' ∧ w'.heap[b']? = some (clkO true r o) ∧ Below w.heap.size w w' := by
  have H := Lib.hid h
  have c0 := has_cell 0 h rfl
  have c1 := has_cell 1 h rfl
  have c2 := has_cell 2 h rfl
  clear h
  go_enter Try.func25, Try.ntmps25
  go_wp2_with (go_at_call 22; refine (there_c _ _ _ _ _ H.out).mono ?_; rintro e w' ⟨rfl, rfl⟩)
  go_ret
  exact ⟨w.heap.size, rfl, Nat.le_refl _, heap_alloc_new _ _, (Below.refl _ _).alloc (Nat.le_refl _) _⟩
theorem flat44 : flatAt Try.prog 3 44 = some [Sc.i .i64, Sc.i .i64] := by kernel_rfl
theorem agg44 : aggT Try.prog 44 = true := by kernel_rfl
theorem eql44 (a b c d : Int) (w : World) : (binOp .eql 44 (.agg #[.int .i64 a, .int .i64 b]) (.agg #[.int .i64 c, .int .i64 d])).run Try.prog w = .ok (.bool (a == c && b == d)) w := by
  have hf : ∀ a b : Int, Fit [Sc.i .i64, Sc.i .i64] (#[Value.int .i64 a, Value.int .i64 b]).toList := fun a b => ⟨⟨a, rfl⟩, ⟨b, rfl⟩, trivial⟩
  exact (run_eql_flat w 3 flat44 (by decide) agg44 (hf a b) (hf c d)).trans (by simp [eqs, eqv])

/-! Same. -/
theorem same_gone (w : World) (u v : Value) (h : Gone w u) (h' : Gone w v) : Calls Try.prog 18 #[u, v] w fun e w' => e = .returned (.bool true) ∧ w = w' := by
  go_enter Try.func18, Try.ntmps18
  go_wp2_with (go_at_call 22; first | ((with_reducible refine (there_gone _ _ h).mono ?_); rintro e w' ⟨rfl, rfl⟩) | ((with_reducible refine (there_gone _ _ h').mono ?_); rintro e w' ⟨rfl, rfl⟩))
  go_ret
  exact ⟨rfl, rfl⟩
theorem same_one (w : World) (b : Nat) (r o : Int) (v : Value) (h : w.heap[b]? = some (clkO true r o)) (h' : Gone w v) : Calls Try.prog 18 #[.pointer (some ⟨b, 0, none⟩), v] w fun e w' => e = .returned (.bool false) ∧ w = w' := by
  go_enter Try.func18, Try.ntmps18
  go_wp2_with (go_at_call 22; first | ((with_reducible refine (there_c _ _ _ _ _ h).mono ?_); rintro e w' ⟨rfl, rfl⟩) | ((with_reducible refine (there_gone _ _ h').mono ?_); rintro e w' ⟨rfl, rfl⟩))
  go_ret
  exact ⟨rfl, rfl⟩
theorem same_one' (w : World) (b : Nat) (r o : Int) (v : Value) (h : w.heap[b]? = some (clkO true r o)) (h' : Gone w v) : Calls Try.prog 18 #[v, .pointer (some ⟨b, 0, none⟩)] w fun e w' => e = .returned (.bool false) ∧ w = w' := by
  go_enter Try.func18, Try.ntmps18
  go_wp2_with (go_at_call 22; first | ((with_reducible refine (there_c _ _ _ _ _ h).mono ?_); rintro e w' ⟨rfl, rfl⟩) | ((with_reducible refine (there_gone _ _ h').mono ?_); rintro e w' ⟨rfl, rfl⟩))
  go_ret
  exact ⟨rfl, rfl⟩
theorem same_c (w : World) (b b' : Nat) (r o r' o' : Int) (h : w.heap[b]? = some (clkO true r o)) (h' : w.heap[b']? = some (clkO true r' o')) :
    Calls Try.prog 18 #[.pointer (some ⟨b, 0, none⟩), .pointer (some ⟨b', 0, none⟩)] w fun e w' => e = .returned (.bool (r == r' && o == o')) ∧ Below w.heap.size w w' := by
  have H := Lib.hid h
  have H' := Lib.hid h'
  have c1 := has_cell 1 h rfl
  have c2 := has_cell 2 h rfl
  have d1 := has_cell 1 h' rfl
  have d2 := has_cell 2 h' rfl
  clear h h'
  go_enter Try.func18, Try.ntmps18
  go_wp2_with (go_at_call 22; first | ((with_reducible refine (there_c _ _ _ _ _ H.out).mono ?_); rintro e w' ⟨rfl, rfl⟩) | ((with_reducible refine (there_c _ _ _ _ _ H'.out).mono ?_); rintro e w' ⟨rfl, rfl⟩))
  have he := eql44 r o r' o'
  go_quiet (fail)
  go_wp2
  go_ret
  exact ⟨rfl, below_drewN (Below.refl _ _) _⟩
end Go.Proofs.Ytodcbcbkllnfnaa
