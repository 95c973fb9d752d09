/- What each function of the document's clock computes, over the translation of this seat. Conditions: the blocks that are named hold what is said. -/
import Derived.Test.YtodcbcbkllnfnaaC08Clock2
namespace Go.Proofs.Ytodcbcbkllnfnaa
open Go.RowKit

theorem rnew_bad (w : World) (x : Int) (h : x < 0 ∨ 1099511627776 < x) : Calls Try.prog 15 #[.int .i64 x] w fun e w' => e = .returned (.pointer none) ∧ w = w' := by
  by_cases h0 : x < 0
  · go_enter Try.func15, Try.ntmps15
    go_wp2
    go_ret
    exact ⟨rfl, rfl⟩
  · have h1 : 1099511627776 < x := by omega
    clear h
    go_enter Try.func15, Try.ntmps15
    go_wp2
    go_ret
    exact ⟨rfl, rfl⟩
theorem rnew_c (w : World) (x : Int) (h0 : 0 ≤ x) (h1 : x ≤ 1099511627776) : Calls Try.prog 15 #[.int .i64 x] w fun e w' => e = .returned (.pointer (some ⟨w.heap.size, 0, none⟩)) ∧ w'.heap[w.heap.size]? = some (refO x 0) ∧ Below w.heap.size w w' ∧ w.heap.size < w'.heap.size := by
  go_enter Try.func15, Try.ntmps15
  go_wp2
  go_ret
  exact ⟨rfl, heap_alloc_new _ _, (Below.refl _ _).alloc (Nat.le_refl _) _, by simp⟩

theorem rtick_c (w : World) (b : Nat) (r o : Int) (h : w.heap[b]? = some (refO r o)) (hr : 0 ≤ r ∧ r ≤ 1099511627776) (ho : 0 ≤ o ∧ o ≤ 1099511627776) :
    Calls Try.prog 23 #[.pointer (some ⟨b, 0, none⟩)] w fun e w' => e = .returned (.int .i64 0) ∧ Upd w b (refO (upF r) (upF o)) w' := by
  have H := Lib.hid h
  have c1 := has_cell 0 h rfl
  have c2 := has_cell 1 h rfl
  have fz := has_free h
  clear h
  obtain ⟨hr0, hr1⟩ := hr
  obtain ⟨ho0, ho1⟩ := ho
  have wr : IntKind.i64.wrap (r + 1) = r + 1 := IntWalk.i64_in _ (by omega)
  have wo : IntKind.i64.wrap (o + 1) = o + 1 := IntWalk.i64_in _ (by omega)
  have ur : (if 1099511627776 < r + 1 then 1099511627776 else r + 1) = upF r := rfl
  have uo : (if 1099511627776 < o + 1 then 1099511627776 else o + 1) = upF o := rfl
  go_enter Try.func23, Try.ntmps23
  go_wp2_with fail
  refine wp_loop_rounds 3 ?_
  rw [rounds_succ]
  go_wp2_with fail
  refine still_tail 13 (by kernel_rfl) (by kernel_rfl) ?_
  simp only [List.take_succ_cons, List.take_zero, List.drop_succ_cons, List.drop_zero]
  repeat still_step
  refine wpStill_nil ?_
  go_wp2_with fail
  rw [rounds_succ]
  refine upd_wp (((Upd.refl H.out).setCell 0 (.int .i64 (upF r))).drew.to (by simp; rfl)) ?_
  intro W U
  have d2 := has_cell 1 U.1 rfl
  have dz := has_free U.1
  clear fz c1 c2
  have HU := Lib.hid U
  clear U
  go_wp2_with fail
  refine still_tail 13 (by kernel_rfl) (by kernel_rfl) ?_
  simp only [List.take_succ_cons, List.take_zero, List.drop_succ_cons, List.drop_zero]
  repeat still_step
  refine wpStill_nil ?_
  go_wp2_with fail
  rw [rounds_succ]
  go_wp2_with fail
  go_ret
  exact ⟨rfl, ((HU.out.setCell 1 (.int .i64 (upF o))).drew.to (by simp))⟩

theorem rnow_c (w : World) (b : Nat) (r o k : Int) {x e : Int} (h : w.heap[b]? = some (refO r o)) (hx : nowF r o k = (x, e)) : Calls Try.prog 26 #[.pointer (some ⟨b, 0, none⟩), .int .i64 k] w fun e' w' => e' = .returned (.tuple #[.int .i64 x, .int .i64 e]) ∧ w = w' := by
  have c1 := has_cell 0 h rfl
  have c2 := has_cell 1 h rfl
  clear h
  by_cases k0 : k = 0
  · subst k0
    obtain ⟨rfl, rfl⟩ : r = x ∧ 0 = e := by simpa [nowF] using hx
    clear hx
    go_enter Try.func26, Try.ntmps26
    go_wp2
    go_ret2
    exact ⟨rfl, rfl⟩
  · by_cases k1 : k = 1
    · subst k1
      obtain ⟨rfl, rfl⟩ : o = x ∧ 0 = e := by simpa [nowF] using hx
      clear hx
      go_enter Try.func26, Try.ntmps26
      go_wp2
      go_ret2
      exact ⟨rfl, rfl⟩
    · obtain ⟨rfl, rfl⟩ : 0 = x ∧ 2 = e := by simpa [nowF, k0, k1] using hx
      clear hx
      have b0 : (k != 0) = true := by simpa using k0
      have b1 : (k != 1) = true := by simpa using k1
      go_enter Try.func26, Try.ntmps26
      go_wp2
      go_ret2
      exact ⟨rfl, rfl⟩

theorem rin_c (w : World) (b : Nat) (r o k n : Int) {x e : Int} (h : w.heap[b]? = some (refO r o)) (hr : 0 ≤ r ∧ r ≤ 1099511627776) (ho : 0 ≤ o ∧ o ≤ 1099511627776) (hx : inF r o k n = (x, e)) :
    Calls Try.prog 27 #[.pointer (some ⟨b, 0, none⟩), .int .i64 k, .int .i64 n] w fun e' w' => e' = .returned (.tuple #[.int .i64 x, .int .i64 e]) ∧ w = w' := by
  by_cases hk : (nowF r o k).2 = 0
  · have hn := nowF_ok hk
    obtain ⟨y0, y1⟩ := nowF_rng (k := k) hr ho
    by_cases h0 : n < 0
    · obtain ⟨rfl, rfl⟩ : 0 = x ∧ 2 = e := by simpa [inF, hk, h0] using hx
      have HN := Lib.hid hn
      generalize (nowF r o k).1 = y at *
      clear hx hn hr ho hk
      go_enter Try.func27, Try.ntmps27
      go_wp2_with (go_at_call 26; refine (rnow_c _ _ _ _ _ h HN.out).mono ?_; rintro e w' ⟨rfl, rfl⟩)
      go_ret2
      exact ⟨rfl, rfl⟩
    · obtain ⟨rfl, rfl⟩ : inV (nowF r o k).1 n = x ∧ 0 = e := by simpa [inF, hk, h0] using hx
      have HN := Lib.hid hn
      generalize (nowF r o k).1 = y at *
      clear hx hn hr ho hk
      by_cases hle : 1099511627776 - y < n
      · rw [show inV y n = 1099511627776 from by unfold inV; rw [if_neg (by omega)]]
        go_enter Try.func27, Try.ntmps27
        go_wp2_with (go_at_call 26; refine (rnow_c _ _ _ _ _ h HN.out).mono ?_; rintro e w' ⟨rfl, rfl⟩)
        go_ret2
        exact ⟨by simp, rfl⟩
      · rw [show inV y n = y + n from by unfold inV; split <;> omega]
        go_enter Try.func27, Try.ntmps27
        go_wp2_with (go_at_call 26; refine (rnow_c _ _ _ _ _ h HN.out).mono ?_; rintro e w' ⟨rfl, rfl⟩)
        go_ret2
        exact ⟨by simp, rfl⟩
  · have hn := nowF_bad hk
    obtain ⟨rfl, rfl⟩ : 0 = x ∧ 2 = e := by simpa [inF, hk] using hx
    have HN := Lib.hid hn
    clear hx hn hr ho hk
    go_enter Try.func27, Try.ntmps27
    go_wp2_with (go_at_call 26; refine (rnow_c _ _ _ _ _ h HN.out).mono ?_; rintro e w' ⟨rfl, rfl⟩)
    go_ret2
    exact ⟨rfl, rfl⟩

theorem rleft_c (w : World) (b : Nat) (r o k n : Int) {x e : Int} (h : w.heap[b]? = some (refO r o)) (hr : 0 ≤ r ∧ r ≤ 1099511627776) (ho : 0 ≤ o ∧ o ≤ 1099511627776) (hx : leftF r o k n = (x, e)) :
    Calls Try.prog 28 #[.pointer (some ⟨b, 0, none⟩), .int .i64 k, .int .i64 n] w fun e' w' => e' = .returned (.tuple #[.int .i64 x, .int .i64 e]) ∧ w = w' := by
  by_cases hk : (nowF r o k).2 = 0
  · have hn := nowF_ok hk
    obtain ⟨y0, y1⟩ := nowF_rng (k := k) hr ho
    obtain ⟨rfl, rfl⟩ : leftV (nowF r o k).1 n = x ∧ 0 = e := by simpa [leftF, hk] using hx
    have HN := Lib.hid hn
    generalize (nowF r o k).1 = y at *
    clear hx hn hr ho hk
    have hm : (if n ≤ 1099511627776 then n else 1099511627776) ≤ 1099511627776 := by split <;> omega
    by_cases h0 : n ≤ y
    · have hu : leftV y n = 0 := by unfold leftV; simp [h0]
      rw [hu]
      clear hu
      by_cases h1 : n = y
      · subst h1
        go_enter Try.func28, Try.ntmps28
        go_wp2_with (go_at_call 26; refine (rnow_c _ _ _ _ _ h HN.out).mono ?_; rintro e w' ⟨rfl, rfl⟩)
        go_ret2
        exact ⟨by simp, rfl⟩
      · have h2 : n < y := by omega
        clear h1
        go_enter Try.func28, Try.ntmps28
        go_wp2_with (go_at_call 26; refine (rnow_c _ _ _ _ _ h HN.out).mono ?_; rintro e w' ⟨rfl, rfl⟩)
        go_ret2
        exact ⟨by simp, rfl⟩
    · by_cases hle : n ≤ 1099511627776
      · have hu : leftV y n = n - y := by unfold leftV; simp [h0]; omega
        rw [hu]
        clear hu
        go_enter Try.func28, Try.ntmps28
        go_wp2_with (go_at_call 26; refine (rnow_c _ _ _ _ _ h HN.out).mono ?_; rintro e w' ⟨rfl, rfl⟩)
        go_ret2
        exact ⟨by simp, rfl⟩
      · have hu : leftV y n = 1099511627776 - y := by unfold leftV; simp [h0]; omega
        rw [hu]
        clear hu
        go_enter Try.func28, Try.ntmps28
        go_wp2_with (go_at_call 26; refine (rnow_c _ _ _ _ _ h HN.out).mono ?_; rintro e w' ⟨rfl, rfl⟩)
        go_ret2
        exact ⟨by simp, rfl⟩
  · have hn := nowF_bad hk
    obtain ⟨rfl, rfl⟩ : 0 = x ∧ 2 = e := by simpa [leftF, hk] using hx
    have HN := Lib.hid hn
    clear hx hn hr ho hk
    go_enter Try.func28, Try.ntmps28
    go_wp2_with (go_at_call 26; refine (rnow_c _ _ _ _ _ h HN.out).mono ?_; rintro e w' ⟨rfl, rfl⟩)
    go_ret2
    exact ⟨rfl, rfl⟩

theorem dueF_ok {r o k n : Int} (hr : 0 ≤ r ∧ r ≤ 1099511627776) (ho : 0 ≤ o ∧ o ≤ 1099511627776) (hk : (nowF r o k).2 = 0) :
    dueF r o k n = (decide (n ≤ (nowF r o k).1) || (nowF r o k).1 == 1099511627776) := by
  obtain ⟨y0, y1⟩ := nowF_rng (k := k) hr ho
  unfold dueF leftF
  rw [if_pos hk]
  generalize (nowF r o k).1 = y at *
  unfold leftV
  rw [Bool.eq_iff_iff]
  by_cases h1 : n ≤ y
  · simp [h1]
  · by_cases h2 : n < 1099511627776
    · simp [h1, h2]; omega
    · simp [h1, h2]; omega
theorem rdue_c (w : World) (b : Nat) (r o k n : Int) {x : Bool} (h : w.heap[b]? = some (refO r o)) (hr : 0 ≤ r ∧ r ≤ 1099511627776) (ho : 0 ≤ o ∧ o ≤ 1099511627776) (hx : dueF r o k n = x) :
    Calls Try.prog 29 #[.pointer (some ⟨b, 0, none⟩), .int .i64 k, .int .i64 n] w fun e' w' => e' = .returned (.bool x) ∧ w = w' := by
  by_cases hk : (nowF r o k).2 = 0
  · have hn := nowF_ok hk
    have hd := dueF_ok (n := n) hr ho hk
    rw [← hx, hd]
    have HN := Lib.hid hn
    generalize (nowF r o k).1 = y at *
    clear hx hn hr ho hk hd
    by_cases h1 : n ≤ y
    all_goals
      go_enter Try.func29, Try.ntmps29
      go_wp2_with (go_at_call 26; refine (rnow_c _ _ _ _ _ h HN.out).mono ?_; rintro e w' ⟨rfl, rfl⟩)
      go_ret
      exact ⟨by simp [h1], rfl⟩
  · have hn := nowF_bad hk
    obtain rfl : false = x := by rw [← hx]; simp [dueF, leftF, hk]
    have HN := Lib.hid hn
    clear hx hn hr ho hk
    go_enter Try.func29, Try.ntmps29
    go_wp2_with (go_at_call 26; refine (rnow_c _ _ _ _ _ h HN.out).mono ?_; rintro e w' ⟨rfl, rfl⟩)
    go_ret
    exact ⟨rfl, rfl⟩

theorem rset_c (w : World) (b : Nat) (r o k n : Int) {e : Int} (h : w.heap[b]? = some (refO r o)) (hx : setF k n = e) :
    Calls Try.prog 24 #[.pointer (some ⟨b, 0, none⟩), .int .i64 k, .int .i64 n] w fun e' w' => e' = .returned (.int .i64 e) ∧ Upd w b (refO (setR r k n) o) w' := by
  have H := Lib.hid h
  have c1 := has_cell 0 h rfl
  have fz := has_free h
  clear h
  by_cases k0 : k = 0
  · subst k0
    have hN : Hid (nowF r o 0 = (r, 0)) := Lib.hid rfl
    by_cases n0 : n < 0
    · obtain rfl : 2 = e := by rw [← hx]; simp [setF, n0]
      rw [show setR r 0 n = r from by unfold setR; rw [if_neg (by omega)]]
      clear hx
      go_enter Try.func24, Try.ntmps24
      go_wp2_with (go_at_call 26; refine (rnow_c _ _ _ _ _ H.out hN.out).mono ?_; rintro e w' ⟨rfl, rfl⟩)
      go_ret
      exact ⟨rfl, Upd.refl H.out⟩
    · by_cases n1 : 1099511627776 < n
      · obtain rfl : 2 = e := by rw [← hx]; simp [setF, n1]
        rw [show setR r 0 n = r from by unfold setR; rw [if_neg (by omega)]]
        clear hx
        go_enter Try.func24, Try.ntmps24
        go_wp2_with (go_at_call 26; refine (rnow_c _ _ _ _ _ H.out hN.out).mono ?_; rintro e w' ⟨rfl, rfl⟩)
        go_ret
        exact ⟨rfl, Upd.refl H.out⟩
      · obtain rfl : 0 = e := by rw [← hx]; simp [setF, n0, n1]
        rw [show setR r 0 n = n from by unfold setR; rw [if_pos (by omega)]]
        clear hx
        go_enter Try.func24, Try.ntmps24
        go_wp2_with (go_at_call 26; refine (rnow_c _ _ _ _ _ H.out hN.out).mono ?_; rintro e w' ⟨rfl, rfl⟩)
        go_ret
        exact ⟨rfl, ((Upd.refl H.out).setCell 0 _).to (by simp)⟩
  · rw [show setR r k n = r from by unfold setR; rw [if_neg (by omega)]]
    by_cases k1 : k = 1
    · subst k1
      have hN : Hid (nowF r o 1 = (o, 0)) := Lib.hid rfl
      by_cases n0 : n < 0
      · obtain rfl : 2 = e := by rw [← hx]; simp [setF, n0]
        clear hx
        go_enter Try.func24, Try.ntmps24
        go_wp2_with (go_at_call 26; refine (rnow_c _ _ _ _ _ H.out hN.out).mono ?_; rintro e w' ⟨rfl, rfl⟩)
        go_ret
        exact ⟨rfl, Upd.refl H.out⟩
      · by_cases n1 : 1099511627776 < n
        · obtain rfl : 2 = e := by rw [← hx]; simp [setF, n1]
          clear hx
          go_enter Try.func24, Try.ntmps24
          go_wp2_with (go_at_call 26; refine (rnow_c _ _ _ _ _ H.out hN.out).mono ?_; rintro e w' ⟨rfl, rfl⟩)
          go_ret
          exact ⟨rfl, Upd.refl H.out⟩
        · obtain rfl : 7 = e := by rw [← hx]; simp [setF, n0, n1]
          clear hx
          go_enter Try.func24, Try.ntmps24
          go_wp2_with (go_at_call 26; refine (rnow_c _ _ _ _ _ H.out hN.out).mono ?_; rintro e w' ⟨rfl, rfl⟩)
          go_ret
          exact ⟨rfl, Upd.refl H.out⟩
    · obtain rfl : 2 = e := by rw [← hx]; simp [setF, k0, k1]
      have hN : Hid (nowF r o k = (0, 2)) := Lib.hid (by simp [nowF, k0, k1])
      clear hx
      go_enter Try.func24, Try.ntmps24
      go_wp2_with (go_at_call 26; refine (rnow_c _ _ _ _ _ H.out hN.out).mono ?_; rintro e w' ⟨rfl, rfl⟩)
      go_ret
      exact ⟨rfl, Upd.refl H.out⟩

theorem rsame_nil (w : World) (v : Option Addr) : Calls Try.prog 19 #[.pointer none, .pointer v] w fun e w' => e = .returned (.bool v.isNone) ∧ w = w' := by
  cases v
  all_goals
    go_enter Try.func19, Try.ntmps19
    go_wp2
    go_ret
    exact ⟨rfl, rfl⟩
theorem rsame_nil' (w : World) (v : Addr) : Calls Try.prog 19 #[.pointer (some v), .pointer none] w fun e w' => e = .returned (.bool false) ∧ w = w' := by
  go_enter Try.func19, Try.ntmps19
  go_wp2
  go_ret
  exact ⟨rfl, rfl⟩
theorem rsame_c (w : World) (b b' : Nat) (r o r' o' : Int) (h : w.heap[b]? = some (refO r o)) (h' : w.heap[b']? = some (refO r' o')) :
    Calls Try.prog 19 #[.pointer (some ⟨b, 0, none⟩), .pointer (some ⟨b', 0, none⟩)] w fun e w' => e = .returned (.bool (r == r' && o == o')) ∧ Below w.heap.size w w' := by
  have c1 := has_cell 0 h rfl
  have c2 := has_cell 1 h rfl
  have d1 := has_cell 0 h' rfl
  have d2 := has_cell 1 h' rfl
  clear h h'
  have he := eql44 r o r' o'
  go_enter Try.func19, Try.ntmps19
  go_wp2_with fail
  go_quiet (fail)
  go_wp2
  go_ret
  exact ⟨rfl, below_drewN (Below.refl _ _) _⟩
end Go.Proofs.Ytodcbcbkllnfnaa
