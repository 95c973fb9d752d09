/- The document's keys, as they lie; its New, made, ask, Set, Get, Round, over the translation of this seat. Conditions: the blocks that are named hold what is said. -/
import Derived.Test.YtcchebjeohdkfaaC21Known
namespace Go.Proofs.Ytcchebjeohdkfaa
open Go.RowKit

def rsC (s : Ks) (g : Nat) : List Value := .slice (some ⟨g, 0, none⟩) s.n s.n :: rowsF (fun t => endC (s.e t)) 16
def rO (s : Ks) (g : Nat) : Obj := .cells (rsC s g).toArray 94 (0, 0)
def rlC (s : Ks) : List Value := rowsF (fun i => keyC (s.k i)) s.n
def rL (s : Ks) : Obj := .cells (rlC s).toArray 104 (0, 0)
theorem rlC_length (s : Ks) : (rlC s).length = s.n * 18 := rowsF_length (fun _ => keyC_length _) _
theorem rsC_length (s : Ks) (g : Nat) : (rsC s g).length = 65 := by
  simp [rsC, rowsF_length (f := fun i => endC (s.e i)) (c := 4) (fun _ => endC_length _)]
/-- The document's keys: the structure at b, its keys at g. -/
structure RK (w : World) (b g : Nat) (s : Ks) : Prop where
  kb : w.heap[b]? = some (rO s g)
  kg : w.heap[g]? = some (rL s)
theorem RK.ne {w : World} {b g : Nat} {s : Ks} (h : RK w b g s) : b ≠ g := by
  rintro rfl
  have := h.kb
  rw [h.kg] at this
  injection this with this
  injection this with _ h2
  cases h2
theorem RK.reads {w w' : World} {b g : Nat} {s : Ks} (h : RK w b g s) (hb : Below w.heap.size w w') : RK w' b g s := ⟨below_has hb h.kb, below_has hb h.kg⟩
theorem RK.drewN {w : World} {b g : Nat} {s : Ks} (h : RK w b g s) (m : Nat) : RK (w.drewN m) b g s := ⟨h.kb, h.kg⟩
theorem rl_key (s : Ks) {i j : Nat} (hi : i < s.n) (hj : j < 18) : (rlC s)[i * 18 + j]? = (keyC (s.k i))[j]? := rowsF_get (f := fun i => keyC (s.k i)) (fun _ => keyC_length _) hj hi
theorem rs_end (s : Ks) (g : Nat) {t j : Nat} (ht : t < 16) (hj : j < 4) : (rsC s g)[1 + t * 4 + j]? = (endC (s.e t))[j]? := by
  rw [show 1 + t * 4 + j = (t * 4 + j) + 1 by omega, rsC, List.getElem?_cons_succ]
  exact rowsF_get (f := fun i => endC (s.e i)) (fun _ => endC_length _) hj ht
theorem rk_cells {w : World} {b g : Nat} {s : Ks} (h : RK w b g s) : w.cell? ⟨b, 0, none⟩ = some (.slice (some ⟨g, 0, none⟩) s.n s.n) ∧
    (∀ i : Nat, i < s.n → w.cell? ⟨g, i * 18, none⟩ = some (.bool (s.k i).is) ∧ w.cell? ⟨g, i * 18 + 1, none⟩ = some (.int .i64 (s.k i).d) ∧ ∀ t : Nat, t < 16 → w.cell? ⟨g, i * 18 + 2 + t, none⟩ = some (.int .i64 ((s.k i).v t))) ∧
    ∀ t : Nat, t < 16 → w.cell? ⟨b, 1 + t * 4, none⟩ = some (.int .i64 (s.e t).round) ∧ w.cell? ⟨b, 1 + t * 4 + 1, none⟩ = some (.int .i64 (s.e t).at_) ∧ w.cell? ⟨b, 1 + t * 4 + 2, none⟩ = some (.bool (s.e t).some_) ∧ w.cell? ⟨b, 1 + t * 4 + 3, none⟩ = some (.bool (s.e t).over) := by
  refine ⟨has_cell 0 h.kb rfl, fun i hi => ⟨has_cell _ h.kg ?_, has_cell _ h.kg ?_, fun t ht => has_cell _ h.kg ?_⟩, fun t ht => ⟨has_cell _ h.kb ?_, has_cell _ h.kb ?_, has_cell _ h.kb ?_, has_cell _ h.kb ?_⟩⟩
  · rw [List.getElem?_toArray, ← Nat.add_zero (i * 18), rl_key s hi (by decide)]; rfl
  · rw [List.getElem?_toArray, rl_key s hi (by decide)]; rfl
  · rw [List.getElem?_toArray, show i * 18 + 2 + t = i * 18 + (t + 1 + 1) by omega, rl_key s hi (by omega), keyC, List.getElem?_cons_succ, List.getElem?_cons_succ, rowI_get _ ht]
  · rw [List.getElem?_toArray, ← Nat.add_zero (1 + t * 4), rs_end s g ht (by decide)]; rfl
  · rw [List.getElem?_toArray, rs_end s g ht (by decide)]; rfl
  · rw [List.getElem?_toArray, rs_end s g ht (by decide)]; rfl
  · rw [List.getElem?_toArray, rs_end s g ht (by decide)]; rfl
theorem rl_setk (s : Ks) {i j : Nat} (hi : i < s.n) (hj : j < 18) (x : Ky) (v : Value) (hx : keyC x = (keyC (s.k i)).set j v) : (rlC s).toArray.setIfInBounds (i * 18 + j) v = (rlC { s with k := put s.k i x }).toArray := by
  rw [List.setIfInBounds_toArray, rlC, rowsF_set (f := fun i => keyC (s.k i)) (g := fun k => keyC (put s.k i x k)) (fun _ => keyC_length _) hj (by simp only [put_self]; exact hx) (fun k hne => by simp only [put_ne _ _ hne]) hi]
  rfl
theorem rl_putk (s : Ks) {i : Nat} (hi : i < s.n) (x : Ky) : spl (rlC s).toArray (i * 18) (keyC x) = (rlC { s with k := put s.k i x }).toArray := by
  have h1 : (i + 1) * 18 ≤ s.n * 18 := Nat.mul_le_mul_right _ hi
  rw [spl_list _ _ _ (by rw [rlC_length, keyC_length]; omega), keyC_length]
  congr 1
  have e := rowsF_swap (f := fun i => keyC (s.k i)) (g := fun j => keyC (put s.k i x j)) (c := 18) (i := i) (fun _ => keyC_length _) (fun k hne => by simp only [put_ne _ _ hne]) hi
  simp only [put_self] at e
  exact e.symm
theorem rs_sete (s : Ks) (g : Nat) {t j : Nat} (ht : t < 16) (hj : j < 4) (x : En) (v : Value) (hx : endC x = (endC (s.e t)).set j v) : (rsC s g).toArray.setIfInBounds (1 + t * 4 + j) v = (rsC { s with e := put s.e t x } g).toArray := by
  rw [List.setIfInBounds_toArray, show 1 + t * 4 + j = (t * 4 + j) + 1 by omega, rsC, List.set_cons_succ]
  rw [rowsF_set (f := fun i => endC (s.e i)) (g := fun k => endC (put s.e t x k)) (fun _ => endC_length _) hj (by simp only [put_self]; exact hx) (fun k hne => by simp only [put_ne _ _ hne]) ht]
  rfl
theorem rs_pute (s : Ks) (g : Nat) {t : Nat} (ht : t < 16) (x : En) : spl (rsC s g).toArray (1 + t * 4) (endC x) = (rsC { s with e := put s.e t x } g).toArray := by
  have he := rowsF_length (f := fun i => endC (s.e i)) (c := 4) (fun _ => endC_length _) 16
  rw [spl_list _ _ _ (by rw [rsC_length, endC_length]; omega), endC_length]
  congr 1
  have e := rowsF_swap (f := fun i => endC (s.e i)) (g := fun j => endC (put s.e t x j)) (c := 4) (i := t) (fun _ => endC_length _) (fun k hne => by simp only [put_ne _ _ hne]) ht
  simp only [put_self] at e
  simp only [rsC]
  rw [e, show 1 + t * 4 = t * 4 + 1 by omega, List.take_succ_cons, show t * 4 + 1 + 4 = (t * 4 + 4) + 1 by omega, List.drop_succ_cons]
  simp [List.append_assoc]
/-- A key turns; an end turns. -/
theorem RK.key {w w' : World} {b g : Nat} {s : Ks} {i : Nat} {x : Ky} (h : RK w b g s) (u : Upd w g (rL { s with k := put s.k i x }) w') : RK w' b g { s with k := put s.k i x } := ⟨u.other h.kb h.ne, u.1⟩
theorem RK.end_ {w w' : World} {b g : Nat} {s : Ks} {t : Nat} {x : En} (h : RK w b g s) (u : Upd w b (rO { s with e := put s.e t x } g) w') : RK w' b g { s with e := put s.e t x } := ⟨u.1, u.other h.kg (fun e => h.ne e.symm)⟩

/-! New. -/
theorem rnew_bad (w : World) (x : Int) (h : x < 1 ∨ 8 < x) : Calls Try.prog 22 #[.int .i64 x] w fun e w' => e = .returned (.pointer none) ∧ w = w' := by
  by_cases h0 : x < 1
  · go_enter Try.func22, Try.ntmps22
    go_wp2
    go_ret
    exact ⟨rfl, rfl⟩
  · have h1 : 8 < x := by omega
    clear h
    go_enter Try.func22, Try.ntmps22
    go_wp2
    go_ret
    exact ⟨rfl, rfl⟩
theorem info_parts4 {P : Program} {t : TypeId} {z : Value} {s b : Nat} (h : (P.info? t).map (fun i => (i.zero, i.size, i.bytes)) = some (some z, s, b)) : ∃ i, P.info? t = some i ∧ i.zero = some z ∧ i.size = s ∧ i.bytes = b := by
  cases hi : P.info? t with
  | none => rw [hi] at h; cases h
  | some i =>
    rw [hi] at h
    injection h with h
    injection h with h1 h
    injection h with h2 h3
    exact ⟨i, rfl, h1, h2, h3⟩
theorem info104 : (Try.prog.info? 104).map (fun i => (i.zero, i.size, i.bytes)) = some (some (.agg (keyC noKey).toArray), 18, 144) := by kernel_rfl
theorem made_keys {n : Nat} (h1 : n ≤ 8) : (madeCells (Value.agg (keyC noKey).toArray).cells (n * 18)).toList = rowsF (fun _ => keyC noKey) n := by
  have : n = 0 ∨ n = 1 ∨ n = 2 ∨ n = 3 ∨ n = 4 ∨ n = 5 ∨ n = 6 ∨ n = 7 ∨ n = 8 := by omega
  simp only [madeCells, Value.cells, Array.toList_map, Array.toList_range]
  rcases this with rfl | rfl | rfl | rfl | rfl | rfl | rfl | rfl | rfl <;> rfl
set_option maxRecDepth 100000 in
theorem rnew_c (w : World) (n : Nat) (h0 : 1 ≤ n) (h1 : n ≤ 8) : Calls Try.prog 22 #[.int .i64 n] w fun e w' => ∃ b, e = .returned (.pointer (some ⟨b, 0, none⟩)) ∧ w.heap.size < b ∧ RK w' b w.heap.size (newK n) ∧ Below w.heap.size w w' := by
  obtain ⟨i4, hi, hz0, hz1, hz2⟩ := info_parts4 info104
  obtain ⟨Z, hz, hne, Y, hset, hY⟩ : ∃ Z : Array Value, (∀ w, (zeroValue 94).run Try.prog w = .ok (.agg Z) w) ∧ ¬ Z = #[] ∧ ∃ Y, Z.setIfInBounds 0 (.slice (some ⟨w.heap.size, 0, none⟩) n n) = Y ∧ Y = (rsC (newK n) w.heap.size).toArray := by
    refine ⟨(.slice none 0 0 :: rowsF (fun _ => endC noEnd) 16 : List Value).toArray, fun w => by kernel_rfl, fun e => ?_, _, rfl, ?_⟩
    · have := congrArg Array.size e
      simp at this
    · simp [rsC, newK]
  have HY := Lib.hid hY
  clear hY
  go_enter Try.func22, Try.ntmps22
  go_wp2_with (refine wpList_make_full _ rfl (.tmp 9) (.tmp 9) 89 rfl w.heap.size 104 i4 _ 18 Try.underlying89 hi hz0 hz1 .i64 .i64 n n n rfl rfl rfl rfl (by rw [hz2]; omega) (by unfold maxLen; omega) (Nat.le_refl _) ?_; intro W hO hG)
  have hrow : W.heap[w.heap.size]? = some (rL (newK n)) := by
    rcases hO.2 with ⟨e, _⟩ | ⟨g, cap, cur, e, _, hg, hn, _, hs, ht⟩
    · cases e
    · injection e with e1 e2 e3
      injection e1 with e1
      injection e1 with e1
      subst e1 e3
      rw [hg, rL]
      congr 2
      rw [List.take_of_length_le (by simp [hs])] at ht
      rw [made_keys h1] at ht
      exact Array.toList_inj.1 (by simpa [rlC, newK] using ht)
  have hb1 : Below w.heap.size w W := ⟨hG.os, hG.tape, hG.output, hG.size, fun k hk => hG.block k hk (by simp)⟩
  go_ret
  refine ⟨W.heap.size, rfl, has_lt hrow, ⟨?_, below_alloc_has hrow⟩, hb1.alloc hb1.size _⟩
  rw [heap_alloc_new, rO, HY.out]

/-! made, ask, Set, Get, Round. -/
theorem rmade_c (w : World) (b g : Nat) (s : Ks) (i : Int) {y : Bool} (h : RK w b g s) (ok : KOk s) (hy : mkF s i = y) : Calls Try.prog 50 #[.pointer (some ⟨b, 0, none⟩), .int .i64 i] w fun e w' => e = .returned (.bool y) ∧ w = w' := by
  have n2 := ok.n2
  obtain ⟨c0, c1, _⟩ := rk_cells h
  subst hy
  by_cases h0 : 0 ≤ i
  · obtain ⟨k, rfl⟩ : ∃ k : Nat, i = k := ⟨i.toNat, by omega⟩
    by_cases h1 : k < s.n
    · obtain ⟨k0, _, _⟩ := c1 k h1
      have hm : mkF s k = (s.k k).is := by simp [mkF, h1]
      rw [hm]
      have hii : (k : Int) < s.n := by omega
      generalize (s.k k).is = z at k0
      clear c1 hm
      go_enter Try.func50, Try.ntmps50
      go_wp2
      go_ret
      exact ⟨rfl, rfl⟩
    · have hm : mkF s k = false := by simp [mkF, h1]
      rw [hm]
      have hii : ¬ (k : Int) < s.n := by omega
      clear c1 hm
      go_enter Try.func50, Try.ntmps50
      go_wp2
      go_ret
      exact ⟨rfl, rfl⟩
  · have hm : mkF s i = false := by simp [mkF]; omega
    rw [hm]
    clear c1 hm
    go_enter Try.func50, Try.ntmps50
    go_wp2
    go_ret
    exact ⟨rfl, rfl⟩
theorem thF_rng {t : Int} (h : thF t = true) : ∃ k : Nat, t = k ∧ k < 16 := by
  simp [thF] at h
  exact ⟨t.toNat, by omega, by omega⟩
theorem kask_c (w : World) (b g : Nat) (s : Ks) (t i : Int) {z : Int} (h : RK w b g s) (ok : KOk s) (hz : eF s t i = z) : Calls Try.prog 51 #[.pointer (some ⟨b, 0, none⟩), .int .i64 t, .int .i64 i] w fun e w' => e = .returned (.int .i64 z) ∧ w = w' := by
  subst hz
  unfold eF
  by_cases ht : thF t = true
  · rw [if_pos ht]
    obtain ⟨k, rfl, hk⟩ := thF_rng ht
    have hki : (k : Int) < 16 := by omega
    clear ht
    cases hy : mkF s i with
    | true =>
      rw [if_pos rfl]
      go_enter Try.func51, Try.ntmps51
      go_wp2_with (go_at_call 50; refine (rmade_c _ _ _ _ _ h ok hy).mono ?_; rintro e w' ⟨rfl, rfl⟩)
      go_ret
      exact ⟨rfl, rfl⟩
    | false =>
      rw [if_neg (by decide)]
      go_enter Try.func51, Try.ntmps51
      go_wp2_with (go_at_call 50; refine (rmade_c _ _ _ _ _ h ok hy).mono ?_; rintro e w' ⟨rfl, rfl⟩)
      go_ret
      exact ⟨rfl, rfl⟩
  · rw [if_neg ht]
    by_cases h0 : t < 0
    · clear ht
      go_enter Try.func51, Try.ntmps51
      go_wp2
      go_ret
      exact ⟨rfl, rfl⟩
    · have h1 : 16 ≤ t := by
        simp [thF] at ht
        omega
      clear ht
      go_enter Try.func51, Try.ntmps51
      go_wp2
      go_ret
      exact ⟨rfl, rfl⟩
theorem rget_c (w : World) (b g : Nat) (s : Ks) (t i : Int) (h : RK w b g s) (ok : KOk s) :
    Calls Try.prog 42 #[.pointer (some ⟨b, 0, none⟩), .int .i64 t, .int .i64 i] w fun e w' => e = .returned (.tuple #[.int .i64 (getF s t i), .int .i64 (eF s t i)]) ∧ w = w' := by
  by_cases he : eF s t i = 0
  · obtain ⟨k, m, rfl, rfl, hk, hm, hmk⟩ := eF_ok he
    have hs : getF s k m = (s.k m).v k := by unfold getF; rw [if_pos he]; simp
    obtain ⟨c0, c1, _⟩ := rk_cells h
    have k3 := (c1 m hm).2.2 k hk
    have hki : (k : Int) < 16 := by omega
    have hmi : (m : Int) < s.n := by omega
    have HE := Lib.hid he
    rw [he, hs]
    clear he hs c1
    go_enter Try.func42, Try.ntmps42
    go_wp2_with (go_at_call 51; refine (kask_c _ _ _ _ _ _ h ok HE.out).mono ?_; rintro e w' ⟨rfl, rfl⟩)
    go_ret2
    exact ⟨rfl, rfl⟩
  · have hs : getF s t i = 0 := by unfold getF; rw [if_neg he]
    rw [hs]
    obtain ⟨z, hz⟩ : ∃ z, eF s t i = z := ⟨_, rfl⟩
    rw [hz] at he ⊢
    have hne : (z != 0) = true := by simpa using he
    have HZ := Lib.hid hz
    clear hz he hs
    go_enter Try.func42, Try.ntmps42
    go_wp2_with (go_at_call 51; refine (kask_c _ _ _ _ _ _ h ok HZ.out).mono ?_; rintro e w' ⟨rfl, rfl⟩)
    go_ret2
    exact ⟨rfl, rfl⟩
theorem rl_val (s : Ks) {i t : Nat} (hi : i < s.n) (ht : t < 16) (v : Int) : (rlC s).toArray.setIfInBounds (i * 18 + 2 + t) (.int .i64 v) = (rlC { s with k := put s.k i { s.k i with v := put (s.k i).v t v } }).toArray := by
  rw [show i * 18 + 2 + t = i * 18 + (t + 1 + 1) by omega]
  refine rl_setk s hi (by omega) _ _ ?_
  simp only [keyC, List.set_cons_succ]
  rw [rowI_set _ _ ht]
  rfl
theorem rset_c (w : World) (b g : Nat) (s : Ks) (t i v : Int) (h : RK w b g s) (ok : KOk s) :
    Calls Try.prog 41 #[.pointer (some ⟨b, 0, none⟩), .int .i64 t, .int .i64 i, .int .i64 v] w fun e w' => e = .returned (.int .i64 (eF s t i)) ∧ RK w' b g (setF s t i v) ∧ Upd2 w b g w' := by
  by_cases he : eF s t i = 0
  · obtain ⟨k, m, rfl, rfl, hk, hm, hmk⟩ := eF_ok he
    have hs : setF s k m v = { s with k := put s.k m { s.k m with v := put (s.k m).v k v } } := by unfold setF; rw [if_pos he]; simp
    obtain ⟨c0, c1, _⟩ := rk_cells h
    have k3 := (c1 m hm).2.2 k hk
    have fz := has_free h.kg
    have hki : (k : Int) < 16 := by omega
    have hmi : (m : Int) < s.n := by omega
    have u := (Upd.refl h.kg).setCell (m * 18 + 2 + k) (.int .i64 v)
    rw [rl_val s hm hk] at u
    have HRS := Lib.hid (And.intro (h.key u) ((Upd2.refl w b g).right u))
    have HE := Lib.hid he
    rw [he, hs]
    clear he hs c1 u
    go_enter Try.func41, Try.ntmps41
    go_wp2_with (go_at_call 51; refine (kask_c _ _ _ _ _ _ h ok HE.out).mono ?_; rintro e w' ⟨rfl, rfl⟩)
    go_ret
    exact ⟨rfl, HRS.out⟩
  · have hs : setF s t i v = s := by unfold setF; rw [if_neg he]
    rw [hs]
    obtain ⟨z, hz⟩ : ∃ z, eF s t i = z := ⟨_, rfl⟩
    rw [hz] at he ⊢
    have hne : (z == 0) = false := by simpa using he
    have HZ := Lib.hid hz
    clear hz he hs
    go_enter Try.func41, Try.ntmps41
    go_wp2_with (go_at_call 51; refine (kask_c _ _ _ _ _ _ h ok HZ.out).mono ?_; rintro e w' ⟨rfl, rfl⟩)
    go_ret
    exact ⟨rfl, h, Upd2.refl _ _ _⟩
theorem rround_c (w : World) (b g : Nat) (s : Ks) (t : Int) (h : RK w b g s) :
    Calls Try.prog 47 #[.pointer (some ⟨b, 0, none⟩), .int .i64 t] w fun e w' => e = .returned (.int .i64 (if thF t = true then (s.e t.toNat).round else 0 : Nat)) ∧ w = w' := by
  by_cases ht : thF t = true
  · rw [if_pos ht]
    obtain ⟨k, rfl, hk⟩ := thF_rng ht
    have c := ((rk_cells h).2.2 k hk).1
    have hki : (k : Int) < 16 := by omega
    have e : (k : Int).toNat = k := by simp
    rw [e]
    clear e ht
    go_enter Try.func47, Try.ntmps47
    go_wp2
    go_ret
    exact ⟨rfl, rfl⟩
  · rw [if_neg ht]
    by_cases h0 : t < 0
    · clear ht
      go_enter Try.func47, Try.ntmps47
      go_wp2
      go_ret
      exact ⟨rfl, rfl⟩
    · have h1 : 16 ≤ t := by
        simp [thF] at ht
        omega
      clear ht
      go_enter Try.func47, Try.ntmps47
      go_wp2
      go_ret
      exact ⟨rfl, rfl⟩
end Go.Proofs.Ytcchebjeohdkfaa
