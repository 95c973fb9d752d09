/- Set, Get, Create, Delete, Clear, Round, New of keys, over the translation of this seat. Conditions: the blocks that are named hold what is said. -/
import Derived.Test.YtcchebjeohdkfaaC21K
namespace Go.Proofs.Ytcchebjeohdkfaa
open Go.RowKit

def eF (s : Ks) (t i : Int) : Int := if thF t = true then (if mkF s i = true then 0 else 6) else 2
def setF (s : Ks) (t i v : Int) : Ks := if eF s t i = 0 then { s with k := put s.k i.toNat { s.k i.toNat with v := put (s.k i.toNat).v t.toNat v } } else s
def getF (s : Ks) (t i : Int) : Int := if eF s t i = 0 then (s.k i.toNat).v t.toNat else 0
theorem eF_ok {s : Ks} {t i : Int} (h : eF s t i = 0) : ∃ (k m : Nat), t = k ∧ i = m ∧ k < 16 ∧ m < s.n ∧ (s.k m).is = true := by
  unfold eF at h
  by_cases h1 : thF t = true
  · rw [if_pos h1] at h
    by_cases h2 : mkF s i = true
    · obtain ⟨m, rfl, hm, hk⟩ := mkF_nat h2
      simp [thF] at h1
      exact ⟨t.toNat, m, by omega, rfl, by omega, hm, hk⟩
    · rw [if_neg h2] at h; cases h
  · rw [if_neg h1] at h; cases h
theorem eF_nat {s : Ks} {t i : Nat} (ht : t < 16) (hi : i < s.n) (hm : (s.k i).is = true) : eF s t i = 0 := by
  have h1 : thF (t : Int) = true := by simp [thF]; omega
  have h2 : mkF s (i : Int) = true := by simp [mkF, hi, hm]
  simp [eF, h1, h2]
theorem set1_c (w : World) (b o x : Nat) (z : Value) (v : Int) (cs : Array Value) (T : TypeId) (hb : w.heap[b]? = some (.cells cs T (0, 0))) (ho : cs[o]? = some z) (hz : ∃ y, z = .int .i64 y) (hx : w.heap[x]? = some (.cells #[.int .i64 v] 2 (0, 0))) :
    Calls Try.prog 32 #[.pointer (some ⟨b, o, none⟩), .pointer (some ⟨x, 0, none⟩)] w fun e w' => (∃ r, e = .returned r) ∧ Upd w b (.cells (cs.setIfInBounds o (.int .i64 v)) T (0, 0)) w' := by
  have c := has_cell o hb ho
  have cx := has_cell 0 hx rfl
  have fz := has_free hb
  have U := (Upd.refl hb).setCell o (.int .i64 v)
  obtain ⟨y, rfl⟩ := hz
  clear hb ho
  go_enter Try.func32, Try.ntmps32
  go_wp2
  go_end0
  exact ⟨⟨_, rfl⟩, U⟩
theorem get1_c (w : World) (b o x : Nat) (y v : Int) (hc : w.cell? ⟨b, o, none⟩ = some (.int .i64 y)) (hx : w.heap[x]? = some (.cells #[.int .i64 v] 2 (0, 0))) :
    Calls Try.prog 33 #[.pointer (some ⟨b, o, none⟩), .pointer (some ⟨x, 0, none⟩)] w fun e w' => (∃ r, e = .returned r) ∧ Upd w x (.cells #[.int .i64 y] 2 (0, 0)) w' := by
  have cx := has_cell 0 hx rfl
  have fz := has_free hx
  have U := (Upd.refl hx).setCell 0 (.int .i64 y)
  clear hx
  go_enter Try.func33, Try.ntmps33
  go_wp2
  go_end0
  exact ⟨⟨_, rfl⟩, U⟩
theorem upd_key (s : Ks) {i t : Nat} (hi : i < 8) (ht : t < 16) (v : Int) : (ksC s).toArray.setIfInBounds (1 + i * 18 + 2 + t) (.int .i64 v) = (ksC { s with k := put s.k i { s.k i with v := put (s.k i).v t v } }).toArray := by
  rw [show 1 + i * 18 + 2 + t = 1 + i * 18 + (t + 1 + 1) by omega]
  refine ks_setk s hi (by omega) _ _ ?_
  simp only [keyC, List.set_cons_succ]
  rw [rowI_set _ _ ht]
  rfl
theorem thF_nat {t : Nat} (ht : t < 16) : thF t = true := by simp [thF]; omega
theorem k_val (s : Ks) {i t : Nat} (hi : i < 8) (ht : t < 16) : (ksC s).toArray[1 + i * 18 + 2 + t]? = some (.int .i64 ((s.k i).v t)) := by
  rw [List.getElem?_toArray, show 1 + i * 18 + 2 + t = 1 + i * 18 + (t + 1 + 1) by omega, ks_key s hi (by omega), keyC, List.getElem?_cons_succ, List.getElem?_cons_succ, rowI_get _ ht]
theorem valset_ok (w : World) (b x : Nat) (s : Ks) (t i : Nat) (v : Int) (h : w.heap[b]? = some (kO s)) (ok : KOk s) (ht : t < 16) (hi : i < s.n) (hm : (s.k i).is = true) (hX : w.heap[x]? = some (.cells #[.int .i64 v] 2 (0, 0))) :
    Calls Try.prog 31 #[.pointer (some ⟨b, 0, none⟩), .int .i64 t, .int .i64 i, .func (.func 32) #[] #[.pointer (some ⟨x, 0, none⟩)]] w fun e w' => e = .returned (.int .i64 0) ∧ Upd w b (kO { s with k := put s.k i { s.k i with v := put (s.k i).v t v } }) w' := by
  have n2 := ok.n2
  have hth := thF_nat ht
  have hti : (t : Int) < 16 := by omega
  go_enter Try.func31, Try.ntmps31
  go_wp2_with (first | (go_at_call 49; refine (of_c _ _ _ _ h ok hi hm).mono ?_; rintro e w' ⟨rfl, rfl⟩) | (go_at_call 34; refine (thread_c _ _ hth).mono ?_; rintro e w' ⟨rfl, rfl⟩) | (go_at_call 32; refine (set1_c _ b (1 + i * 18 + 2 + t) x _ v _ _ h (k_val s (by omega) ht) ⟨_, rfl⟩ hX).mono ?_; rintro e w1 ⟨⟨r, rfl⟩, u⟩))
  go_ret
  exact ⟨rfl, u.to (by rw [upd_key s (by omega) ht]; rfl)⟩
theorem valget_ok (w : World) (b x : Nat) (s : Ks) (t i : Nat) (v : Int) (h : w.heap[b]? = some (kO s)) (ok : KOk s) (ht : t < 16) (hi : i < s.n) (hm : (s.k i).is = true) (hX : w.heap[x]? = some (.cells #[.int .i64 v] 2 (0, 0))) :
    Calls Try.prog 31 #[.pointer (some ⟨b, 0, none⟩), .int .i64 t, .int .i64 i, .func (.func 33) #[] #[.pointer (some ⟨x, 0, none⟩)]] w fun e w' => e = .returned (.int .i64 0) ∧ Upd w x (.cells #[.int .i64 ((s.k i).v t)] 2 (0, 0)) w' := by
  have n2 := ok.n2
  have hth := thF_nat ht
  have hti : (t : Int) < 16 := by omega
  go_enter Try.func31, Try.ntmps31
  go_wp2_with (first | (go_at_call 49; refine (of_c _ _ _ _ h ok hi hm).mono ?_; rintro e w' ⟨rfl, rfl⟩) | (go_at_call 34; refine (thread_c _ _ hth).mono ?_; rintro e w' ⟨rfl, rfl⟩) | (go_at_call 33; refine (get1_c _ b (1 + i * 18 + 2 + t) x _ v (has_cell _ h (k_val s (by omega) ht)) hX).mono ?_; rintro e w1 ⟨⟨r, rfl⟩, u⟩))
  go_ret
  exact ⟨rfl, u⟩
theorem val_no (w : World) (b : Nat) (s : Ks) (t i : Int) (f : Value) (h : w.heap[b]? = some (kO s)) (ok : KOk s) (he : eF s t i ≠ 0) :
    Calls Try.prog 31 #[.pointer (some ⟨b, 0, none⟩), .int .i64 t, .int .i64 i, f] w fun e w' => e = .returned (.int .i64 (eF s t i)) ∧ w = w' := by
  unfold eF at *
  obtain ⟨y, hy⟩ : ∃ y, thF t = y := ⟨_, rfl⟩
  by_cases hm : mkF s i = true
  · cases y with
    | true => exact absurd (by simp [hy, hm]) he
    | false =>
      obtain ⟨k, rfl, hk, hkm⟩ := mkF_nat hm
      simp only [hy, Bool.false_eq_true, if_false]
      clear he hm
      go_enter Try.func31, Try.ntmps31
      go_wp2_with (first | (go_at_call 49; refine (of_c _ _ _ _ h ok hk hkm).mono ?_; rintro e w' ⟨rfl, rfl⟩) | (go_at_call 34; refine (thread_c _ _ hy).mono ?_; rintro e w' ⟨rfl, rfl⟩))
      go_ret
      exact ⟨rfl, rfl⟩
  · have hm' : mkF s i = false := by simpa using hm
    cases y with
    | true =>
      simp only [hy, hm', if_true, Bool.false_eq_true, if_false]
      clear he hm
      go_enter Try.func31, Try.ntmps31
      go_wp2_with (first | (go_at_call 49; refine (of_no _ _ _ _ h ok hm').mono ?_; rintro e w' ⟨rfl, rfl⟩) | (go_at_call 34; refine (thread_c _ _ hy).mono ?_; rintro e w' ⟨rfl, rfl⟩))
      go_ret
      exact ⟨rfl, rfl⟩
    | false =>
      simp only [hy, Bool.false_eq_true, if_false]
      clear he hm
      go_enter Try.func31, Try.ntmps31
      go_wp2_with (first | (go_at_call 49; refine (of_no _ _ _ _ h ok hm').mono ?_; rintro e w' ⟨rfl, rfl⟩) | (go_at_call 34; refine (thread_c _ _ hy).mono ?_; rintro e w' ⟨rfl, rfl⟩))
      go_ret
      exact ⟨rfl, rfl⟩
theorem set_c (w : World) (b : Nat) (s : Ks) (t i v : Int) (h : w.heap[b]? = some (kO s)) (ok : KOk s) :
    Calls Try.prog 11 #[.pointer (some ⟨b, 0, none⟩), .int .i64 t, .int .i64 i, .int .i64 v] w fun e w' => e = .returned (.int .i64 (eF s t i)) ∧ Upd w b (kO (setF s t i v)) w' := by
  have hbl := has_lt h
  by_cases he : eF s t i = 0
  · obtain ⟨k, m, rfl, rfl, hk, hm, hmk⟩ := eF_ok he
    have hs : setF s k m v = { s with k := put s.k m { s.k m with v := put (s.k m).v k v } } := by unfold setF; rw [if_pos he]; simp
    rw [he, hs]
    clear he hs
    go_enter Try.func11, Try.ntmps11
    go_upto_region 1 with fail
    refine world_wp (fun W => Below w.heap.size w W ∧ W.heap[w.heap.size]? = some (.cells #[.int .i64 v] 2 (0, 0))) ⟨(Below.refl _ _).alloc (Nat.le_refl _) _, heap_alloc_new _ _⟩ ?_
    rintro W ⟨hB, hX⟩
    have hK := below_has hB h
    go_wp2_with (go_at_call 31; refine (valset_ok _ _ _ _ _ _ _ hK ok hk hm hmk hX).mono ?_; rintro e w' ⟨rfl, u⟩)
    go_ret
    exact ⟨rfl, Upd.after hB u⟩
  · have hs : setF s t i v = s := by unfold setF; rw [if_neg he]
    have HE := Lib.hid he
    rw [hs]
    clear he hs
    go_enter Try.func11, Try.ntmps11
    go_upto_region 1 with fail
    refine world_wp (fun W => Below w.heap.size w W ∧ W.heap[w.heap.size]? = some (.cells #[.int .i64 v] 2 (0, 0))) ⟨(Below.refl _ _).alloc (Nat.le_refl _) _, heap_alloc_new _ _⟩ ?_
    rintro W ⟨hB, hX⟩
    have hK := below_has hB h
    go_wp2_with (go_at_call 31; refine (val_no _ _ _ _ _ _ hK ok HE.out).mono ?_; rintro e w' ⟨rfl, rfl⟩)
    go_ret
    exact ⟨rfl, Upd.after hB (Upd.refl hK)⟩
theorem get_c (w : World) (b : Nat) (s : Ks) (t i : Int) (h : w.heap[b]? = some (kO s)) (ok : KOk s) :
    Calls Try.prog 12 #[.pointer (some ⟨b, 0, none⟩), .int .i64 t, .int .i64 i] w fun e w' => e = .returned (.tuple #[.int .i64 (getF s t i), .int .i64 (eF s t i)]) ∧ Below w.heap.size w w' := by
  have hbl := has_lt h
  by_cases he : eF s t i = 0
  · obtain ⟨k, m, rfl, rfl, hk, hm, hmk⟩ := eF_ok he
    have hs : getF s k m = (s.k m).v k := by unfold getF; rw [if_pos he]; simp
    rw [he, hs]
    clear he hs
    go_enter Try.func12, Try.ntmps12
    go_upto_region 2 with fail
    refine world_wp (fun W => Below w.heap.size w W ∧ W.heap[w.heap.size]? = some (.cells #[.int .i64 0] 2 (0, 0))) ⟨(Below.refl _ _).alloc (Nat.le_refl _) _, heap_alloc_new _ _⟩ ?_
    rintro W ⟨hB, hX⟩
    have hK := below_has hB h
    go_upto_region 3 with (go_at_call 31; refine (valget_ok _ _ _ _ _ _ _ hK ok hk hm hmk hX).mono ?_; rintro e w1 ⟨rfl, u⟩)
    have cx := has_cell 0 u.1 rfl
    have hB1 := hB.trans (u.below (Nat.le_refl _) hB.size)
    go_wp2_with fail
    go_ret2
    exact ⟨rfl, hB1⟩
  · have hs : getF s t i = 0 := by unfold getF; rw [if_neg he]
    have HE := Lib.hid he
    rw [hs]
    clear he hs
    go_enter Try.func12, Try.ntmps12
    go_upto_region 2 with fail
    refine world_wp (fun W => Below w.heap.size w W ∧ W.heap[w.heap.size]? = some (.cells #[.int .i64 0] 2 (0, 0))) ⟨(Below.refl _ _).alloc (Nat.le_refl _) _, heap_alloc_new _ _⟩ ?_
    rintro W ⟨hB, hX⟩
    have hK := below_has hB h
    have cx := has_cell 0 hX rfl
    go_wp2_with (go_at_call 31; refine (val_no _ _ _ _ _ _ hK ok HE.out).mono ?_; rintro e w' ⟨rfl, rfl⟩)
    go_ret2
    exact ⟨rfl, hB⟩
theorem setF_ok {s : Ks} (ok : KOk s) (t i v : Int) : KOk (setF s t i v) := by
  unfold setF
  split
  · exact ⟨ok.n1, ok.n2, ok.e⟩
  · exact ok
/-! New, Round. -/
theorem new_bad (w : World) (x : Int) (h : x < 1 ∨ 8 < x) : Calls Try.prog 8 #[.int .i64 x] w fun e w' => e = .returned (.tuple #[.pointer none, .int .i64 2]) ∧ w = w' := by
  by_cases h0 : x < 1
  · go_enter Try.func8, Try.ntmps8
    go_wp2
    go_ret2
    exact ⟨rfl, rfl⟩
  · have h1 : 8 < x := by omega
    clear h
    go_enter Try.func8, Try.ntmps8
    go_wp2
    go_ret2
    exact ⟨rfl, rfl⟩
def noKey : Ky := ⟨false, 0, fun _ => 0⟩
def noEnd : En := ⟨0, 0, false, false⟩
def newK (n : Nat) : Ks := ⟨n, fun _ => noKey, fun _ => noEnd⟩
theorem newK_ok {n : Nat} (h1 : 1 ≤ n) (h2 : n ≤ 8) : KOk (newK n) := ⟨h1, h2, fun _ => ⟨Nat.zero_le _, Nat.zero_le _⟩⟩
set_option maxRecDepth 100000 in
theorem new_c (w : World) (n : Nat) (h0 : 1 ≤ n) (h1 : n ≤ 8) : Calls Try.prog 8 #[.int .i64 n] w fun e w' => e = .returned (.tuple #[.pointer (some ⟨w.heap.size, 0, none⟩), .int .i64 0]) ∧ w'.heap[w.heap.size]? = some (kO (newK n)) ∧ Below w.heap.size w w' ∧ w.heap.size < w'.heap.size := by
  obtain ⟨Z, hz, hne, Y, hset, hY⟩ : ∃ Z : Array Value, (∀ w, (zeroValue 80).run Try.prog w = .ok (.agg Z) w) ∧ ¬ Z = #[] ∧ ∃ Y, Z.setIfInBounds 0 (.int .i64 n) = Y ∧ Y = (ksC (newK n)).toArray := by
    refine ⟨(ksC (newK 0)).toArray, fun w => by kernel_rfl, fun e => ?_, _, rfl, ?_⟩
    · have := congrArg Array.size e
      rw [List.size_toArray, ksC_length] at this
      cases this
    · simp [ksC, newK]
  have HY := Lib.hid hY
  clear hY
  go_enter Try.func8, Try.ntmps8
  go_wp2
  go_ret2
  refine ⟨rfl, ?_, (Below.refl _ _).alloc (Nat.le_refl _) _, by simp⟩
  rw [heap_alloc_new, kO, HY.out]
theorem round_c (w : World) (b : Nat) (s : Ks) (t : Int) (h : w.heap[b]? = some (kO s)) (ok : KOk s) :
    Calls Try.prog 14 #[.pointer (some ⟨b, 0, none⟩), .int .i64 t] w fun e w' => e = .returned (.int .i64 (if thF t = true then (s.e t.toNat).round else 0 : Nat)) ∧ w = w' := by
  by_cases ht : thF t = true
  · rw [if_pos ht]
    obtain ⟨k, rfl, hk⟩ : ∃ k : Nat, t = k ∧ k < 16 := by
      simp [thF] at ht
      exact ⟨t.toNat, by omega, by omega⟩
    have c := ((k_cells h).2.2 k hk).1
    have hki : (k : Int) < 16 := by omega
    have e : (k : Int).toNat = k := by simp
    rw [e]
    clear e
    go_enter Try.func14, Try.ntmps14
    go_wp2_with (first | (go_at_call 30; refine (there_c _ _ _ h ok).mono ?_; rintro e w' ⟨rfl, rfl⟩) | (go_at_call 34; refine (thread_c _ _ ht).mono ?_; rintro e w' ⟨rfl, rfl⟩))
    go_ret
    exact ⟨rfl, rfl⟩
  · rw [if_neg ht]
    have ht' : thF t = false := by simpa using ht
    clear ht
    go_enter Try.func14, Try.ntmps14
    go_wp2_with (first | (go_at_call 30; refine (there_c _ _ _ h ok).mono ?_; rintro e w' ⟨rfl, rfl⟩) | (go_at_call 34; refine (thread_c _ _ ht').mono ?_; rintro e w' ⟨rfl, rfl⟩))
    go_ret
    exact ⟨rfl, rfl⟩
end Go.Proofs.Ytcchebjeohdkfaa
