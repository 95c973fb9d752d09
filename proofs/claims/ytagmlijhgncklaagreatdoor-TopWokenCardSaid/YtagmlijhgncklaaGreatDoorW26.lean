/-
  What the program finds as effective priorities, over the translation of this seat. Conditions: the blocks that are named hold what is said.
-/
import Derived.Test.YtagmlijhgncklaaGreatDoorW25
import Derived.Deep.RegionLaw
set_option linter.unusedVariables false
namespace Go.Proofs.YtagmlijhgncklaaGreatDoor.Inh
open Go.RowKit

def hasO (f : Nat → Int) : Obj := .cells (rowI f 16).toArray 299 (0, 0)
theorem has_cells {w : World} {b : Nat} {f : Nat → Int} (h : w.heap[b]? = some (hasO f)) (i : Nat) (hi : i < 16) : w.cell? ⟨b, i, none⟩ = some (.int .i64 (f i)) := has_cell i h (by simpa using rowI_get f hi)
theorem has_set (f : Nat → Int) (x : Int) {i : Nat} (hi : i < 16) : (rowI f 16).toArray.setIfInBounds i (.int .i64 x) = (rowI (upd f i x) 16).toArray := by
  rw [List.setIfInBounds_toArray, rowI_set f x hi, upd_at]
theorem upd_out {out : Nat → Int} {n a : Nat} {x : Int} (ha : a < n) (hz : ∀ i, n ≤ i → i < 16 → out i = 0) : ∀ i, n ≤ i → i < 16 → upd out a x i = 0 := fun i h1 h2 => by
  unfold upd
  rw [if_neg (by omega)]
  exact hz i h1 h2
def outOf (w : World) (b : Nat) (i : Nat) : Int := match w.cell? ⟨b, i, none⟩ with
  | some (.int _ x) => x
  | _ => 0
theorem outOf_has {w : World} {b : Nat} {f : Nat → Int} (h : w.heap[b]? = some (hasO f)) (i : Nat) (hi : i < 16) : outOf w b i = f i := by
  unfold outOf
  rw [has_cells h i hi]
/-- The world within All: the graph's box, the result's cell, the numbers. -/
structure AllW (w W : World) (b : Nat) (s : Gs) (out : Nat → Int) : Prop where
  below : Below w.heap.size w W
  g : W.heap[b]? = some (gO s)
  box : W.heap[w.heap.size]? = some (.cells #[.pointer (some ⟨b, 0, none⟩)] 237 (0, 0))
  res : W.heap[w.heap.size + 1]? = some (hasO (fun _ => 0))
  arr : W.heap[w.heap.size + 1 + 1]? = some (hasO out)
  sz : w.heap.size + 1 + 1 < W.heap.size
theorem AllW.drewN {w W : World} {b : Nat} {s : Gs} {out : Nat → Int} (h : AllW w W b s out) (m : Nat) : AllW w (W.drewN m) b s out := ⟨below_drewN h.below m, h.g, h.box, h.res, h.arr, h.sz⟩
theorem AllW.set {w W : World} {b : Nat} {s : Gs} {out : Nat → Int} (h : AllW w W b s out) (hb : b < w.heap.size) {i : Nat} (hi : i < 16) (x : Int) : AllW w (W.setCell ⟨w.heap.size + 1 + 1, i, none⟩ (.int .i64 x)) b s (upd out i x) := by
  have u := ((Upd.refl h.arr).setCell i (.int .i64 x)).to (o' := hasO (upd out i x)) (by rw [has_set _ _ hi]; rfl)
  exact ⟨h.below.trans (u.below (by omega) h.below.size), u.other h.g (by omega), u.other h.box (by omega), u.other h.res (by omega), u.1, Nat.lt_of_lt_of_le h.sz u.size⟩
theorem alloc_at {w : World} {o : Obj} {k : Nat} (hk : k = w.heap.size) : (w.alloc o).heap[k]? = some o := hk ▸ heap_alloc_new w o
theorem all_less {w W W' : World} {b : Nat} {s : Gs} {out : Nat → Int} {k a v : Nat} (ok : GOk s) (A : AllW w W b s out) (A' : AllW w W' b s (upd out v (out a))) (C : Climb s.n s.own s.wt out k a) (hn : nxt s.wt a = some v) (hu : max (out v) (s.own v) < out a) (h31 : ∀ t, t < s.n → s.own t ≤ 31) :
    gap s.n (maxF (outOf W' (w.heap.size + 1 + 1)) s.own) < gap s.n (maxF (outOf W (w.heap.size + 1 + 1)) s.own) := by
  have n2 := ok.n2
  obtain ⟨_, h2, h3⟩ := climb_up ok.fine C hn hu
  have e1 : gap s.n (maxF (outOf W (w.heap.size + 1 + 1)) s.own) = gap s.n (maxF out s.own) := gap_same (fun t ht => by unfold maxF; rw [outOf_has A.arr t (by omega)])
  have e2 : gap s.n (maxF (outOf W' (w.heap.size + 1 + 1)) s.own) = gap s.n (maxF (upd out v (out a)) s.own) := gap_same (fun t ht => by unfold maxF; rw [outOf_has A'.arr t (by omega)])
  rw [e1, e2, h2]
  have h4 := low_top C.low h31 a C.lt
  rw [h3] at h4
  exact gap_raise hu h4 (nxt_lt ok.fine C.lt hn).1
theorem rowI_zero : rowI (fun _ => 0) 16 = List.replicate 16 (.int .i64 0) := rowI_const 0 16

set_option maxHeartbeats 4000000 in
theorem all_c (w : World) (b : Nat) (s : Gs) (h : w.heap[b]? = some (gO s)) (ok : GOk s) : Calls Tryz.prog 120 #[.pointer (some ⟨b, 0, none⟩)] w fun e w' => ∃ out : Nat → Int, e = .returned (.agg (rowI out 16).toArray) ∧ Least s.n s.own s.wt out ∧ (∀ i, s.n ≤ i → i < 16 → out i = 0) ∧ Below w.heap.size w w' := by
  have hbw := has_lt h
  have n2 := ok.n2
  have hown31 : ∀ t, t < s.n → s.own t ≤ 31 := fun t ht => by
    have h1 := ok.ba t (by omega)
    have h2 := ok.ce t (by omega)
    unfold Gs.own
    omega
  have hown0 : ∀ t, t < 16 → 0 ≤ s.own t := fun t ht => by
    have h1 := ok.ba t (by omega)
    unfold Gs.own
    omega
  go_enter Tryz.func120, Tryz.ntmps120
  go_upto_region 2 with fail
  refine world_wp (fun W => AllW w W b s (fun _ => 0)) ?_ ?_
  · have B0 := Below.refl w.heap.size w
    have B1 := B0.alloc (Nat.le_refl _) (.cells #[.pointer (some ⟨b, 0, none⟩)] 237)
    have B2 := B1.alloc (by simp) (hasO (fun _ => 0))
    have B3 := B2.alloc (by simp; omega) (hasO (fun _ => 0))
    have e0 : hasO (fun _ => 0) = .cells (List.replicate 16 (.int .i64 0)).toArray 299 := by rw [hasO, rowI_zero]
    rw [e0] at B2 B3
    refine ⟨B3, below_has B3 h, ?_, ?_, ?_, ?_⟩
    · exact below_alloc_has (below_alloc_has (heap_alloc_new _ _))
    · rw [e0]; exact below_alloc_has (alloc_at (by simp))
    · rw [e0]; exact alloc_at (by simp)
    · simp
  intro W A
  have c0 := (g_cells A.g).1
  have cb := has_cell 0 A.box rfl
  go_wp2_with fail
  clear c0 cb
  go_loopw [13] (fun i wr => ∃ (k : Nat) (out : Nat → Int), i = .int .i64 k ∧ k ≤ s.n ∧ AllW w wr b s out ∧ Upto s.n s.own s.wt out k ∧ (∀ i, s.n ≤ i → i < 16 → out i = 0)) (fun i _ => s.n - (intOf i).toNat)
  case atStart => exact ⟨0, _, rfl, Nat.zero_le _, A, upto_zero (fun t ht => hown0 t (by omega)), fun _ _ _ => rfl⟩
  case round =>
    clear A
    obtain ⟨k, out, rfl, hk, A, U, hz⟩ := hrel
    have cb := has_cell 0 A.box rfl
    by_cases hlt : k < s.n
    · have hk16 : k < 16 := by omega
      have ck := has_cells A.arr k hk16
      have fz := has_free A.arr
      have hki : (k : Int) < 16 := by omega
      have hkn : (k : Int) < s.n := by omega
      have A' := A.set hbw hk16 (max (out k) (s.own k))
      have cl := climb_start U hlt
      have HZ := Lib.hid hz
      have HK := Lib.hid hlt
      have HU := Lib.hid U
      have HW := Lib.hid hk16
      have HA := Lib.hid A
      clear hlt U hz A
      by_cases hmx : out k < s.own k
      · have hm : max (out k) (s.own k) = s.own k := Int.max_eq_right (Int.le_of_lt hmx)
        rw [hm] at A' cl
        go_wp2_with fail
        go_step3
        go_upto_region 6 with fail
        go_region_law (first | (go_simp; go_at_call 186; refine (own_c _ _ _ _ k (by exact HA.out.g) (by exact HA.out.box) HW.out).mono ?_; rintro e w' ⟨rfl, m, rfl⟩))
        all_goals (
          go_upto_region 7 with fail
          refine world_wp (fun W => AllW w W b s (upd out k (s.own k))) ((HA.out.drewN _).set hbw HW.out _) ?_
          clear A' ck fz cb
          rintro W1 A1
          go_wp2_with fail
          go_step3
          go_wp2_with fail
          go_loopw [6] (fun i wr => ∃ (a : Nat) (out' : Nat → Int), i = .int .i64 a ∧ AllW w wr b s out' ∧ Climb s.n s.own s.wt out' k a ∧ (∀ i, s.n ≤ i → i < 16 → out' i = 0)) (fun _ wr => gap s.n (maxF (outOf wr (w.heap.size + 1 + 1)) s.own))
          case atStart => exact ⟨k, _, rfl, A1, cl, upd_out HK.out HZ.out⟩
          case round =>
            clear A1 cl HA HU HZ hmx hm
            obtain ⟨a, out', rfl, A2, C, hz⟩ := hrel
            have ha16 : a < 16 := by have := C.lt; omega
            have cg := (((g_cells A2.g).2 a ha16).2).2
            have cb := has_cell 0 A2.box rfl
            have hai : (a : Int) < 16 := by omega
            have hwb := ok.wt a ha16
            by_cases hneg : s.wt a < 0
            · rw [show s.wt a + 1 = 0 by omega] at cg
              have ce := climb_end C (fun v hv => by unfold nxt at hv; rw [if_neg (by omega)] at hv; cases hv)
              have HC := Lib.hid C
              have HZ := Lib.hid hz
              have HA2 := Lib.hid A2
              clear C hz A2 hneg hwb
              go_wp2_with fail
              go_quiet (fail)
              go_wp2_with fail
              simp only [Exit.noGoto, Exit.inBlock, Exit.then]
              rename ∀ (a : Act) (w : World), Code.wp Tryz.prog (Code.region 12 _ _) _ a w → _ => hK
              refine hK _ _ ?_
              clear hK
              go_wp2_with fail
              go_roundw
              case rel => exact ⟨k + 1, out', by go_num, HK.out, HA2.out.drewN _, ce, HZ.out⟩
              case measure => have := HK.out; simp [intOf]; omega
            · obtain ⟨v, hv⟩ : ∃ v : Nat, s.wt a = v := ⟨(s.wt a).toNat, by omega⟩
              have hnx : nxt s.wt a = some v := by unfold nxt; rw [if_pos (by omega), hv]; rfl
              have hv16 : v < 16 := by omega
              have hvn : v < s.n := by omega
              rw [hv] at cg
              have hvi : (v : Int) < 16 := by omega
              have cv := has_cells A2.arr v hv16
              have ca := has_cells A2.arr a ha16
              have fz2 := has_free A2.arr
              have hG := A2.g
              have hbx := A2.box
              have hun : ¬ (v : Int) < 0 := by omega
              by_cases hm2 : out' v < s.own v
              · skip
                by_cases hge : out' a ≤ s.own v
                · have ce := climb_end C (fun u hu => by rw [hnx] at hu; cases hu; omega)
                  have HC := Lib.hid C
                  have HZ := Lib.hid hz
                  have HA2 := Lib.hid A2
                  have HNX := Lib.hid hnx
                  have HV16 := Lib.hid hv16
                  have HVN := Lib.hid hvn
                  clear C hz A2 hwb hneg hnx hv hvn
                  go_wp2_with fail
                  go_quiet ((go_at_call 186; exact Calls.quiet_of (own_c _ _ _ _ v (by exact hG) (by exact hbx) HV16.out)))
                  go_wp2_with fail
                  simp only [Exit.noGoto, Exit.inBlock, Exit.then]
                  rename ∀ (a : Act) (w : World), Code.wp Tryz.prog (Code.region 12 _ _) _ a w → _ => hK
                  refine hK _ _ ?_
                  clear hK
                  go_wp2_with fail
                  go_roundw
                  case rel => exact ⟨k + 1, out', by go_num, HK.out, HA2.out.drewN _, ce, HZ.out⟩
                  case measure => have := HK.out; simp [intOf]; omega
                · have hup : max (out' v) (s.own v) < out' a := by omega
                  have HUP := Lib.hid hup
                  clear hup
                  have HC := Lib.hid C
                  have HZ := Lib.hid hz
                  have HA2 := Lib.hid A2
                  have HNX := Lib.hid hnx
                  have HV16 := Lib.hid hv16
                  have HVN := Lib.hid hvn
                  clear C hz A2 hwb hneg hnx hv hvn
                  go_wp2_with fail
                  go_quiet ((go_at_call 186; exact Calls.quiet_of (own_c _ _ _ _ v (by exact hG) (by exact hbx) HV16.out)))
                  go_upto_region 11 with fail
                  refine world_wp (fun W => AllW w W b s (upd out' v (out' a))) ((HA2.out.drewN _).set hbw HV16.out _) ?_
                  clear ca cv fz2 hG hbx
                  intro W2 A3
                  go_wp2_with fail
                  go_roundw
                  case rel => exact ⟨v, _, rfl, A3, (climb_up ok.fine HC.out HNX.out HUP.out).1, upd_out HVN.out HZ.out⟩
                  case measure => exact all_less ok HA2.out A3 HC.out HNX.out HUP.out hown31
              · have hm3 : ¬ out' v < s.own v := hm2
                by_cases hge : out' a ≤ out' v
                · have ce := climb_end C (fun u hu => by rw [hnx] at hu; cases hu; omega)
                  have HC := Lib.hid C
                  have HZ := Lib.hid hz
                  have HA2 := Lib.hid A2
                  have HNX := Lib.hid hnx
                  have HV16 := Lib.hid hv16
                  have HVN := Lib.hid hvn
                  clear C hz A2 hwb hneg hnx hv hvn
                  go_wp2_with fail
                  go_quiet ((go_at_call 186; exact Calls.quiet_of (own_c _ _ _ _ v (by exact hG) (by exact hbx) HV16.out)))
                  go_wp2_with fail
                  go_roundw
                  case rel => exact ⟨k + 1, out', by go_num, HK.out, HA2.out.drewN _, ce, HZ.out⟩
                  case measure => have := HK.out; simp [intOf]; omega
                · have hup : max (out' v) (s.own v) < out' a := by omega
                  have HUP := Lib.hid hup
                  clear hup
                  have HC := Lib.hid C
                  have HZ := Lib.hid hz
                  have HA2 := Lib.hid A2
                  have HNX := Lib.hid hnx
                  have HV16 := Lib.hid hv16
                  have HVN := Lib.hid hvn
                  clear C hz A2 hwb hneg hnx hv hvn
                  go_wp2_with fail
                  go_quiet ((go_at_call 186; exact Calls.quiet_of (own_c _ _ _ _ v (by exact hG) (by exact hbx) HV16.out)))
                  go_upto_region 11 with fail
                  refine world_wp (fun W => AllW w W b s (upd out' v (out' a))) ((HA2.out.drewN _).set hbw HV16.out _) ?_
                  clear ca cv fz2 hG hbx
                  intro W2 A3
                  go_wp2_with fail
                  go_roundw
                  case rel => exact ⟨v, _, rfl, A3, (climb_up ok.fine HC.out HNX.out HUP.out).1, upd_out HVN.out HZ.out⟩
                  case measure => exact all_less ok HA2.out A3 HC.out HNX.out HUP.out hown31
          )
      · have hm : max (out k) (s.own k) = out k := Int.max_eq_left (Int.not_lt.1 hmx)
        rw [hm] at A' cl
        go_wp2_with fail
        go_step3
        go_upto_region 6 with fail
        go_region_law (first | (go_simp; go_at_call 186; refine (own_c _ _ _ _ k (by exact HA.out.g) (by exact HA.out.box) HW.out).mono ?_; rintro e w' ⟨rfl, m, rfl⟩))
        all_goals (
          go_upto_region 7 with fail
          refine world_wp (fun W => AllW w W b s (upd out k (out k))) (by rw [if_neg (Int.not_lt.2 hmx)]; exact (HA.out.drewN _).set hbw HW.out _) ?_
          clear A' ck fz cb
          rintro W1 A1
          go_wp2_with fail
          go_step3
          go_wp2_with fail
          go_loopw [6] (fun i wr => ∃ (a : Nat) (out' : Nat → Int), i = .int .i64 a ∧ AllW w wr b s out' ∧ Climb s.n s.own s.wt out' k a ∧ (∀ i, s.n ≤ i → i < 16 → out' i = 0)) (fun _ wr => gap s.n (maxF (outOf wr (w.heap.size + 1 + 1)) s.own))
          case atStart => exact ⟨k, _, rfl, A1, cl, upd_out HK.out HZ.out⟩
          case round =>
            clear A1 cl HA HU HZ hmx hm
            obtain ⟨a, out', rfl, A2, C, hz⟩ := hrel
            have ha16 : a < 16 := by have := C.lt; omega
            have cg := (((g_cells A2.g).2 a ha16).2).2
            have cb := has_cell 0 A2.box rfl
            have hai : (a : Int) < 16 := by omega
            have hwb := ok.wt a ha16
            by_cases hneg : s.wt a < 0
            · rw [show s.wt a + 1 = 0 by omega] at cg
              have ce := climb_end C (fun v hv => by unfold nxt at hv; rw [if_neg (by omega)] at hv; cases hv)
              have HC := Lib.hid C
              have HZ := Lib.hid hz
              have HA2 := Lib.hid A2
              clear C hz A2 hneg hwb
              go_wp2_with fail
              go_quiet (fail)
              go_wp2_with fail
              simp only [Exit.noGoto, Exit.inBlock, Exit.then]
              rename ∀ (a : Act) (w : World), Code.wp Tryz.prog (Code.region 12 _ _) _ a w → _ => hK
              refine hK _ _ ?_
              clear hK
              go_wp2_with fail
              go_roundw
              case rel => exact ⟨k + 1, out', by go_num, HK.out, HA2.out.drewN _, ce, HZ.out⟩
              case measure => have := HK.out; simp [intOf]; omega
            · obtain ⟨v, hv⟩ : ∃ v : Nat, s.wt a = v := ⟨(s.wt a).toNat, by omega⟩
              have hnx : nxt s.wt a = some v := by unfold nxt; rw [if_pos (by omega), hv]; rfl
              have hv16 : v < 16 := by omega
              have hvn : v < s.n := by omega
              rw [hv] at cg
              have hvi : (v : Int) < 16 := by omega
              have cv := has_cells A2.arr v hv16
              have ca := has_cells A2.arr a ha16
              have fz2 := has_free A2.arr
              have hG := A2.g
              have hbx := A2.box
              have hun : ¬ (v : Int) < 0 := by omega
              by_cases hm2 : out' v < s.own v
              · skip
                by_cases hge : out' a ≤ s.own v
                · have ce := climb_end C (fun u hu => by rw [hnx] at hu; cases hu; omega)
                  have HC := Lib.hid C
                  have HZ := Lib.hid hz
                  have HA2 := Lib.hid A2
                  have HNX := Lib.hid hnx
                  have HV16 := Lib.hid hv16
                  have HVN := Lib.hid hvn
                  clear C hz A2 hwb hneg hnx hv hvn
                  go_wp2_with fail
                  go_quiet ((go_at_call 186; exact Calls.quiet_of (own_c _ _ _ _ v (by exact hG) (by exact hbx) HV16.out)))
                  go_wp2_with fail
                  simp only [Exit.noGoto, Exit.inBlock, Exit.then]
                  rename ∀ (a : Act) (w : World), Code.wp Tryz.prog (Code.region 12 _ _) _ a w → _ => hK
                  refine hK _ _ ?_
                  clear hK
                  go_wp2_with fail
                  go_roundw
                  case rel => exact ⟨k + 1, out', by go_num, HK.out, HA2.out.drewN _, ce, HZ.out⟩
                  case measure => have := HK.out; simp [intOf]; omega
                · have hup : max (out' v) (s.own v) < out' a := by omega
                  have HUP := Lib.hid hup
                  clear hup
                  have HC := Lib.hid C
                  have HZ := Lib.hid hz
                  have HA2 := Lib.hid A2
                  have HNX := Lib.hid hnx
                  have HV16 := Lib.hid hv16
                  have HVN := Lib.hid hvn
                  clear C hz A2 hwb hneg hnx hv hvn
                  go_wp2_with fail
                  go_quiet ((go_at_call 186; exact Calls.quiet_of (own_c _ _ _ _ v (by exact hG) (by exact hbx) HV16.out)))
                  go_upto_region 11 with fail
                  refine world_wp (fun W => AllW w W b s (upd out' v (out' a))) ((HA2.out.drewN _).set hbw HV16.out _) ?_
                  clear ca cv fz2 hG hbx
                  intro W2 A3
                  go_wp2_with fail
                  go_roundw
                  case rel => exact ⟨v, _, rfl, A3, (climb_up ok.fine HC.out HNX.out HUP.out).1, upd_out HVN.out HZ.out⟩
                  case measure => exact all_less ok HA2.out A3 HC.out HNX.out HUP.out hown31
              · have hm3 : ¬ out' v < s.own v := hm2
                by_cases hge : out' a ≤ out' v
                · have ce := climb_end C (fun u hu => by rw [hnx] at hu; cases hu; omega)
                  have HC := Lib.hid C
                  have HZ := Lib.hid hz
                  have HA2 := Lib.hid A2
                  have HNX := Lib.hid hnx
                  have HV16 := Lib.hid hv16
                  have HVN := Lib.hid hvn
                  clear C hz A2 hwb hneg hnx hv hvn
                  go_wp2_with fail
                  go_quiet ((go_at_call 186; exact Calls.quiet_of (own_c _ _ _ _ v (by exact hG) (by exact hbx) HV16.out)))
                  go_wp2_with fail
                  go_roundw
                  case rel => exact ⟨k + 1, out', by go_num, HK.out, HA2.out.drewN _, ce, HZ.out⟩
                  case measure => have := HK.out; simp [intOf]; omega
                · have hup : max (out' v) (s.own v) < out' a := by omega
                  have HUP := Lib.hid hup
                  clear hup
                  have HC := Lib.hid C
                  have HZ := Lib.hid hz
                  have HA2 := Lib.hid A2
                  have HNX := Lib.hid hnx
                  have HV16 := Lib.hid hv16
                  have HVN := Lib.hid hvn
                  clear C hz A2 hwb hneg hnx hv hvn
                  go_wp2_with fail
                  go_quiet ((go_at_call 186; exact Calls.quiet_of (own_c _ _ _ _ v (by exact hG) (by exact hbx) HV16.out)))
                  go_upto_region 11 with fail
                  refine world_wp (fun W => AllW w W b s (upd out' v (out' a))) ((HA2.out.drewN _).set hbw HV16.out _) ?_
                  clear ca cv fz2 hG hbx
                  intro W2 A3
                  go_wp2_with fail
                  go_roundw
                  case rel => exact ⟨v, _, rfl, A3, (climb_up ok.fine HC.out HNX.out HUP.out).1, upd_out HVN.out HZ.out⟩
                  case measure => exact all_less ok HA2.out A3 HC.out HNX.out HUP.out hown31
          )
    · obtain rfl : k = s.n := by omega
      have L := upto_end ok.fine U
      have hr : wr.rangeAt (w.heap.size + 1 + 1) 0 (rowI out 16) := has_range A.arr _ _ (by simp)
      have B := (A.below.trans ((Upd.setCells (rowI out 16) 0 _ _ (Upd.refl A.res)).below (by omega) A.below.size))
      have S := (Upd.setCells (rowI out 16) 0 _ _ (Upd.refl A.res)).1
      rw [spl_all _ _ (by simp [rowI_length])] at S
      have hr2 := has_range S (rowI out 16) 0 (by simp)
      have hR := A.res
      have HA := Lib.hid A
      clear A U
      go_wp2_with (first | (refine wpList_load_mid rfl 299 (.tmp 3) rfl (w.heap.size + 1 + 1) 0 rfl (rowI out 16) _ hr Tryz.underlying299 rfl (by rw [rowI_length]; kernel_rfl) ?_) | (refine wpList_store_mid rfl 299 (.tmp 2) (.tmp 55) rfl (w.heap.size + 1) 0 (rowI out 16).toArray rfl rfl ?ht ?hi ?ho ?_; rotate_left 3))
      case ht => exact has_there hR 0 _ (by simp [rowI_length])
      case hi => rw [List.size_toArray, rowI_length]; kernel_rfl
      case ho => exact all_oneCell_toArray (rowI_one _ _)
      refine bodyPost_ret (v := .agg (rowI out 16).toArray) ?_ rfl ⟨out, rfl, L, hz, B⟩
      have hload := run_loadVar_mid (P := Tryz.prog) _ _ _ 299 _ _ hr2 Tryz.underlying299 rfl (by rw [rowI_length]; kernel_rfl)
      simp [results, Tryz.f120, hload, asAddr, Act.put]
theorem info3 : (Tryz.prog.info? 3).map (fun i => (i.zero, i.size, i.bytes)) = some (some (.int .i64 0), 1, 8) := by kernel_rfl
theorem run_index_has (out : Nat → Int) (t : Nat) (ht : t < 16) (w : World) : (Instr.index 299 (.agg (rowI out 16).toArray) (.int .i64 t)).run Tryz.prog w = .ok (.int .i64 (out t)) w := by
  have h1 : (0 : Int) ≤ t ∧ (t : Int) < 16 := by omega
  obtain ⟨i, hi, hz0, hz1, hz2⟩ := info_parts info3
  have hx' := rowI_get out ht
  simp [Instr.index, run_underlying Tryz.underlying299, asIntOf, h1, go_sem, sizeOf, typeInfo, hi, hz1, ht, hx']
theorem of_c (w : World) (b : Nat) (s : Gs) (t : Nat) (h : w.heap[b]? = some (gO s)) (ok : GOk s) (ht : t < s.n) : Calls Tryz.prog 70 #[.pointer (some ⟨b, 0, none⟩), .int .i64 t] w fun e w' => ∃ out : Nat → Int, e = .returned (.tuple #[.int .i64 (out t), .bool true]) ∧ Least s.n s.own s.wt out ∧ Below w.heap.size w w' := by
  have n2 := ok.n2
  have hi : inF s t = true := by simp [inF, ht]
  have hti : (t : Int) < 16 := by omega
  have hx := fun out => run_index_has out t (by omega)
  go_enter Tryz.func70, Tryz.ntmps70
  go_upto_region 3 with (first | (go_at_call 118; refine (is_c _ _ _ h ok).mono ?_; rintro e w' ⟨rfl, rfl⟩) | (go_at_call 119; refine (in_c _ _ _ _ h hi).mono ?_; rintro e w' ⟨rfl, rfl⟩))
  go_wp2_with (go_at_call 120; refine (all_c _ _ _ h ok).mono ?_; rintro e w1 ⟨out, rfl, hL, hz, hB⟩)
  go_ret2
  exact ⟨out, rfl, hL, hB⟩
end Go.Proofs.YtagmlijhgncklaaGreatDoor.Inh
