/-
  Taking out, the first one, a new one, over the translation of this seat. Conditions: the blocks that are named hold what is said.
-/
import Derived.Test.YtagmlijhgncklaaGreatDoorW11
import Derived.Test.YtagmlijhgncklaaGreatDoorW12
import Derived.Deep.RegionWith
set_option linter.unusedVariables false
namespace Go.Proofs.YtagmlijhgncklaaGreatDoor
open Go.RowKit

set_option maxRecDepth 100000 in
set_option maxHeartbeats 400000 in
theorem remove_c (w : World) (b p t : Nat) (R : Rd) (st : Int) (h : w.heap[b]? = some (rdO R st)) (k : RdOk R) (hp1 : 1 ≤ p) (hp : p < 32) (ht : t < 16) (hz : R.pr.getD t 0 = p) (hv : Lk (R.pv.getD t 0)) (hn : Lk (R.nx.getD t 0)) (h0 : 0 ≤ st) (h1 : st ≤ 800000000) :
    Calls Tryz.prog 302 #[.pointer (some ⟨b, 0, none⟩), .int .i64 t] w fun e w' => e = .returned (.int .i64 0) ∧ Upd w b (rdO (R.remF t) (st + 2)) w' := by
  have hpi : (p : Int) < 32 := by omega
  have hp0 : ((p : Int) == 0) = false := by rw [beq_eq_false_iff_ne]; omega
  have hti : (t : Int) < 16 := by omega
  have c := has_cell _ h (by rw [List.getElem?_toArray]; exact rd_get_pr k st ht)
  rw [hz] at c
  have cv := has_cell _ h (by rw [List.getElem?_toArray]; exact rd_get_pv k st ht)
  have cn := has_cell _ h (by rw [List.getElem?_toArray]; exact rd_get_nx k st ht)
  have T := there_c w b R st h
  have H := Lib.hid h
  have HV := Lib.hid hv
  have HN := Lib.hid hn
  have HZ := Lib.hid hz
  clear h hv hn hz
  go_enter Tryz.func302, Tryz.ntmps302
  go_wp2_with (first | (go_at_call 169; refine T.mono ?_; rintro e w' ⟨rfl, rfl⟩) | (go_at_call 452; refine (thread_c _ _ (by omega) (by omega)).mono ?_; rintro e w' ⟨rfl, rfl⟩))
  refine still_tail 14 (by kernel_rfl) (by kernel_rfl) ?_
  simp only [List.take_succ_cons, List.take_zero, List.drop_succ_cons, List.drop_zero]
  repeat still_step
  refine wpStill_nil ?_
  go_wp2_with fail
  refine (join_c w.drew b p R st _ _ H.out k hp HV.out HN.out h0 (by omega)).mono ?_; rintro e w1 ⟨rfl, u1⟩
  clear T c cv cn
  have kj := k.joinF p (R.pv.getD t 0) (R.nx.getD t 0)
  have fz := has_free u1.1
  have cp := has_cell _ u1.1 (by rw [List.getElem?_toArray]; exact rd_get_pr kj (st + 2) ht)
  have U1 := Lib.hid u1
  clear u1
  go_upto_region 10 with fail
  refine upd_wp ((U1.out.setCell (98 + t) (.int .i64 0)).to (o' := rdO { (R.joinF p (R.pv.getD t 0) (R.nx.getD t 0)) with pr := (R.joinF p (R.pv.getD t 0) (R.nx.getD t 0)).pr.set t 0 } (st + 2)) (by rw [rd_set_pr kj _ ht]; rfl)) ?_
  clear fz cp
  intro W U
  have k2 := kj.set_pr t 0
  have ep : (R.pr.getD t 0).toNat = p := by rw [HZ.out]; rfl
  have er : R.remF t = (if (R.joinF p (R.pv.getD t 0) (R.nx.getD t 0)).hd.getD p 0 = -1 then { (R.joinF p (R.pv.getD t 0) (R.nx.getD t 0)) with pr := (R.joinF p (R.pv.getD t 0) (R.nx.getD t 0)).pr.set t 0, sm := (R.joinF p (R.pv.getD t 0) (R.nx.getD t 0)).sm &&& (4294967295 - (1 <<< p)) } else { (R.joinF p (R.pv.getD t 0) (R.nx.getD t 0)) with pr := (R.joinF p (R.pv.getD t 0) (R.nx.getD t 0)).pr.set t 0 }) := by
    unfold Rd.remF
    rw [ep]
  have ER := Lib.hid er
  have EP := Lib.hid ep
  clear er ep U1
  generalize R.joinF p (R.pv.getD t 0) (R.nx.getD t 0) = J at *
  have ch := has_cell _ U.1 (by rw [List.getElem?_toArray]; exact rd_get_hd k2 (st + 2) hp)
  dsimp only at ch
  have cs : W.cell? ⟨b, 1, none⟩ = some (.int .u32 J.sm) := has_cell 1 U.1 rfl
  have fz := has_free U.1
  have HU := Lib.hid U
  clear U
  by_cases hq : J.hd.getD p 0 = -1
  · rw [hq] at ch
    rw [if_pos hq] at ER
    clear hq
    go_wp2_with fail
    go_region
    go_wp2_with fail
    go_ret
    refine ⟨rfl, ?_⟩
    rw [ER.out, bits_andNot k2.sm hp]
    exact ((HU.out.setCell 1 (.int .u32 (J.sm &&& (4294967295 - (1 <<< p)) : Nat))).drew.drew0).to (by rw [rd_set_sm]; rfl)
  · have hqb : (J.hd.getD p 0 == -1) = false := by rw [beq_eq_false_iff_ne]; exact hq
    rw [if_neg hq] at ER
    generalize J.hd.getD p 0 = q at *
    clear hq
    go_wp2_with fail
    go_ret
    refine ⟨rfl, ?_⟩
    rw [ER.out]
    exact HU.out.drew0
end Go.Proofs.YtagmlijhgncklaaGreatDoor
