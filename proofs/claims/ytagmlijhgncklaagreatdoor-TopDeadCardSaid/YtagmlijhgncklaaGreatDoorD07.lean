/-
  The closed facts of the row 'TopDead', one by one. There are no conditions.
-/
import Derived.Test.YtagmlijhgncklaaGreatDoorD06
set_option linter.unusedVariables false
namespace Go.Proofs.YtagmlijhgncklaaGreatDoor.topDead
open Go
theorem fact0 : (Rows.topDeadRow.wf (OpenSpec.ofChange Rows.topDeadSpec)) = true := by kernel_rfl
theorem fact3 : (Tryz.f5.params.all (Tryz.pinned.checked.prog.readableRec ·)) = true := by kernel_rfl
theorem fact4 : (namedTie Tryz.pinned.checked.prog Rows.topDeadRow.named Rows.topDeadSpec.vars) = true := by kernel_rfl
theorem fact5 : ((Rows.topDeadRow.stops == [])) = true := by kernel_rfl
theorem fact7 : ((Rows.topDeadRow.knobs == [])) = true := by kernel_rfl
theorem fact13 : ((Rows.topDeadRow.maps == (Tryz.f5.params.toList ++ Rows.topDeadSpec.plain.varTypes Tryz.pinned.checked.prog).any (Tryz.pinned.checked.prog.mapsRec ·))) = true := by kernel_rfl
theorem fact14 : ((Rows.topDeadRow.ifaces == (Tryz.f5.params.toList ++ Rows.topDeadSpec.plain.varTypes Tryz.pinned.checked.prog).any (Tryz.pinned.checked.prog.ifacesRec ·))) = true := by kernel_rfl
theorem fact15 : ((Rows.topDeadRow.mapsOut == Tryz.pinned.checked.prog.mapsAmong Tryz.f5.resultTypes.toList)) = true := by kernel_rfl
theorem fact16 : ((Rows.topDeadRow.loops == (Tryz.f5.params.toList ++ Rows.topDeadSpec.plain.varTypes Tryz.pinned.checked.prog).any (Tryz.pinned.checked.prog.loopsFrom ·))) = true := by kernel_rfl
theorem fact17 : ((Rows.topDeadRow.wideKeys == (Tryz.f5.params.toList ++ Rows.topDeadSpec.plain.varTypes Tryz.pinned.checked.prog ++ Tryz.f5.resultTypes.toList).any (Tryz.pinned.checked.prog.wideKeysFrom ·))) = true := by kernel_rfl
theorem fact18 : (Rows.topDeadSpec.vars.all (Tryz.pinned.checked.prog.varReadable ·)) = true := by kernel_rfl
theorem fact19 : (Tryz.f5.resultTypes.all (fun t => Tryz.pinned.checked.prog.readableRec t && decide (t < Tryz.pinned.checked.prog.types.size))) = true := by kernel_rfl
theorem fact20 : ((Rows.topDeadRow.ifacesOut == Tryz.f5.resultTypes.toList.any (Tryz.pinned.checked.prog.ifacesRec ·))) = true := by kernel_rfl
theorem fact21 : ((Rows.topDeadRow.loopsOut == Tryz.f5.resultTypes.toList.any (Tryz.pinned.checked.prog.loopsFrom ·))) = true := by kernel_rfl
theorem fact22 : ((Rows.topDeadRow.plainKeys == Tryz.pinned.checked.prog.plainKeys)) = true := by kernel_rfl
theorem fact23 : (Rows.topDeadRow.shortTexts.isNone) = true := by kernel_rfl
theorem fact26 : ((Rows.topDeadRow.lifted == Tryz.pinned.checked.prog.liftsFinal)) = true := by kernel_rfl
theorem fact27 : ((Tryz.pinned.checked.prog.make == some Rows.topDeadRow.make)) = true := by kernel_rfl
theorem fact28 : ((Rows.topDeadRow.kinds == (if Rows.topDeadRow.domain.isEmpty then [] else Tryz.f5.params.toList.map fun t => match Tryz.pinned.checked.prog.underlying t with | some (.int k) => some k | _ => none))) = true := by kernel_rfl
theorem fact29 : ((Rows.topDeadRow.pinned == Rows.topDeadRow.pinnedBy)) = true := by kernel_rfl
theorem fact30 : ((Rows.topDeadRow.veiled == (Tryz.f5.params.toList ++ Rows.topDeadSpec.plain.varTypes Tryz.pinned.checked.prog ++ Tryz.f5.resultTypes.toList).any (Tryz.pinned.checked.prog.veiledRec ·))) = true := by kernel_rfl
theorem fact31 : (Rows.topDeadRow.veiledFits Tryz.pinned.checked.prog Tryz.f5.params.toList (Tryz.f5.params.toList ++ Rows.topDeadSpec.plain.varTypes Tryz.pinned.checked.prog ++ Tryz.f5.resultTypes.toList)) = true := by kernel_rfl
set_option maxRecDepth 100000 in
theorem facts : joinedFacts Tryz.pinned.checked.prog 5 Tryz.f5 Rows.topDeadSpec Rows.topDeadRow = true := (and_tt (and_tt (and_tt (and_tt (and_tt (and_tt (and_tt (and_tt (and_tt (and_tt (and_tt (and_tt (and_tt (and_tt (and_tt (and_tt (and_tt (and_tt (and_tt (and_tt (and_tt (and_tt (and_tt (and_tt (and_tt (and_tt (and_tt (and_tt (and_tt (and_tt (and_tt fact0 fact1) fact2) fact3) fact4) fact5) fact6) fact7) fact8) fact9) fact10) fact11) fact12) fact13) fact14) fact15) fact16) fact17) fact18) fact19) fact20) fact21) fact22) fact23) fact24) fact25) fact26) fact27) fact28) fact29) fact30) fact31)
theorem factInst : Tryz.f5.isInstance Tryz.pinned.checked.prog Rows.topDeadRow.origin Rows.topDeadRow.targs := of_decide_eq_true (by kernel_rfl)
theorem factWrap : Tryz.f5.isWrapper Tryz.pinned.checked.prog Rows.topDeadRow.wrapper Rows.topDeadRow.mainSum := by unfold Func.isWrapper; first | (rw [if_pos (by decide +kernel)]; kernel_rfl) | (rw [if_neg (by decide +kernel)]; exact ⟨rfl, rfl⟩)
theorem factWf : Rows.topDeadRow.wfByText (OpenSpec.ofChange Rows.topDeadSpec) = true := by kernel_rfl
theorem factStand : ([54].all fun u => !Tryz.pinned.checked.prog.wantsStandIn u) = true := by kernel_rfl
end Go.Proofs.YtagmlijhgncklaaGreatDoor.topDead
