/-
  The closed facts of the row 'TopSporadic', one by one. There are no conditions.
-/
import Derived.Test.YtagmlijhgncklaaGreatDoorP06
set_option linter.unusedVariables false
namespace Go.Proofs.YtagmlijhgncklaaGreatDoor.topSporadic
open Go
theorem fact0 : (Rows.topSporadicRow.wf (OpenSpec.ofChange Rows.topSporadicSpec)) = true := by kernel_rfl
theorem fact3 : (Tryz.f6.params.all (Tryz.pinned.checked.prog.readableRec ·)) = true := by kernel_rfl
theorem fact4 : (namedTie Tryz.pinned.checked.prog Rows.topSporadicRow.named Rows.topSporadicSpec.vars) = true := by kernel_rfl
theorem fact5 : ((Rows.topSporadicRow.stops == [])) = true := by kernel_rfl
theorem fact7 : ((Rows.topSporadicRow.knobs == [])) = true := by kernel_rfl
theorem fact13 : ((Rows.topSporadicRow.maps == (Tryz.f6.params.toList ++ Rows.topSporadicSpec.plain.varTypes Tryz.pinned.checked.prog).any (Tryz.pinned.checked.prog.mapsRec ·))) = true := by kernel_rfl
theorem fact14 : ((Rows.topSporadicRow.ifaces == (Tryz.f6.params.toList ++ Rows.topSporadicSpec.plain.varTypes Tryz.pinned.checked.prog).any (Tryz.pinned.checked.prog.ifacesRec ·))) = true := by kernel_rfl
theorem fact15 : ((Rows.topSporadicRow.mapsOut == Tryz.pinned.checked.prog.mapsAmong Tryz.f6.resultTypes.toList)) = true := by kernel_rfl
theorem fact16 : ((Rows.topSporadicRow.loops == (Tryz.f6.params.toList ++ Rows.topSporadicSpec.plain.varTypes Tryz.pinned.checked.prog).any (Tryz.pinned.checked.prog.loopsFrom ·))) = true := by kernel_rfl
theorem fact17 : ((Rows.topSporadicRow.wideKeys == (Tryz.f6.params.toList ++ Rows.topSporadicSpec.plain.varTypes Tryz.pinned.checked.prog ++ Tryz.f6.resultTypes.toList).any (Tryz.pinned.checked.prog.wideKeysFrom ·))) = true := by kernel_rfl
theorem fact18 : (Rows.topSporadicSpec.vars.all (Tryz.pinned.checked.prog.varReadable ·)) = true := by kernel_rfl
theorem fact19 : (Tryz.f6.resultTypes.all (fun t => Tryz.pinned.checked.prog.readableRec t && decide (t < Tryz.pinned.checked.prog.types.size))) = true := by kernel_rfl
theorem fact20 : ((Rows.topSporadicRow.ifacesOut == Tryz.f6.resultTypes.toList.any (Tryz.pinned.checked.prog.ifacesRec ·))) = true := by kernel_rfl
theorem fact21 : ((Rows.topSporadicRow.loopsOut == Tryz.f6.resultTypes.toList.any (Tryz.pinned.checked.prog.loopsFrom ·))) = true := by kernel_rfl
theorem fact22 : ((Rows.topSporadicRow.plainKeys == Tryz.pinned.checked.prog.plainKeys)) = true := by kernel_rfl
theorem fact23 : (Rows.topSporadicRow.shortTexts.isNone) = true := by kernel_rfl
theorem fact26 : ((Rows.topSporadicRow.lifted == Tryz.pinned.checked.prog.liftsFinal)) = true := by kernel_rfl
theorem fact27 : ((Tryz.pinned.checked.prog.make == some Rows.topSporadicRow.make)) = true := by kernel_rfl
theorem fact28 : ((Rows.topSporadicRow.kinds == (if Rows.topSporadicRow.domain.isEmpty then [] else Tryz.f6.params.toList.map fun t => match Tryz.pinned.checked.prog.underlying t with | some (.int k) => some k | _ => none))) = true := by kernel_rfl
theorem fact29 : ((Rows.topSporadicRow.pinned == Rows.topSporadicRow.pinnedBy)) = true := by kernel_rfl
theorem fact30 : ((Rows.topSporadicRow.veiled == (Tryz.f6.params.toList ++ Rows.topSporadicSpec.plain.varTypes Tryz.pinned.checked.prog ++ Tryz.f6.resultTypes.toList).any (Tryz.pinned.checked.prog.veiledRec ·))) = true := by kernel_rfl
theorem fact31 : (Rows.topSporadicRow.veiledFits Tryz.pinned.checked.prog Tryz.f6.params.toList (Tryz.f6.params.toList ++ Rows.topSporadicSpec.plain.varTypes Tryz.pinned.checked.prog ++ Tryz.f6.resultTypes.toList)) = true := by kernel_rfl
set_option maxRecDepth 100000 in
theorem facts : joinedFacts Tryz.pinned.checked.prog 6 Tryz.f6 Rows.topSporadicSpec Rows.topSporadicRow = true := (and_tt (and_tt (and_tt (and_tt (and_tt (and_tt (and_tt (and_tt (and_tt (and_tt (and_tt (and_tt (and_tt (and_tt (and_tt (and_tt (and_tt (and_tt (and_tt (and_tt (and_tt (and_tt (and_tt (and_tt (and_tt (and_tt (and_tt (and_tt (and_tt (and_tt (and_tt fact0 fact1) fact2) fact3) fact4) fact5) fact6) fact7) fact8) fact9) fact10) fact11) fact12) fact13) fact14) fact15) fact16) fact17) fact18) fact19) fact20) fact21) fact22) fact23) fact24) fact25) fact26) fact27) fact28) fact29) fact30) fact31)
theorem factInst : Tryz.f6.isInstance Tryz.pinned.checked.prog Rows.topSporadicRow.origin Rows.topSporadicRow.targs := of_decide_eq_true (by kernel_rfl)
theorem factWrap : Tryz.f6.isWrapper Tryz.pinned.checked.prog Rows.topSporadicRow.wrapper Rows.topSporadicRow.mainSum := by unfold Func.isWrapper; first | (rw [if_pos (by decide +kernel)]; kernel_rfl) | (rw [if_neg (by decide +kernel)]; exact ⟨rfl, rfl⟩)
theorem factWf : Rows.topSporadicRow.wfByText (OpenSpec.ofChange Rows.topSporadicSpec) = true := by kernel_rfl
theorem factStand : ([3].all fun u => !Tryz.pinned.checked.prog.wantsStandIn u) = true := by kernel_rfl
end Go.Proofs.YtagmlijhgncklaaGreatDoor.topSporadic
