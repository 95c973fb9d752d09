/-
  The closed facts of the row 'TopRobins', one by one. There are no conditions.
-/
import Derived.Test.YtagmlijhgncklaaGreatDoorS06
set_option linter.unusedVariables false
namespace Go.Proofs.YtagmlijhgncklaaGreatDoor.topRobins
open Go
theorem fact0 : (Rows.topRobinsRow.wf (OpenSpec.ofChange Rows.topRobinsSpec)) = true := by kernel_rfl
theorem fact3 : (Tryz.f4.params.all (Tryz.pinned.checked.prog.readableRec ·)) = true := by kernel_rfl
theorem fact4 : (namedTie Tryz.pinned.checked.prog Rows.topRobinsRow.named Rows.topRobinsSpec.vars) = true := by kernel_rfl
theorem fact5 : ((Rows.topRobinsRow.stops == [])) = true := by kernel_rfl
theorem fact7 : ((Rows.topRobinsRow.knobs == [])) = true := by kernel_rfl
theorem fact13 : ((Rows.topRobinsRow.maps == (Tryz.f4.params.toList ++ Rows.topRobinsSpec.plain.varTypes Tryz.pinned.checked.prog).any (Tryz.pinned.checked.prog.mapsRec ·))) = true := by kernel_rfl
theorem fact14 : ((Rows.topRobinsRow.ifaces == (Tryz.f4.params.toList ++ Rows.topRobinsSpec.plain.varTypes Tryz.pinned.checked.prog).any (Tryz.pinned.checked.prog.ifacesRec ·))) = true := by kernel_rfl
theorem fact15 : ((Rows.topRobinsRow.mapsOut == Tryz.pinned.checked.prog.mapsAmong Tryz.f4.resultTypes.toList)) = true := by kernel_rfl
theorem fact16 : ((Rows.topRobinsRow.loops == (Tryz.f4.params.toList ++ Rows.topRobinsSpec.plain.varTypes Tryz.pinned.checked.prog).any (Tryz.pinned.checked.prog.loopsFrom ·))) = true := by kernel_rfl
theorem fact17 : ((Rows.topRobinsRow.wideKeys == (Tryz.f4.params.toList ++ Rows.topRobinsSpec.plain.varTypes Tryz.pinned.checked.prog ++ Tryz.f4.resultTypes.toList).any (Tryz.pinned.checked.prog.wideKeysFrom ·))) = true := by kernel_rfl
theorem fact18 : (Rows.topRobinsSpec.vars.all (Tryz.pinned.checked.prog.varReadable ·)) = true := by kernel_rfl
theorem fact19 : (Tryz.f4.resultTypes.all (fun t => Tryz.pinned.checked.prog.readableRec t && decide (t < Tryz.pinned.checked.prog.types.size))) = true := by kernel_rfl
theorem fact20 : ((Rows.topRobinsRow.ifacesOut == Tryz.f4.resultTypes.toList.any (Tryz.pinned.checked.prog.ifacesRec ·))) = true := by kernel_rfl
theorem fact21 : ((Rows.topRobinsRow.loopsOut == Tryz.f4.resultTypes.toList.any (Tryz.pinned.checked.prog.loopsFrom ·))) = true := by kernel_rfl
theorem fact22 : ((Rows.topRobinsRow.plainKeys == Tryz.pinned.checked.prog.plainKeys)) = true := by kernel_rfl
theorem fact23 : (Rows.topRobinsRow.shortTexts.isNone) = true := by kernel_rfl
theorem fact26 : ((Rows.topRobinsRow.lifted == Tryz.pinned.checked.prog.liftsFinal)) = true := by kernel_rfl
theorem fact27 : ((Tryz.pinned.checked.prog.make == some Rows.topRobinsRow.make)) = true := by kernel_rfl
theorem fact28 : ((Rows.topRobinsRow.kinds == (if Rows.topRobinsRow.domain.isEmpty then [] else Tryz.f4.params.toList.map fun t => match Tryz.pinned.checked.prog.underlying t with | some (.int k) => some k | _ => none))) = true := by kernel_rfl
theorem fact29 : ((Rows.topRobinsRow.pinned == Rows.topRobinsRow.pinnedBy)) = true := by kernel_rfl
theorem fact30 : ((Rows.topRobinsRow.veiled == (Tryz.f4.params.toList ++ Rows.topRobinsSpec.plain.varTypes Tryz.pinned.checked.prog ++ Tryz.f4.resultTypes.toList).any (Tryz.pinned.checked.prog.veiledRec ·))) = true := by kernel_rfl
theorem fact31 : (Rows.topRobinsRow.veiledFits Tryz.pinned.checked.prog Tryz.f4.params.toList (Tryz.f4.params.toList ++ Rows.topRobinsSpec.plain.varTypes Tryz.pinned.checked.prog ++ Tryz.f4.resultTypes.toList)) = true := by kernel_rfl
set_option maxRecDepth 100000 in
theorem facts : joinedFacts Tryz.pinned.checked.prog 4 Tryz.f4 Rows.topRobinsSpec Rows.topRobinsRow = true := (and_tt (and_tt (and_tt (and_tt (and_tt (and_tt (and_tt (and_tt (and_tt (and_tt (and_tt (and_tt (and_tt (and_tt (and_tt (and_tt (and_tt (and_tt (and_tt (and_tt (and_tt (and_tt (and_tt (and_tt (and_tt (and_tt (and_tt (and_tt (and_tt (and_tt (and_tt fact0 fact1) fact2) fact3) fact4) fact5) fact6) fact7) fact8) fact9) fact10) fact11) fact12) fact13) fact14) fact15) fact16) fact17) fact18) fact19) fact20) fact21) fact22) fact23) fact24) fact25) fact26) fact27) fact28) fact29) fact30) fact31)
theorem factInst : Tryz.f4.isInstance Tryz.pinned.checked.prog Rows.topRobinsRow.origin Rows.topRobinsRow.targs := of_decide_eq_true (by kernel_rfl)
theorem factWrap : Tryz.f4.isWrapper Tryz.pinned.checked.prog Rows.topRobinsRow.wrapper Rows.topRobinsRow.mainSum := by unfold Func.isWrapper; first | (rw [if_pos (by decide +kernel)]; kernel_rfl) | (rw [if_neg (by decide +kernel)]; exact ⟨rfl, rfl⟩)
theorem factWf : Rows.topRobinsRow.wfByText (OpenSpec.ofChange Rows.topRobinsSpec) = true := by kernel_rfl
theorem factStand : ([3].all fun u => !Tryz.pinned.checked.prog.wantsStandIn u) = true := by kernel_rfl
end Go.Proofs.YtagmlijhgncklaaGreatDoor.topRobins
