/-
  Closed facts on the program that each Top row asks for. There are no conditions.
-/
import Derived.Test.YtagmlijhgncklaaGreatDoorRows
import Derived.JoinedOf
import GoSem.ClaimSeven
set_option linter.unusedVariables false
namespace Go.Proofs.YtagmlijhgncklaaGreatDoor
open Go
theorem and_tt {a b : Bool} (h : a = true) (k : b = true) : (a && b) = true := by rw [h, k]; rfl
theorem fine0 : ((List.range 100).all fun t => rowFine Tryz.pinned.checked.prog (t + 0)) = true := by kernel_rfl
theorem fine1 : ((List.range 100).all fun t => rowFine Tryz.pinned.checked.prog (t + 100)) = true := by kernel_rfl
theorem fine2 : ((List.range 100).all fun t => rowFine Tryz.pinned.checked.prog (t + 200)) = true := by kernel_rfl
theorem fine3 : ((List.range 100).all fun t => rowFine Tryz.pinned.checked.prog (t + 300)) = true := by kernel_rfl
theorem fine4 : ((List.range 100).all fun t => rowFine Tryz.pinned.checked.prog (t + 400)) = true := by kernel_rfl
theorem fine5 : ((List.range 100).all fun t => rowFine Tryz.pinned.checked.prog (t + 500)) = true := by kernel_rfl
theorem fine6 : ((List.range 97).all fun t => rowFine Tryz.pinned.checked.prog (t + 600)) = true := by kernel_rfl
theorem sizeTypes : Tryz.pinned.checked.prog.types.size = 697 := by kernel_rfl
theorem fineAll : ((List.range Tryz.pinned.checked.prog.types.size).all (rowFine Tryz.pinned.checked.prog)) = true := by
  rw [sizeTypes, List.all_eq_true]
  intro t ht
  have h := List.mem_range.1 ht
  have g : ∀ (n m : Nat), ((List.range n).all fun t => rowFine Tryz.pinned.checked.prog (t + m)) = true → m ≤ t → t < m + n → rowFine Tryz.pinned.checked.prog t = true := fun n m q h1 h2 => by
    have r := List.all_eq_true.1 q (t - m) (List.mem_range.2 (by omega))
    rwa [show t - m + m = t by omega] at r
  by_cases h0 : t < 100
  · exact g 100 0 fine0 (by omega) (by omega)
  by_cases h1 : t < 200
  · exact g 100 100 fine1 (by omega) (by omega)
  by_cases h2 : t < 300
  · exact g 100 200 fine2 (by omega) (by omega)
  by_cases h3 : t < 400
  · exact g 100 300 fine3 (by omega) (by omega)
  by_cases h4 : t < 500
  · exact g 100 400 fine4 (by omega) (by omega)
  by_cases h5 : t < 600
  · exact g 100 500 fine5 (by omega) (by omega)
  exact g 97 600 fine6 (by omega) (by omega)
theorem fineG : (Tryz.pinned.checked.prog.globals.all fun g => decide (g.type < Tryz.pinned.checked.prog.types.size)) = true := by kernel_rfl
theorem fineF : (Tryz.pinned.checked.prog.funcs.all fun f => f.params.all fun t => decide (t < Tryz.pinned.checked.prog.types.size)) = true := by
  rw [sizeTypes]
  kernel_rfl
theorem fact1 : laidOutB Tryz.pinned.checked.prog = true := and_tt (and_tt fineAll fineG) fineF
theorem fact2 : (mapsRowed Tryz.pinned.checked.prog) = true := by kernel_rfl
theorem fact6 : ((Tryz.pinned.checked.prog.stops == [])) = true := by kernel_rfl
theorem fact8 : ((Tryz.pinned.checked.prog.stopKnobs == [])) = true := by kernel_rfl
theorem fact24 : (Tryz.pinned.checked.prog.stopsHeard) = true := by kernel_rfl
theorem fact25 : (Tryz.pinned.checked.prog.mayEnter) = true := by kernel_rfl
theorem factMain : Tryz.pinned.checked.prog.mainIs = some (true, "e3ab3581ec434e94efa9521c3a76ed0c5ec288d6f621a12e2b52a61e743c0039".toList) := by kernel_rfl
theorem factLooks : true = Tryz.pinned.checked.prog.looks [] := by kernel_rfl
end Go.Proofs.YtagmlijhgncklaaGreatDoor
