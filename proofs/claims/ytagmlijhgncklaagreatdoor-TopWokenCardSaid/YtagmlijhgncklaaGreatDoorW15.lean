/-
  A wheel of which nothing is due, over the translation of this seat. Conditions: the blocks that are named hold what is said.
-/
import Derived.Test.YtagmlijhgncklaaGreatDoorW14
import Derived.Deep.MidRow
import Derived.Laws.AppendOwn
set_option linter.unusedVariables false
namespace Go.Proofs.YtagmlijhgncklaaGreatDoor
open Go.RowKit

/-- A wheel: its rings, where each number's deadline is, how many were set, how many there are. -/
structure Wh where
  rings : List Value
  wh : List Int
  st : Int
  n : Int
def whC (s : Wh) : List Value := .bool true :: (s.rings ++ (ints s.wh ++ [.int .i64 s.st, .int .i64 s.n]))
def whO (s : Wh) : Obj := .cells (whC s).toArray 172 (0, 0)
structure WhOk (s : Wh) : Prop where
  rings : s.rings.length = 64
  wh : s.wh.length = 64
/-- Nobody's deadline is set. -/
def Quiet (s : Wh) : Prop := ∀ (k : Nat), k < 64 → ∃ a c, s.rings[k]? = some (.slice a 0 c)
def Wh.new : Wh := ⟨List.replicate 64 (.slice none 0 0), List.replicate 64 0, 0, 0⟩
theorem Wh.new_ok : WhOk Wh.new := ⟨rfl, rfl⟩
theorem Wh.new_quiet : Quiet Wh.new := fun k hk => ⟨none, 0, by show (List.replicate 64 _)[k]? = _; rw [List.getElem?_replicate, if_pos hk]⟩
set_option maxRecDepth 100000 in
theorem wheel_new (w : World) : Calls Tryz.prog 26 #[] w fun e w' => e = .returned (.pointer (some ⟨w.heap.size, 0, none⟩)) ∧ w'.heap[w.heap.size]? = some (whO Wh.new) ∧ Below w.heap.size w w' ∧ w.heap.size < w'.heap.size := by
  go_enter Tryz.func26, Tryz.ntmps26
  go_wp2
  go_ret
  refine ⟨rfl, ?_, (Below.refl _ _).alloc (Nat.le_refl _) _, by simp⟩
  rw [heap_alloc_new]
  rfl
theorem whis_c (w : World) (b : Nat) (s : Wh) (h : w.heap[b]? = some (whO s)) : Calls Tryz.prog 314 #[.pointer (some ⟨b, 0, none⟩)] w fun e w' => e = .returned (.bool true) ∧ w = w' := by
  have c : w.cell? ⟨b, 0, none⟩ = some (.bool true) := has_cell 0 h rfl
  clear h
  go_enter Tryz.func314, Tryz.ntmps314
  go_wp2
  go_ret
  exact ⟨rfl, rfl⟩
end Go.Proofs.YtagmlijhgncklaaGreatDoor
