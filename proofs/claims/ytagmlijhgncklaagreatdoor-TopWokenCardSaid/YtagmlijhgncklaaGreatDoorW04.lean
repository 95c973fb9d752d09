/-
  Closures over numbers. There are no conditions.
-/
import Derived.Test.YtagmlijhgncklaaGreatDoorW03
set_option linter.unusedVariables false
namespace Go.Proofs.YtagmlijhgncklaaGreatDoor.Reach
open Go
def memB (f : Nat) : List Nat → Bool
  | [] => false
  | x :: l => bif Nat.beq f x then true else memB f l
theorem memB_eq (f : Nat) (l : List Nat) : l.contains f = memB f l := by
  induction l with
  | nil => rfl
  | cons x l ih =>
    rw [List.contains_cons, ih, memB]
    have hb : (f == x) = Nat.beq f x := by rw [Bool.eq_iff_iff]; simp
    rw [hb]
    cases Nat.beq f x <;> rfl
def viaT : Nat → List Nat → List Nat → List Nat
  | 0, _, seen => seen.reverse
  | _ + 1, [], seen => seen.reverse
  | n + 1, f :: todo, seen => bif memB f seen then viaT n todo seen else viaT n (ldF f ++ todo) (f :: seen)
theorem via_eq : ∀ (n : Nat) (todo seen : List Nat), Tryz.prog.closureVia n todo seen = viaT n todo seen
  | 0, _, _ => rfl
  | _ + 1, [], _ => rfl
  | n + 1, f :: todo, seen => by
    have e : (Tryz.prog.funcs[f]?).elim [] Tryz.prog.leadsTo = ldF f := ld_eq f
    rw [Program.closureVia, viaT, memB_eq, e]
    cases memB f seen with
    | true => exact via_eq n todo seen
    | false => exact via_eq n (ldF f ++ todo) (f :: seen)
theorem map_range {α β : Type} (A : Array α) (h : α → β) (d : β) : A.toList.map h = (List.range A.size).map fun i => (A[i]?).elim d h := by
  apply List.ext_getElem?
  intro i
  rw [List.getElem?_map, List.getElem?_map, Array.getElem?_toList]
  by_cases hi : i < A.size
  · rw [List.getElem?_range hi, Array.getElem?_eq_getElem hi]
    simp [hi]
  · rw [Array.getElem?_eq_none (by omega), List.getElem?_eq_none (by rw [List.length_range]; omega)]
    rfl
theorem fuel_eq : 1 + (Tryz.prog.funcs.toList.map fun g => (Tryz.prog.leadsTo g).length + 1).sum = 2153 := by
  rw [map_range _ _ 0, sizeF]
  have e : ∀ i ∈ List.range 683, ((Tryz.prog.funcs[i]?).elim 0 fun g => (Tryz.prog.leadsTo g).length + 1) = (ldF i).length + 1 := fun i hi => by
    have hi := List.mem_range.1 hi
    rw [← ld_eq i]
    unfold lead
    rw [Array.getElem?_eq_getElem (by rw [sizeF]; exact hi)]
    rfl
  have q : (List.range 683).map (fun i => (Tryz.prog.funcs[i]?).elim 0 fun g => (Tryz.prog.leadsTo g).length + 1) = (List.range 683).map fun i => (ldF i).length + 1 := List.map_congr_left e
  have z : 1 + ((List.range 683).map fun i => (ldF i).length + 1).sum = 2153 := by kernel_rfl
  rw [q]
  exact z
theorem nobody : Tryz.prog.funcs.any Func.goes = false := by
  rw [Array.any_eq_false]
  intro i hi
  have q := go_eq i
  unfold gs at q
  rw [Array.getElem?_eq_getElem hi] at q
  simpa using q
end Go.Proofs.YtagmlijhgncklaaGreatDoor.Reach
