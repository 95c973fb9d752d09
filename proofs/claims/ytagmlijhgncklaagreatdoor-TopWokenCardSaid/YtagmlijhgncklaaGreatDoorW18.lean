/-
  Timers that are not armed; new stores, over the translation of this seat. Conditions: the blocks that are named hold what is said.
  Stores of nothing (made, seven kinds); a file system, over the translation of this seat. There are no conditions but the number's bounds.
-/
import Derived.Test.YtagmlijhgncklaaGreatDoorW15
import Derived.Test.YtagmlijhgncklaaGreatDoorW17
set_option linter.unusedVariables false
namespace Go.Proofs.YtagmlijhgncklaaGreatDoor
open Go.RowKit

def tmZ : List Value := (List.replicate 8 [.bool false, .int .i64 0, .int .i64 0, .int .i64 0, .bool false, .int .i64 0, .int .i64 0]).flatten
def tmO (n : Int) (w0 w1 : Nat) : Obj := .cells (.int .i64 n :: .pointer (some ⟨w0, 0, none⟩) :: .pointer (some ⟨w1, 0, none⟩) :: tmZ).toArray 202 (0, 0)
/-- Timers of which none is armed. -/
structure Tm (w : World) (b : Nat) (n : Int) (w0 w1 : Nat) : Prop where
  t : w.heap[b]? = some (tmO n w0 w1)
  n1 : 1 ≤ n
  n8 : n ≤ 8
  h0 : w.heap[w0]? = some (whO Wh.new)
  h1 : w.heap[w1]? = some (whO Wh.new)
theorem Tm.reads {w w' : World} {b w0 w1 : Nat} {n : Int} (h : Tm w b n w0 w1) (k : Below w.heap.size w w') : Tm w' b n w0 w1 := ⟨below_has k h.t, h.n1, h.n8, below_has k h.h0, below_has k h.h1⟩
set_option maxRecDepth 100000 in
theorem timers_new (w : World) (n : Int) (h1 : 1 ≤ n) (h8 : n ≤ 8) : Calls Tryz.prog 35 #[.int .i64 n] w fun e w' => ∃ b w0 w1, e = .returned (.tuple #[.pointer (some ⟨b, 0, none⟩), .int .i64 0]) ∧ Tm w' b n w0 w1 ∧ Below w.heap.size w w' ∧ w.heap.size ≤ b ∧ w.heap.size ≤ w0 ∧ w.heap.size ≤ w1 := by
  go_enter Tryz.func35, Tryz.ntmps35
  go_wp2_with fail
  refine (wheel_new w).mono ?_; rintro e w1 ⟨rfl, g1, b1, z1⟩
  have G1 := Lib.hid g1
  have B1 := Lib.hid b1
  have Z1 := Lib.hid z1
  clear g1 b1 z1
  go_wp2_with fail
  refine (wheel_new w1).mono ?_; rintro e w2 ⟨rfl, g2, b2, z2⟩
  have G2 := Lib.hid g2
  have B2 := Lib.hid b2
  have Z2 := Lib.hid z2
  clear g2 b2 z2
  go_wp2_with fail
  go_ret2
  have hx := heap_alloc_new w2 (tmO n w.heap.size w1.heap.size)
  have k1 := B1.out.size
  have k2 := B2.out.size
  exact ⟨w2.heap.size, w.heap.size, w1.heap.size, rfl, ⟨hx, h1, h8, below_alloc_has (below_has B2.out G1.out), below_alloc_has G2.out⟩, (B1.out.trans (B2.out.mono k1)).alloc (by omega) _, by omega, Nat.le_refl _, k1⟩
/-- A store of nothing: its table, nothing beside it. -/
def stO (tb T : Nat) : Obj := .cells (.pointer (some ⟨tb, 0, none⟩) :: List.replicate 8 (.pointer none)).toArray T (0, 0)
end Go.Proofs.YtagmlijhgncklaaGreatDoor
namespace Go.Proofs.YtagmlijhgncklaaGreatDoor
open Go.RowKit

theorem fs_new (w : World) : Calls Tryz.prog 40 #[] w fun e w' => ∃ x, e = .returned (.pointer (some ⟨x, 0, none⟩)) ∧ Below w.heap.size w w' := by
  have hmm : ∀ w : World, (Instr.makeMap 223 none).run Tryz.prog w = .ok (.map (some w.heap.size)) (w.alloc (.map #[] 0)) := fun _ => rfl
  go_enter Tryz.func40, Tryz.ntmps40
  go_wp2
  go_ret
  exact ⟨_, rfl, ((Below.refl w.heap.size w).alloc (Nat.le_refl _) _).alloc (by simp) _⟩
set_option maxRecDepth 100000 in
theorem made_28 (w : World) (n : Nat) (h0 : 1 ≤ n) (h1 : n ≤ 16) : Calls Tryz.prog 28 #[.int .i64 n] w fun e w' => ∃ x, e = .returned (.pointer (some ⟨x, 0, none⟩)) ∧ w'.heap[x]? = some (stO w.heap.size 179) ∧ w'.heap[w.heap.size]? = some (Tab.tabO (List.replicate n (false, 0))) ∧ Below w.heap.size w w' ∧ w.heap.size < x := by
  go_enter Tryz.func28, Tryz.ntmps28
  go_wp2_with (go_at_call 23; refine (Tab.new_c _ n h0 h1).mono ?_; rintro e w1 ⟨rfl, x1, b1, z1⟩)
  go_ret
  exact ⟨w1.heap.size, rfl, heap_alloc_new w1 _, below_alloc_has x1, b1.alloc b1.size _, z1⟩
set_option maxRecDepth 100000 in
theorem made_29 (w : World) (n : Nat) (h0 : 1 ≤ n) (h1 : n ≤ 16) : Calls Tryz.prog 29 #[.int .i64 n] w fun e w' => ∃ x, e = .returned (.pointer (some ⟨x, 0, none⟩)) ∧ w'.heap[x]? = some (stO w.heap.size 182) ∧ w'.heap[w.heap.size]? = some (Tab.tabO (List.replicate n (false, 0))) ∧ Below w.heap.size w w' ∧ w.heap.size < x := by
  go_enter Tryz.func29, Tryz.ntmps29
  go_wp2_with (go_at_call 23; refine (Tab.new_c _ n h0 h1).mono ?_; rintro e w1 ⟨rfl, x1, b1, z1⟩)
  go_ret
  exact ⟨w1.heap.size, rfl, heap_alloc_new w1 _, below_alloc_has x1, b1.alloc b1.size _, z1⟩
set_option maxRecDepth 100000 in
theorem made_30 (w : World) (n : Nat) (h0 : 1 ≤ n) (h1 : n ≤ 16) : Calls Tryz.prog 30 #[.int .i64 n] w fun e w' => ∃ x, e = .returned (.pointer (some ⟨x, 0, none⟩)) ∧ w'.heap[x]? = some (stO w.heap.size 185) ∧ w'.heap[w.heap.size]? = some (Tab.tabO (List.replicate n (false, 0))) ∧ Below w.heap.size w w' ∧ w.heap.size < x := by
  go_enter Tryz.func30, Tryz.ntmps30
  go_wp2_with (go_at_call 23; refine (Tab.new_c _ n h0 h1).mono ?_; rintro e w1 ⟨rfl, x1, b1, z1⟩)
  go_ret
  exact ⟨w1.heap.size, rfl, heap_alloc_new w1 _, below_alloc_has x1, b1.alloc b1.size _, z1⟩
set_option maxRecDepth 100000 in
theorem made_31 (w : World) (n : Nat) (h0 : 1 ≤ n) (h1 : n ≤ 16) : Calls Tryz.prog 31 #[.int .i64 n] w fun e w' => ∃ x, e = .returned (.pointer (some ⟨x, 0, none⟩)) ∧ w'.heap[x]? = some (stO w.heap.size 188) ∧ w'.heap[w.heap.size]? = some (Tab.tabO (List.replicate n (false, 0))) ∧ Below w.heap.size w w' ∧ w.heap.size < x := by
  go_enter Tryz.func31, Tryz.ntmps31
  go_wp2_with (go_at_call 23; refine (Tab.new_c _ n h0 h1).mono ?_; rintro e w1 ⟨rfl, x1, b1, z1⟩)
  go_ret
  exact ⟨w1.heap.size, rfl, heap_alloc_new w1 _, below_alloc_has x1, b1.alloc b1.size _, z1⟩
set_option maxRecDepth 100000 in
theorem made_32 (w : World) (n : Nat) (h0 : 1 ≤ n) (h1 : n ≤ 16) : Calls Tryz.prog 32 #[.int .i64 n] w fun e w' => ∃ x, e = .returned (.pointer (some ⟨x, 0, none⟩)) ∧ w'.heap[x]? = some (stO w.heap.size 191) ∧ w'.heap[w.heap.size]? = some (Tab.tabO (List.replicate n (false, 0))) ∧ Below w.heap.size w w' ∧ w.heap.size < x := by
  go_enter Tryz.func32, Tryz.ntmps32
  go_wp2_with (go_at_call 23; refine (Tab.new_c _ n h0 h1).mono ?_; rintro e w1 ⟨rfl, x1, b1, z1⟩)
  go_ret
  exact ⟨w1.heap.size, rfl, heap_alloc_new w1 _, below_alloc_has x1, b1.alloc b1.size _, z1⟩
set_option maxRecDepth 100000 in
theorem made_33 (w : World) (n : Nat) (h0 : 1 ≤ n) (h1 : n ≤ 16) : Calls Tryz.prog 33 #[.int .i64 n] w fun e w' => ∃ x, e = .returned (.pointer (some ⟨x, 0, none⟩)) ∧ w'.heap[x]? = some (stO w.heap.size 194) ∧ w'.heap[w.heap.size]? = some (Tab.tabO (List.replicate n (false, 0))) ∧ Below w.heap.size w w' ∧ w.heap.size < x := by
  go_enter Tryz.func33, Tryz.ntmps33
  go_wp2_with (go_at_call 23; refine (Tab.new_c _ n h0 h1).mono ?_; rintro e w1 ⟨rfl, x1, b1, z1⟩)
  go_ret
  exact ⟨w1.heap.size, rfl, heap_alloc_new w1 _, below_alloc_has x1, b1.alloc b1.size _, z1⟩
set_option maxRecDepth 100000 in
theorem made_34 (w : World) (n : Nat) (h0 : 1 ≤ n) (h1 : n ≤ 16) : Calls Tryz.prog 34 #[.int .i64 n] w fun e w' => ∃ x, e = .returned (.pointer (some ⟨x, 0, none⟩)) ∧ w'.heap[x]? = some (stO w.heap.size 197) ∧ w'.heap[w.heap.size]? = some (Tab.tabO (List.replicate n (false, 0))) ∧ Below w.heap.size w w' ∧ w.heap.size < x := by
  go_enter Tryz.func34, Tryz.ntmps34
  go_wp2_with (go_at_call 23; refine (Tab.new_c _ n h0 h1).mono ?_; rintro e w1 ⟨rfl, x1, b1, z1⟩)
  go_ret
  exact ⟨w1.heap.size, rfl, heap_alloc_new w1 _, below_alloc_has x1, b1.alloc b1.size _, z1⟩
end Go.Proofs.YtagmlijhgncklaaGreatDoor
