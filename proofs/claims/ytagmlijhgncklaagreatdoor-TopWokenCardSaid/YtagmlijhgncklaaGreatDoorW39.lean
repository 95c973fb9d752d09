/-
  The arena of 512 bytes, over the translation of this seat: a word of noughts is read as 0; a word is written where it may stand. Conditions: the blocks that are named hold what is said.
-/
import Derived.Test.YtagmlijhgncklaaGreatDoorW18
import Derived.Laws.CopyOwn
import Derived.Deep.DrawnRows
set_option linter.unusedVariables false
namespace Go.Proofs.YtagmlijhgncklaaGreatDoor
open Go.RowKit

def arO (s : Nat) (c : Int) : Obj := .cells #[.slice (some ⟨s, 0, none⟩) 512 512, .int .i64 c] 217 (0, 0)
structure Ar (w : World) (a s : Nat) (c : Int) (L : List Value) : Prop where
  ha : w.heap[a]? = some (arO s c)
  hs : w.heap[s]? = some (.cells L.toArray 5 (0, 0))
  len : L.length = 512
  ne : a ≠ s
  c0 : 0 ≤ c
  c1 : c ≤ 1000
theorem Ar.reads {w w' : World} {a s : Nat} {c : Int} {L : List Value} (h : Ar w a s c L) (k : Below w.heap.size w w') : Ar w' a s c L := ⟨below_has k h.ha, below_has k h.hs, h.len, h.ne, h.c0, h.c1⟩
def bytes0 : List Value := List.replicate 512 (.int .u8 0)
set_option maxRecDepth 100000 in
theorem ar_new (w : World) : Calls Tryz.prog 38 #[.int .i64 512] w fun e w' => ∃ a s, e = .returned (.tuple #[.pointer (some ⟨a, 0, none⟩), .int .i64 0]) ∧ Ar w' a s 0 bytes0 ∧ Below w.heap.size w w' ∧ w.heap.size ≤ a ∧ w.heap.size ≤ s := by
  have hmk : ∀ w : World, (Instr.makeSlice 215 (.int .i64 512) (.int .i64 512)).run Tryz.prog w = .ok (.slice (some ⟨w.heap.size, 0, none⟩) 512 512) (w.alloc (.cells bytes0.toArray 5)) := fun _ => by kernel_rfl
  go_enter Tryz.func38, Tryz.ntmps38
  go_wp2_with fail
  go_ret2
  have h1 := heap_alloc_new w (.cells bytes0.toArray 5)
  have h2 := heap_alloc_new (w.alloc (.cells bytes0.toArray 5)) (arO w.heap.size 0)
  have b1 := (Below.refl w.heap.size w).alloc (Nat.le_refl _) (.cells bytes0.toArray 5)
  exact ⟨w.heap.size + 1, w.heap.size, by simp, ⟨by have e := Array.size_push (xs := w.heap) (Obj.cells bytes0.toArray 5); exact (by simpa [arO] using h2), below_alloc_has h1, by simp [bytes0], by omega, by omega, by omega⟩, b1.alloc (by simp) _, by omega, Nat.le_refl _⟩
theorem ar_there (w : World) (a s : Nat) (c : Int) (L : List Value) (h : Ar w a s c L) : Calls Tryz.prog 100 #[.pointer (some ⟨a, 0, none⟩)] w fun e w' => e = .returned (.bool true) ∧ w = w' := by
  have c0 : w.cell? ⟨a, 0, none⟩ = some (.slice (some ⟨s, 0, none⟩) 512 512) := has_cell 0 h.ha rfl
  clear h
  go_enter Tryz.func100, Tryz.ntmps100
  go_wp2
  go_ret
  exact ⟨rfl, rfl⟩
theorem ar_size (w : World) (a s : Nat) (c : Int) (L : List Value) (h : Ar w a s c L) : Calls Tryz.prog 61 #[.pointer (some ⟨a, 0, none⟩)] w fun e w' => e = .returned (.int .i64 512) ∧ w = w' := by
  have c0 : w.cell? ⟨a, 0, none⟩ = some (.slice (some ⟨s, 0, none⟩) 512 512) := has_cell 0 h.ha rfl
  have HT := ar_there w a s c L h
  clear h
  go_enter Tryz.func61, Tryz.ntmps61
  go_wp2_with (go_at_call 100; refine HT.mono ?_; rintro e w' ⟨rfl, rfl⟩)
  go_ret
  exact ⟨rfl, rfl⟩
theorem ar_word1 (w : World) (a s x y : Nat) (c : Int) (L : List Value) (h : Ar w a s c L) (o : Int) (hx : w.heap[x]? = some (.cells #[.int .i64 o] 3 (0, 0))) (hy : w.heap[y]? = some (.cells #[.pointer (some ⟨a, 0, none⟩)] 123 (0, 0))) (h0 : 0 ≤ o) (h1 : o + 4 ≤ 512) (h4 : o % 4 = 0) : Calls Tryz.prog 322 #[.pointer (some ⟨x, 0, none⟩), .pointer (some ⟨y, 0, none⟩)] w fun e w' => e = .returned (.bool true) ∧ Below w.heap.size w w' := by
  have c0 : w.cell? ⟨a, 0, none⟩ = some (.slice (some ⟨s, 0, none⟩) 512 512) := has_cell 0 h.ha rfl
  have cx : w.cell? ⟨x, 0, none⟩ = some (.int .i64 o) := has_cell 0 hx rfl
  have cy : w.cell? ⟨y, 0, none⟩ = some (.pointer (some ⟨a, 0, none⟩)) := has_cell 0 hy rfl
  have d1 : decide (0 ≤ o) = true := by simp; omega
  have d2 : decide (o < 512) = true := by simp; omega
  have ht : Int.tmod o 4 = 0 := by rw [Int.tmod_eq_emod_of_nonneg h0]; exact h4
  clear h hx hy
  go_enter Tryz.func322, Tryz.ntmps322
  go_wp2
  go_region_held3 (fun W' => W'.cell? ⟨x, 0, none⟩ = some (.int .i64 o) ∧ W'.cell? ⟨y, 0, none⟩ = some (.pointer (some ⟨a, 0, none⟩)) ∧ W'.cell? ⟨a, 0, none⟩ = some (.slice (some ⟨s, 0, none⟩) 512 512)) (first | exact ⟨cx, cy, c0⟩ | exact ⟨by assumption, by assumption, by assumption⟩) (first | fail)
  all_goals trace_state
  all_goals go_wp2
  all_goals go_ret
  all_goals exact ⟨by simp [*], (Below.refl _ w).drew⟩
theorem ar_word (w : World) (a : Nat) (o : Int) : Calls Tryz.prog 172 #[.pointer (some ⟨a, 0, none⟩), .int .i64 o] w fun e w' => ∃ x y, e = .returned (.func (.func 322) #[] #[.pointer (some ⟨x, 0, none⟩), .pointer (some ⟨y, 0, none⟩)]) ∧ w'.heap[x]? = some (.cells #[.int .i64 o] 3 (0, 0)) ∧ w'.heap[y]? = some (.cells #[.pointer (some ⟨a, 0, none⟩)] 123 (0, 0)) ∧ Below w.heap.size w w' := by
  have hmf : ∀ (fn : Fn) (first cap : Array Value) (w : World), (Instr.makeFunc fn first cap).run Tryz.prog w = .ok (.func fn first cap) w := fun _ _ _ _ => rfl
  go_enter Tryz.func172, Tryz.ntmps172
  go_wp2
  go_ret
  have h1 := heap_alloc_new w (.cells #[.pointer (some ⟨a, 0, none⟩)] 123)
  have h2 := heap_alloc_new (w.alloc (.cells #[.pointer (some ⟨a, 0, none⟩)] 123)) (.cells #[.int .i64 o] 3)
  have b1 := (Below.refl w.heap.size w).alloc (Nat.le_refl _) (.cells #[.pointer (some ⟨a, 0, none⟩)] 123)
  exact ⟨w.heap.size + 1, w.heap.size, by simp, by simpa using h2, below_alloc_has h1, b1.alloc (by simp) _⟩
theorem ar_ask (w : World) (a s x y : Nat) (c : Int) (L : List Value) (h : Ar w a s c L) (o : Int) (hx : w.heap[x]? = some (.cells #[.int .i64 o] 3 (0, 0))) (hy : w.heap[y]? = some (.cells #[.pointer (some ⟨a, 0, none⟩)] 123 (0, 0))) (h0 : 0 ≤ o) (h1 : o + 4 ≤ 512) (h4 : o % 4 = 0) : Calls Tryz.prog 101 #[.pointer (some ⟨a, 0, none⟩), .func (.func 322) #[] #[.pointer (some ⟨x, 0, none⟩), .pointer (some ⟨y, 0, none⟩)]] w fun e w' => e = .returned (.int .i64 0) ∧ Below w.heap.size w w' := by
  have HT := ar_there w a s c L h
  have HW := ar_word1 w a s x y c L h o hx hy h0 h1 h4
  clear h hx hy h0 h1 h4
  go_enter Tryz.func101, Tryz.ntmps101
  go_wp2_with (first | (go_at_call 100; refine HT.mono ?_; rintro e w' ⟨rfl, rfl⟩) | (go_at_call 322; refine HW.mono ?_; rintro e w' ⟨rfl, b⟩))
  go_ret
  exact ⟨rfl, by assumption⟩
theorem ar_four (w : World) (x : Int) : Calls Tryz.prog 173 #[.int .u32 x] w fun e w' => ∃ x0 x1 x2 x3, e = .returned (.agg #[.int .u8 x0, .int .u8 x1, .int .u8 x2, .int .u8 x3]) ∧ Below w.heap.size w w' := by
  go_enter Tryz.func173, Tryz.ntmps173
  go_wp2
  refine bodyPost_ret (by simp [results, Tryz.results173, go_sem]; try rfl) rfl ?_
  exact ⟨_, _, _, _, rfl, (((Below.refl w.heap.size w).alloc (Nat.le_refl _) _))⟩
end Go.Proofs.YtagmlijhgncklaaGreatDoor
