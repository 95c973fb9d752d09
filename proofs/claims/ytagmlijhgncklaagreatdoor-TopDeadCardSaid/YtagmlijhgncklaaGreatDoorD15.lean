/-
  A wheel of which nothing is due, over the translation of this seat. Conditions: the blocks that are named hold what is said.
-/
import Derived.Test.YtagmlijhgncklaaGreatDoorD14
import Derived.Deep.MidRow
import Derived.Laws.AppendOwn
set_option linter.unusedVariables false
namespace Go.Proofs.YtagmlijhgncklaaGreatDoor
open Go.RowKit

/-- A wheel: its rings, where each number's deadline is, how many were set, how many there are. -/
structure Wh where
  rings : List Value
  wh : List Int
  st : Int
  n : Int
def whC (s : Wh) : List Value := .bool true :: (s.rings ++ (ints s.wh ++ [.int .i64 s.st, .int .i64 s.n]))
def whO (s : Wh) : Obj := .cells (whC s).toArray 172 (0, 0)
structure WhOk (s : Wh) : Prop where
  rings : s.rings.length = 64
  wh : s.wh.length = 64
/-- Nobody's deadline is set. -/
def Quiet (s : Wh) : Prop := ∀ (k : Nat), k < 64 → ∃ a c, s.rings[k]? = some (.slice a 0 c)
def Wh.new : Wh := ⟨List.replicate 64 (.slice none 0 0), List.replicate 64 0, 0, 0⟩
theorem Wh.new_ok : WhOk Wh.new := ⟨rfl, rfl⟩
theorem Wh.new_quiet : Quiet Wh.new := fun k hk => ⟨none, 0, by show (List.replicate 64 _)[k]? = _; rw [List.getElem?_replicate, if_pos hk]⟩
theorem wh_range {w : World} {b : Nat} {s : Wh} (h : w.heap[b]? = some (whO s)) (ok : WhOk s) : w.rangeAt b 1 s.rings :=
  has_range h s.rings 1 (fun j hj => by
    rw [List.getElem?_toArray, show 1 + j = j + 1 by omega, whC, List.getElem?_cons_succ, List.getElem?_append_left hj])

set_option maxRecDepth 100000 in
theorem wheel_new (w : World) : Calls Tryz.prog 26 #[] w fun e w' => e = .returned (.pointer (some ⟨w.heap.size, 0, none⟩)) ∧ w'.heap[w.heap.size]? = some (whO Wh.new) ∧ Below w.heap.size w w' ∧ w.heap.size < w'.heap.size := by
  go_enter Tryz.func26, Tryz.ntmps26
  go_wp2
  go_ret
  refine ⟨rfl, ?_, (Below.refl _ _).alloc (Nat.le_refl _) _, by simp⟩
  rw [heap_alloc_new]
  rfl
theorem whis_c (w : World) (b : Nat) (s : Wh) (h : w.heap[b]? = some (whO s)) : Calls Tryz.prog 314 #[.pointer (some ⟨b, 0, none⟩)] w fun e w' => e = .returned (.bool true) ∧ w = w' := by
  have c : w.cell? ⟨b, 0, none⟩ = some (.bool true) := has_cell 0 h rfl
  clear h
  go_enter Tryz.func314, Tryz.ntmps314
  go_wp2
  go_ret
  exact ⟨rfl, rfl⟩
theorem insert_nil (w : World) (f : Value) : Calls Tryz.prog 597 #[.slice none 0 0, .int .i64 0, .int .i64 0, f] w fun e w' => e = .returned (.tuple #[]) ∧ w = w' := by
  go_enter Tryz.func597, Tryz.ntmps597
  go_wp2_with fail
  refine wp_loop_rounds 1 ?_
  rw [rounds_succ]
  go_wp2_with fail
  go_end0
  exact ⟨rfl, rfl⟩
set_option maxRecDepth 100000 in
theorem pdq_nil (w : World) (f : Value) (l : Int) : Calls Tryz.prog 567 #[.slice none 0 0, .int .i64 0, .int .i64 0, .int .i64 l, f] w fun e w' => e = .returned (.tuple #[]) ∧ w = w' := by
  go_enter Tryz.func567, Tryz.ntmps567
  go_wp2_with fail
  refine wp_loop_rounds 1 ?_
  rw [rounds_succ]
  go_wp2_with (go_at_call 597; refine (insert_nil _ _).mono ?_; rintro e w' ⟨rfl, rfl⟩)
  refine bodyPost_ret (results_none rfl _ _ _) rfl ?_
  exact ⟨rfl, rfl⟩
theorem sort_nil (w : World) (f : Value) : Calls Tryz.prog 462 #[.slice none 0 0, f] w fun e w' => e = .returned (.tuple #[]) ∧ w = w' := by
  go_enter Tryz.func462, Tryz.ntmps462
  go_wp2_with fail
  refine (Tryz.bits_Len _ _ (by decide) (by decide)).mono ?_; rintro e w' ⟨rfl, rfl⟩
  go_wp2_with fail
  refine (pdq_nil _ _ _).mono ?_; rintro e w' ⟨rfl, rfl⟩
  go_wp2_with fail
  go_end0
  exact ⟨rfl, rfl⟩
theorem info168 : (Tryz.prog.info? 168).map (fun i => (i.zero, i.size, i.bytes)) = some (some (.slice none 0 0), 1, 24) := by kernel_rfl
theorem run_index_ring (l : List Value) (k : Nat) (v : Value) (hl : l.length = 64) (hk : k < 64) (hv : l[k]? = some v) (w : World) : (Instr.index 169 (.agg l.toArray) (.int .i64 k)).run Tryz.prog w = .ok v w := by
  have h1 : (0 : Int) ≤ k ∧ (k : Int) < 64 := by omega
  obtain ⟨i, hi, hz0, hz1, hz2⟩ := info_parts info168
  simp [Instr.index, run_underlying Tryz.underlying169, asIntOf, h1, go_sem, sizeOf, typeInfo, hi, hz1, hk, hl]
  exact Option.some.inj (by rw [← List.getElem?_eq_getElem]; exact hv)
set_option maxRecDepth 100000 in
set_option maxHeartbeats 400000 in
theorem order_quiet (w : World) (b : Nat) (s : Wh) (f : Value) (h : w.heap[b]? = some (whO s)) (ok : WhOk s) (hq : Quiet s) :
    Calls Tryz.prog 315 #[.pointer (some ⟨b, 0, none⟩), f] w fun e w' => e = .returned (.slice none 0 0) ∧ w = w' := by
  have hr := wh_range h ok
  have HQ := Lib.hid hq
  clear h hq
  go_enter Tryz.func315, Tryz.ntmps315
  go_wp2_with fail
  go_step3
  go_wp2_with fail
  go_step3
  go_wp2_with (refine wpList_load_mid rfl 169 (.tmp 12) rfl b 1 rfl s.rings _ hr Tryz.underlying169 rfl (by rw [ok.rings]; kernel_rfl) ?_)
  clear hr
  go_loop [5, 14] (fun l i => ∃ k : Nat, l = .slice none 0 0 ∧ i = .int .i64 k ∧ k ≤ 64) (fun _ i => 64 - (intOf i).toNat)
  case atStart => exact ⟨0, rfl, rfl, by omega⟩
  case round =>
    obtain ⟨k, rfl, rfl, hk⟩ := hrel
    by_cases hlt : k < 64
    · obtain ⟨a, c, hv⟩ := HQ.out k hlt
      have hi := run_index_ring s.rings k _ ok.rings hlt hv w
      clear hv
      go_wp2_with fail
      go_round
      case rel => exact ⟨k + 1, rfl, by go_num, by omega⟩
      case measure => simp [intOf]; omega
    · go_wp2_with fail
      refine (sort_nil _ _).mono ?_; rintro e w' ⟨rfl, rfl⟩
      go_wp2_with fail
      try rw [Exit.noGoto_ret]
      go_ret
      exact ⟨rfl, rfl⟩
set_option maxRecDepth 100000 in
theorem wheel_due_quiet (w : World) (b : Nat) (s : Wh) (now : Int) (h : w.heap[b]? = some (whO s)) (ok : WhOk s) (hq : Quiet s) :
    Calls Tryz.prog 165 #[.pointer (some ⟨b, 0, none⟩), .int .i64 now] w fun e w' => e = .returned (.slice none 0 0) ∧ Below w.heap.size w w' := by
  have B := (Below.refl w.heap.size w).alloc (Nat.le_refl _) (.cells #[.int .i64 now] 2)
  have hb := below_has B h
  have HQ := Lib.hid hq
  have HB := Lib.hid B
  clear h hq B
  go_enter Tryz.func165, Tryz.ntmps165
  go_wp2_with (first | (go_at_call 314; refine (whis_c _ b s hb).mono ?_; rintro e w' ⟨rfl, rfl⟩) | (go_at_call 315; refine (order_quiet _ b s _ hb ok HQ.out).mono ?_; rintro e w' ⟨rfl, rfl⟩))
  refine wp_loop_rounds 1 ?_
  rw [rounds_succ]
  go_wp2_with fail
  go_ret
  exact ⟨rfl, HB.out⟩
end Go.Proofs.YtagmlijhgncklaaGreatDoor
