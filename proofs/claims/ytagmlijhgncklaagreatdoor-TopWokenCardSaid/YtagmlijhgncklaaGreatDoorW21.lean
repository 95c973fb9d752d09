/-
  A waiting list of which nobody is, and a mutex, over the translation of this seat. Conditions: the blocks that are named hold what is said.
-/
import Derived.Test.YtagmlijhgncklaaGreatDoorW20
import Derived.Test.YtagmlijhgncklaaGreatDoorW15
import Derived.Laws.IdiomRangeMap
set_option linter.unusedVariables false
namespace Go.Proofs.YtagmlijhgncklaaGreatDoor.Mx
open Go.RowKit Go.Proofs.YtagmlijhgncklaaGreatDoor

/-- A waiting list of nobody: its block, its map's. -/
structure Wq0 (w : World) (q g : Nat) : Prop where
  q : ∃ last : Int, w.heap[q]? = some (.cells #[.map (some g), .int .i64 last] 436 (0, 0))
  g : ∃ c : Nat, w.heap[g]? = some (.map #[] c)
theorem Wq0.reads {w w' : World} {q g : Nat} (h : Wq0 w q g) (b : Below w.heap.size w w') : Wq0 w' q g := by
  obtain ⟨l, h1⟩ := h.q
  obtain ⟨c, h2⟩ := h.g
  exact ⟨⟨l, below_has b h1⟩, ⟨c, below_has b h2⟩⟩
theorem Wq0.cell {w : World} {q g : Nat} (h : Wq0 w q g) : w.cell? ⟨q, 0, none⟩ = some (.map (some g)) := by
  obtain ⟨l, h1⟩ := h.q
  exact has_cell 0 h1 rfl
set_option maxRecDepth 100000 in
theorem there_c (w : World) (q g : Nat) (h : Wq0 w q g) : Calls Tryz.prog 473 #[.pointer (some ⟨q, 0, none⟩)] w fun e w' => e = .returned (.bool true) ∧ w = w' := by
  have c := h.cell
  have hm : ∀ W : World, (binOp .neq 434 (.map (some g)) (.map none)).run Tryz.prog W = .ok (.bool true) W := fun W => run_neq_map_nil (P := Tryz.prog) W 434 _ _ (some g) Tryz.underlying434
  clear h
  go_enter Tryz.func473, Tryz.ntmps473
  go_wp2_with fail
  refine bodyPost_ret (v := .bool true) (results_tmp (show Tryz.f473.results = #[.tmp 2] from rfl) _ _ _) rfl ?_
  exact ⟨rfl, rfl⟩
theorem lookup_none {w : World} {g : Nat} (h : ∃ c : Nat, w.heap[g]? = some (.map #[] c)) (k : Int) : (Instr.lookup 434 (.map (some g)) (.int .i64 k) true).run Tryz.prog w = .ok (.tuple #[.agg #[.int .i64 0, .int .i64 0], .bool false]) w := by
  obtain ⟨c, h⟩ := h
  have hm : Tryz.prog.underlying 434 = some (.map 3 433) := Tryz.underlying434
  have hk : Tryz.prog.underlying 3 = some (.int .i64) := Tryz.underlying3
  have hc : (Instr.checkKey true 10000 3 (.int .i64 k)).run Tryz.prog w = .ok () w := MapKept.run_checkKey (k := .int .i64 k) hk (by simp [MapKept.IsKey]) _ 9999
  have hz : (zeroValue 433).run Tryz.prog w = .ok (.agg #[.int .i64 0, .int .i64 0]) w := by kernel_rfl
  have hf := MapKept.run_findKey (P := Tryz.prog) (w := w) hk (find_none k [] [] 0 rfl rfl)
  simp [Instr.lookup, run_underlying hm, MapKept.run_getObj_map h, hc, hf, hz, Result.andThen]
theorem prio_c (w : World) (q g : Nat) (t : Int) (h : Wq0 w q g) : Calls Tryz.prog 475 #[.pointer (some ⟨q, 0, none⟩), .int .i64 t] w fun e w' => e = .returned (.tuple #[.int .i64 0, .bool false]) ∧ Below w.heap.size w w' := by
  have c := h.cell
  have hl := lookup_none h.g t
  have T := there_c w q g h
  clear h
  go_enter Tryz.func475, Tryz.ntmps475
  go_wp2_with (go_at_call 473; refine T.mono ?_; rintro e w' ⟨rfl, rfl⟩)
  go_ret2
  exact ⟨rfl, (Below.refl _ _).alloc (Nat.le_refl _) _⟩
theorem inserti_nil (w : World) (f : Value) : Calls Tryz.prog 629 #[.slice none 0 0, .int .i64 0, .int .i64 0, f] w fun e w' => e = .returned (.tuple #[]) ∧ w = w' := by
  go_enter Tryz.func629, Tryz.ntmps629
  go_wp2_with fail
  refine wp_loop_rounds 1 ?_
  rw [rounds_succ]
  go_wp2_with fail
  go_end0
  exact ⟨rfl, rfl⟩
set_option maxRecDepth 100000 in
theorem pdqi_nil (w : World) (f : Value) (l : Int) : Calls Tryz.prog 623 #[.slice none 0 0, .int .i64 0, .int .i64 0, .int .i64 l, f] w fun e w' => e = .returned (.tuple #[]) ∧ w = w' := by
  go_enter Tryz.func623, Tryz.ntmps623
  go_wp2_with fail
  refine wp_loop_rounds 1 ?_
  rw [rounds_succ]
  go_wp2_with (go_at_call 629; refine (inserti_nil _ _).mono ?_; rintro e w' ⟨rfl, rfl⟩)
  refine bodyPost_ret (results_none rfl _ _ _) rfl ?_
  exact ⟨rfl, rfl⟩
theorem sorti_nil (w : World) (f : Value) : Calls Tryz.prog 606 #[.slice none 0 0, f] w fun e w' => e = .returned (.tuple #[]) ∧ w = w' := by
  go_enter Tryz.func606, Tryz.ntmps606
  go_wp2_with fail
  refine (Tryz.bits_Len _ _ (by decide) (by decide)).mono ?_; rintro e w' ⟨rfl, rfl⟩
  go_wp2_with fail
  refine (pdqi_nil _ _ _).mono ?_; rintro e w' ⟨rfl, rfl⟩
  go_wp2_with fail
  go_end0
  exact ⟨rfl, rfl⟩
theorem range_none {w : World} {g : Nat} (h : ∃ c : Nat, w.heap[g]? = some (.map #[] c)) : ∃ c : Nat, (Instr.range 434 (.map (some g))).run Tryz.prog w = .ok (.pointer (some ⟨w.heap.size, 0, none⟩)) (w.alloc (.mapIter (some g) c #[] c)) ∧ (Instr.next (.pointer (some ⟨w.heap.size, 0, none⟩)) false 0).run Tryz.prog (w.alloc (.mapIter (some g) c #[] c)) = .ok (.tuple #[.bool false]) (w.alloc (.mapIter (some g) c #[] c)) := by
  obtain ⟨c, h⟩ := h
  refine ⟨c, run_range_map w 434 3 433 g #[] c Tryz.underlying434 h, ?_⟩
  rcases run_next_map (P := Tryz.prog) w 0 g c c #[] #[] c h (fun x hx => by simp at hx) (Nat.le_refl _) with ⟨_, hr⟩ | ⟨e, he, _⟩
  · exact hr
  · simp [leftOf] at he
set_option maxRecDepth 100000 in
theorem sorted_none (w : World) (q g : Nat) (h : Wq0 w q g) : Calls Tryz.prog 575 #[.pointer (some ⟨q, 0, none⟩), .func (.func 576) #[] #[]] w fun e w' => e = .returned (.slice none 0 0) ∧ Below w.heap.size w w' := by
  obtain ⟨w0, hw0⟩ : ∃ w0, w0 = (w.alloc (.cells #[.pointer (some ⟨q, 0, none⟩)] 377)).alloc (.cells #[.func (.func 576) #[] #[]] 622) := ⟨_, rfl⟩
  have b0 : Below w.heap.size w w0 := by rw [hw0]; exact ((Below.refl _ w).alloc (Nat.le_refl _) _).alloc (by simp) _
  have x0 : w0.cell? ⟨w.heap.size, 0, none⟩ = some (.pointer (some ⟨q, 0, none⟩)) := by rw [hw0]; exact has_cell 0 (below_alloc_has (heap_alloc_new w (.cells #[.pointer (some ⟨q, 0, none⟩)] 377))) rfl
  have h0 := h.reads b0
  have T := there_c w0 q g h0
  have c0 := h0.cell
  obtain ⟨c, hr, hn⟩ := range_none h0.g
  have HW := Lib.hid hw0
  have HB := Lib.hid b0
  clear h hw0 b0 h0
  go_enter Tryz.func575, Tryz.ntmps575
  go_upto_region 1 with fail
  rw [← HW.out]
  go_wp2_with (go_at_call 473; refine T.mono ?_; rintro e w' ⟨rfl, rfl⟩)
  refine wp_loop_rounds 1 ?_
  rw [rounds_succ]
  go_wp2_with (go_at_call 606; refine (sorti_nil _ _).mono ?_; rintro e w' ⟨rfl, rfl⟩)
  refine bodyPost_ret (v := .slice none 0 0) (results_tmp (show Tryz.f575.results = #[.tmp 4] from rfl) _ _ _) rfl ?_
  exact ⟨rfl, HB.out.alloc HB.out.size _⟩
theorem list_none (w : World) (q g : Nat) (h : Wq0 w q g) : Calls Tryz.prog 495 #[.pointer (some ⟨q, 0, none⟩)] w fun e w' => e = .returned (.slice none 0 0) ∧ Below w.heap.size w w' := by
  have S := sorted_none w q g h
  clear h
  go_enter Tryz.func495, Tryz.ntmps495
  go_wp2_with (go_at_call 575; refine S.mono ?_; rintro e w' ⟨rfl, b⟩; have HB := Lib.hid b; clear b)
  refine bodyPost_ret (v := .slice none 0 0) (results_tmp (show Tryz.f495.results = #[.tmp 2] from rfl) _ _ _) rfl ?_
  exact ⟨rfl, HB.out⟩
end Go.Proofs.YtagmlijhgncklaaGreatDoor.Mx
