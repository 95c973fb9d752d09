/-
  Who waits, in its order: how two are compared, over the translation of this seat. Conditions: the blocks that are named hold what is said.
  Who waits, in its order: the comparison of two of a waiting list, over the translation of this seat. Conditions: the blocks that are named hold what is said.
  Who waits, in its order: the row is sorted, over the translation of this seat. Conditions: the blocks that are named hold what is said.
  Who waits, in its order: the walk of the sort, over the translation of this seat. Conditions: the blocks that are named hold what is said.
-/
import Derived.Test.YtagmlijhgncklaaGreatDoorW21
import Derived.Test.YtagmlijhgncklaaGreatDoorW23
import Derived.Maps.Range
set_option linter.unusedVariables false
namespace Go.Proofs.YtagmlijhgncklaaGreatDoor.Wt
open Go.RowKit Go.Proofs.YtagmlijhgncklaaGreatDoor

def cmpF (x y : Int) : Int := if x < y then -1 else if y < x then 1 else 0
def orF (x y : Int) : Int := if x = 0 then y else x
theorem nan3_c (w : World) (x : Int) : Calls Tryz.prog 608 #[.int .i64 x] w fun e w' => e = .returned (.bool false) ∧ w = w' := by
  go_enter Tryz.func608, Tryz.ntmps608
  go_wp2
  go_ret
  simp
theorem nan2_c (w : World) (x : Int) : Calls Tryz.prog 568 #[.int .i64 x] w fun e w' => e = .returned (.bool false) ∧ w = w' := by
  go_enter Tryz.func568, Tryz.ntmps568
  go_wp2
  go_ret
  simp
set_option maxRecDepth 100000 in
theorem compare3_c (w : World) (x y : Int) : Calls Tryz.prog 577 #[.int .i64 x, .int .i64 y] w fun e w' => e = .returned (.int .i64 (cmpF x y)) ∧ w = w' := by
  have N1 := nan3_c w x
  have N2 := nan3_c w y
  unfold cmpF
  by_cases h1 : x < y
  · rw [if_pos h1]
    go_enter Tryz.func577, Tryz.ntmps577
    go_wp2_with (first | (go_at_call 608; refine N1.mono ?_; rintro e w' ⟨rfl, rfl⟩) | (go_at_call 608; refine N2.mono ?_; rintro e w' ⟨rfl, rfl⟩))
    go_ret
    exact ⟨rfl, rfl⟩
  · rw [if_neg h1]
    by_cases h2 : y < x
    · rw [if_pos h2]
      go_enter Tryz.func577, Tryz.ntmps577
      go_wp2_with (first | (go_at_call 608; refine N1.mono ?_; rintro e w' ⟨rfl, rfl⟩) | (go_at_call 608; refine N2.mono ?_; rintro e w' ⟨rfl, rfl⟩))
      go_ret
      exact ⟨rfl, rfl⟩
    · rw [if_neg h2]
      obtain rfl : x = y := by omega
      go_enter Tryz.func577, Tryz.ntmps577
      go_wp2_with (first | (go_at_call 608; refine N1.mono ?_; rintro e w' ⟨rfl, rfl⟩))
      go_ret
      exact ⟨rfl, rfl⟩
set_option maxRecDepth 100000 in
theorem compare2_c (w : World) (x y : Int) : Calls Tryz.prog 465 #[.int .i64 x, .int .i64 y] w fun e w' => e = .returned (.int .i64 (cmpF x y)) ∧ w = w' := by
  have N1 := nan2_c w x
  have N2 := nan2_c w y
  unfold cmpF
  by_cases h1 : x < y
  · rw [if_pos h1]
    go_enter Tryz.func465, Tryz.ntmps465
    go_wp2_with (first | (go_at_call 568; refine N1.mono ?_; rintro e w' ⟨rfl, rfl⟩) | (go_at_call 568; refine N2.mono ?_; rintro e w' ⟨rfl, rfl⟩))
    go_ret
    exact ⟨rfl, rfl⟩
  · rw [if_neg h1]
    by_cases h2 : y < x
    · rw [if_pos h2]
      go_enter Tryz.func465, Tryz.ntmps465
      go_wp2_with (first | (go_at_call 568; refine N1.mono ?_; rintro e w' ⟨rfl, rfl⟩) | (go_at_call 568; refine N2.mono ?_; rintro e w' ⟨rfl, rfl⟩))
      go_ret
      exact ⟨rfl, rfl⟩
    · rw [if_neg h2]
      obtain rfl : x = y := by omega
      go_enter Tryz.func465, Tryz.ntmps465
      go_wp2_with (first | (go_at_call 568; refine N1.mono ?_; rintro e w' ⟨rfl, rfl⟩))
      go_ret
      exact ⟨rfl, rfl⟩
theorem or_c (w : World) (b : Nat) (x y : Int) (h : w.heap[b]? = some (.cells #[.int .i64 x, .int .i64 y] 3 (0, 0))) : Calls Tryz.prog 464 #[.slice (some ⟨b, 0, none⟩) 2 2] w fun e w' => e = .returned (.int .i64 (orF x y)) ∧ Below w.heap.size w w' := by
  have c0 : w.cell? ⟨b, 0, none⟩ = some (.int .i64 x) := has_cell 0 h rfl
  have c1 : w.cell? ⟨b, 1, none⟩ = some (.int .i64 y) := has_cell 1 h rfl
  unfold orF
  clear h
  by_cases h1 : x = 0
  · rw [if_pos h1]
    subst h1
    by_cases h2 : y = 0
    · subst h2
      go_enter Tryz.func464, Tryz.ntmps464
      go_wp2_with fail
      refine wp_loop_rounds 3 ?_
      rw [rounds_succ]
      go_wp2_with fail
      rw [rounds_succ]
      go_wp2_with fail
      rw [rounds_succ]
      go_wp2_with fail
      go_ret
      exact ⟨rfl, Below.refl _ _⟩
    · go_enter Tryz.func464, Tryz.ntmps464
      go_wp2_with fail
      refine wp_loop_rounds 2 ?_
      rw [rounds_succ]
      go_wp2_with fail
      rw [rounds_succ]
      go_wp2_with fail
      go_ret
      exact ⟨rfl, Below.refl _ _⟩
  · rw [if_neg h1]
    go_enter Tryz.func464, Tryz.ntmps464
    go_wp2_with fail
    refine wp_loop_rounds 1 ?_
    rw [rounds_succ]
    go_wp2_with fail
    go_ret
    exact ⟨rfl, Below.refl _ _⟩
end Go.Proofs.YtagmlijhgncklaaGreatDoor.Wt
namespace Go.Proofs.YtagmlijhgncklaaGreatDoor.Wt
open Go.RowKit Go.Proofs.YtagmlijhgncklaaGreatDoor

/-- The order of waiting: by falling priorities, then by coming. -/
def ordF (p1 c1 p2 c2 : Int) : Int := orF (cmpF p2 p1) (cmpF c1 c2)
set_option maxRecDepth 100000 in
theorem order_c (w : World) (p1 c1 p2 c2 : Int) : Calls Tryz.prog 576 #[.agg #[.int .i64 p1, .int .i64 c1], .agg #[.int .i64 p2, .int .i64 c2]] w fun e w' => e = .returned (.int .i64 (ordF p1 c1 p2 c2)) ∧ Below w.heap.size w w' := by
  have xa := below_alloc_has (o := .cells #[.int .i64 p2, .int .i64 c2] 433) (heap_alloc_new w (.cells #[.int .i64 p1, .int .i64 c1] 433))
  have xb := heap_alloc_new (w.alloc (.cells #[.int .i64 p1, .int .i64 c1] 433)) (.cells #[.int .i64 p2, .int .i64 c2] 433)
  have B := ((Below.refl w.heap.size w).alloc (Nat.le_refl _) (.cells #[.int .i64 p1, .int .i64 c1] 433)).alloc (by simp) (.cells #[.int .i64 p2, .int .i64 c2] 433)
  go_enter Tryz.func576, Tryz.ntmps576
  go_upto_region 1 with fail
  refine world_wp (fun W => W.heap[w.heap.size]? = some (.cells #[.int .i64 p1, .int .i64 c1] 433 (0, 0)) ∧ W.heap[w.heap.size + 1]? = some (.cells #[.int .i64 p2, .int .i64 c2] 433 (0, 0)) ∧ Below w.heap.size w W) ⟨xa, by simpa using xb, B⟩ ?_
  clear xa xb B
  rintro W ⟨xa, xb, B⟩
  have HB := Lib.hid B
  have f0 : ∀ d os, (Go.Sort.grow (redrawn W d) os).cell? ⟨w.heap.size, 0, none⟩ = some (.int .i64 p1) := fun d os => cell_regrown (has_cell 0 xa rfl) d os
  have f1 : ∀ d os, (Go.Sort.grow (redrawn W d) os).cell? ⟨w.heap.size, 1, none⟩ = some (.int .i64 c1) := fun d os => cell_regrown (has_cell 1 xa rfl) d os
  have f2 : ∀ d os, (Go.Sort.grow (redrawn W d) os).cell? ⟨w.heap.size + 1, 0, none⟩ = some (.int .i64 p2) := fun d os => cell_regrown (has_cell 0 xb rfl) d os
  have f3 : ∀ d os, (Go.Sort.grow (redrawn W d) os).cell? ⟨w.heap.size + 1, 1, none⟩ = some (.int .i64 c2) := fun d os => cell_regrown (has_cell 1 xb rfl) d os
  have A1 : ∀ d os, Calls Tryz.prog 577 #[.int .i64 p2, .int .i64 p1] (Go.Sort.grow (redrawn W d) os) fun e w'' => e = .returned (.int .i64 (cmpF p2 p1)) ∧ ∃ p : Regrown, w'' = Go.Sort.grow (redrawn W p.d) p.os := fun d os => Calls.regrown_of ((compare3_c _ p2 p1).mono fun _ _ ⟨h1, h2⟩ => ⟨h1, h2 ▸ Below.refl _ _⟩)
  have A2 : ∀ d os, Calls Tryz.prog 465 #[.int .i64 c1, .int .i64 c2] (Go.Sort.grow (redrawn W d) os) fun e w'' => e = .returned (.int .i64 (cmpF c1 c2)) ∧ ∃ p : Regrown, w'' = Go.Sort.grow (redrawn W p.d) p.os := fun d os => Calls.regrown_of ((compare2_c _ c1 c2).mono fun _ _ ⟨h1, h2⟩ => ⟨h1, h2 ▸ Below.refl _ _⟩)
  have H1 := Lib.hid A1
  have H2 := Lib.hid A2
  clear A1 A2 B xa xb
  refine quiet_tail_below 10 (by kernel_rfl) (by kernel_rfl) ?_
  simp only [List.take_succ_cons, List.take_zero, List.drop_succ_cons, List.drop_zero]
  repeat (quiet_step (first | exact H1.out _ _ | exact H2.out _ _))
  refine wpQuiet_nil ?_
  rintro _ ⟨⟨dq, osq⟩, rfl⟩
  have b2 := below_regrown W dq osq
  obtain ⟨W2, hW2⟩ : ∃ W2, W2 = Go.Sort.grow (redrawn W dq) osq := ⟨_, rfl⟩
  rw [← hW2] at b2 ⊢
  have HB2 := Lib.hid b2
  clear b2 hW2 f0 f1 f2 f3
  go_wp2_with (go_at_call 464; refine (or_c _ _ _ _ (heap_alloc_new W2 _)).mono ?_; rintro e w3 ⟨rfl, b3⟩; have HB3 := Lib.hid b3; clear b3)
  refine bodyPost_ret (v := .int .i64 (ordF p1 c1 p2 c2)) (results_tmp (show Tryz.f576.results = #[.tmp 4] from rfl) _ _ _) rfl ?_
  refine ⟨rfl, ?_⟩
  have s1 := HB.out.size
  have s2 := HB2.out.size
  exact HB.out.trans ((HB2.out.mono s1).trans (((Below.refl _ W2).alloc (Nat.le_refl _) _).trans (HB3.out.mono (by simp)) |>.mono (Nat.le_trans s1 s2)))
/-- A waiting list: thread, priority, when it came. -/
abbrev Es := List (Nat × Int × Int)
def weL (E : Es) : List (Int × Value) := E.map fun x => ((x.1 : Int), .agg #[.int .i64 x.2.1, .int .i64 x.2.2])
structure Wq (w : World) (q g : Nat) (last : Int) (E : Es) : Prop where
  q : w.heap[q]? = some (.cells #[.map (some g), .int .i64 last] 436 (0, 0))
  g : ∃ es c, w.heap[g]? = some (.map es c) ∧ es.toList.map (fun e => (e.key, e.val)) = (weL E).map (fun x => (Value.int .i64 x.1, x.2)) ∧ MapKept.Stamped es c
theorem Wq.kept {w w' : World} {q g : Nat} {last : Int} {E : Es} (h : Wq w q g last E) (k1 : w'.heap[q]? = w.heap[q]?) (k2 : w'.heap[g]? = w.heap[g]?) : Wq w' q g last E := by
  obtain ⟨es, c, h1, h2⟩ := h.g
  exact ⟨k1.trans h.q, es, c, k2.trans h1, h2⟩
theorem Wq.lt {w : World} {q g : Nat} {last : Int} {E : Es} (h : Wq w q g last E) : q < w.heap.size ∧ g < w.heap.size := by
  obtain ⟨es, c, h1, h2⟩ := h.g
  exact ⟨has_lt h.q, has_lt h1⟩
theorem Wq.reads {w w' : World} {q g : Nat} {last : Int} {E : Es} (h : Wq w q g last E) (b : Below w.heap.size w w') : Wq w' q g last E :=
  h.kept (b.block q h.lt.1) (b.block g h.lt.2)
theorem Wq.cell {w : World} {q g : Nat} {last : Int} {E : Es} (h : Wq w q g last E) : w.cell? ⟨q, 0, none⟩ = some (.map (some g)) := has_cell 0 h.q rfl
theorem we_find {E : Es} (hn : (E.map (·.1)).Nodup) {x : Nat × Int × Int} (hx : x ∈ E) : ((weL E).find? fun y => y.1 == (x.1 : Int)) = some ((x.1 : Int), .agg #[.int .i64 x.2.1, .int .i64 x.2.2]) := by
  induction E with
  | nil => cases hx
  | cons y E ih =>
    rw [weL, List.map_cons, List.find?_cons]
    rcases List.mem_cons.1 hx with rfl | h
    · simp
    · have hne : y.1 ≠ x.1 := fun e => (List.nodup_cons.1 hn).1 (List.mem_map.2 ⟨x, h, e.symm⟩)
      have : ((y.1 : Int) == (x.1 : Int)) = false := by simp; omega
      simp only [this]
      exact ih (List.nodup_cons.1 hn).2 h
theorem we_any {E : Es} {t : Nat} (h : ∀ x ∈ E, x.1 ≠ t) : ((weL E).any fun y => y.1 == (t : Int)) = false := by
  rw [List.any_eq_false]
  intro y hy
  obtain ⟨x, hx, rfl⟩ := List.mem_map.1 hy
  have := h x hx
  simp
  omega
theorem Wq.look {w : World} {q g : Nat} {last : Int} {E : Es} (h : Wq w q g last E) (hn : (E.map (·.1)).Nodup) {x : Nat × Int × Int} (hx : x ∈ E) : (Instr.lookup 434 (.map (some g)) (.int .i64 x.1) false).run Tryz.prog w = .ok (.agg #[.int .i64 x.2.1, .int .i64 x.2.2]) w := by
  obtain ⟨es, c, h1, h2, _⟩ := h.g
  have hm : Tryz.prog.underlying 434 = some (.map 3 433) := Tryz.underlying434
  have hk : Tryz.prog.underlying 3 = some (.int .i64) := Tryz.underlying3
  obtain ⟨j, hj⟩ := find_some (x.1 : Int) _ es.toList (weL E) 0 h2 (we_find hn hx)
  have hc : (Instr.checkKey es.isEmpty 10000 3 (.int .i64 x.1)).run Tryz.prog w = .ok () w := MapKept.run_checkKey (k := .int .i64 x.1) hk (by simp [MapKept.IsKey]) _ 9999
  simp [Instr.lookup, run_underlying hm, MapKept.run_getObj_map h1, hc, MapKept.run_findKey hk hj, Result.andThen]
theorem Wq.look2 {w : World} {q g : Nat} {last : Int} {E : Es} (h : Wq w q g last E) (hn : (E.map (·.1)).Nodup) {x : Nat × Int × Int} (hx : x ∈ E) : (Instr.lookup 434 (.map (some g)) (.int .i64 x.1) true).run Tryz.prog w = .ok (.tuple #[.agg #[.int .i64 x.2.1, .int .i64 x.2.2], .bool true]) w := by
  obtain ⟨es, c, h1, h2, _⟩ := h.g
  have hm : Tryz.prog.underlying 434 = some (.map 3 433) := Tryz.underlying434
  have hk : Tryz.prog.underlying 3 = some (.int .i64) := Tryz.underlying3
  obtain ⟨j, hj⟩ := find_some (x.1 : Int) _ es.toList (weL E) 0 h2 (we_find hn hx)
  have hc : (Instr.checkKey es.isEmpty 10000 3 (.int .i64 x.1)).run Tryz.prog w = .ok () w := MapKept.run_checkKey (k := .int .i64 x.1) hk (by simp [MapKept.IsKey]) _ 9999
  simp [Instr.lookup, run_underlying hm, MapKept.run_getObj_map h1, hc, MapKept.run_findKey hk hj, Result.andThen]
theorem Wq.lookNone {w : World} {q g : Nat} {last : Int} {E : Es} (h : Wq w q g last E) {t : Nat} (ht : ∀ x ∈ E, x.1 ≠ t) : (Instr.lookup 434 (.map (some g)) (.int .i64 t) true).run Tryz.prog w = .ok (.tuple #[.agg #[.int .i64 0, .int .i64 0], .bool false]) w := by
  obtain ⟨es, c, h1, h2, _⟩ := h.g
  have hm : Tryz.prog.underlying 434 = some (.map 3 433) := Tryz.underlying434
  have hk : Tryz.prog.underlying 3 = some (.int .i64) := Tryz.underlying3
  have hj := find_none (t : Int) es.toList (weL E) 0 h2 (we_any ht)
  have hc : (Instr.checkKey es.isEmpty 10000 3 (.int .i64 t)).run Tryz.prog w = .ok () w := MapKept.run_checkKey (k := .int .i64 t) hk (by simp [MapKept.IsKey]) _ 9999
  have hz : (zeroValue 433).run Tryz.prog w = .ok (.agg #[.int .i64 0, .int .i64 0]) w := by kernel_rfl
  simp [Instr.lookup, run_underlying hm, MapKept.run_getObj_map h1, hc, MapKept.run_findKey hk hj, hz, Result.andThen]
set_option maxRecDepth 100000 in
theorem less_c (w : World) (q g a b : Nat) (last : Int) (E : Es) (h : Wq w q g last E) (hn : (E.map (·.1)).Nodup) (ha : w.heap[a]? = some (.cells #[.func (.func 576) #[] #[]] 622 (0, 0))) (hb : w.heap[b]? = some (.cells #[.pointer (some ⟨q, 0, none⟩)] 377 (0, 0))) {x y : Nat × Int × Int} (hx : x ∈ E) (hy : y ∈ E) :
    Calls Tryz.prog 607 #[.int .i64 x.1, .int .i64 y.1, .pointer (some ⟨a, 0, none⟩), .pointer (some ⟨b, 0, none⟩)] w fun e w' => e = .returned (.int .i64 (ordF x.2.1 x.2.2 y.2.1 y.2.2)) ∧ Below w.heap.size w w' := by
  have K : ∀ d os, Wq (Go.Sort.grow (redrawn w d) os) q g last E := fun d os => h.reads (below_regrown w d os)
  have f0 : ∀ d os, (Go.Sort.grow (redrawn w d) os).cell? ⟨a, 0, none⟩ = some (.func (.func 576) #[] #[]) := fun d os => cell_regrown (has_cell 0 ha rfl) d os
  have f1 : ∀ d os, (Go.Sort.grow (redrawn w d) os).cell? ⟨b, 0, none⟩ = some (.pointer (some ⟨q, 0, none⟩)) := fun d os => cell_regrown (has_cell 0 hb rfl) d os
  have f2 : ∀ d os, (Go.Sort.grow (redrawn w d) os).cell? ⟨q, 0, none⟩ = some (.map (some g)) := fun d os => (K d os).cell
  have l1 : ∀ d os, (Instr.lookup 434 (.map (some g)) (.int .i64 x.1) false).run Tryz.prog (Go.Sort.grow (redrawn w d) os) = .ok (.agg #[.int .i64 x.2.1, .int .i64 x.2.2]) (Go.Sort.grow (redrawn w d) os) := fun d os => (K d os).look hn hx
  have l2 : ∀ d os, (Instr.lookup 434 (.map (some g)) (.int .i64 y.1) false).run Tryz.prog (Go.Sort.grow (redrawn w d) os) = .ok (.agg #[.int .i64 y.2.1, .int .i64 y.2.2]) (Go.Sort.grow (redrawn w d) os) := fun d os => (K d os).look hn hy
  clear K h hn hx hy ha hb
  go_enter Tryz.func607, Tryz.ntmps607
  go_upto_region 1 with fail
  refine quiet_tail_below 13 (by kernel_rfl) (by kernel_rfl) ?_
  simp only [List.take_succ_cons, List.take_zero, List.drop_succ_cons, List.drop_zero]
  repeat (quiet_step (fail))
  refine wpQuiet_nil ?_
  rintro _ ⟨⟨dq, osq⟩, rfl⟩
  have b2 := below_regrown w dq osq
  obtain ⟨W2, hW2⟩ : ∃ W2, W2 = Go.Sort.grow (redrawn w dq) osq := ⟨_, rfl⟩
  rw [← hW2] at b2 ⊢
  have HB2 := Lib.hid b2
  clear b2 hW2 f0 f1 f2 l1 l2
  go_wp2_with (go_at_call 576; refine (order_c _ _ _ _ _).mono ?_; rintro e w3 ⟨rfl, b3⟩; have HB3 := Lib.hid b3; clear b3)
  go_ret
  exact ⟨rfl, HB2.out.trans (HB3.out.mono HB2.out.size)⟩
end Go.Proofs.YtagmlijhgncklaaGreatDoor.Wt
namespace Go.Proofs.YtagmlijhgncklaaGreatDoor.Wt
open Go.RowKit Go.Proofs.YtagmlijhgncklaaGreatDoor

abbrev En := Nat × Int × Int
/-- Ahead of another one. -/
def Lt (x y : En) : Prop := y.2.1 < x.2.1 ∨ (x.2.1 = y.2.1 ∧ x.2.2 < y.2.2)
theorem ord_lt (x y : En) : ordF x.2.1 x.2.2 y.2.1 y.2.2 < 0 ↔ Lt x y := by
  unfold ordF orF cmpF Lt
  split <;> (try split) <;> (try split) <;> (try split) <;> simp_all <;> omega
theorem Lt.trans {x y z : En} (h : Lt x y) (k : Lt y z) : Lt x z := by unfold Lt at *; omega
theorem Lt.irrefl {x : En} (h : Lt x x) : False := by unfold Lt at h; omega
/-- A row of numbers: whose threads they are. -/
structure Rw (w : World) (rb : Nat) (M : List En) : Prop where
  b : ∃ cur, w.heap[rb]? = some (.cells cur 3 (0, 0)) ∧ ∀ (i : Nat) (x : En), M[i]? = some x → cur[i]? = some (.int .i64 x.1)
theorem Rw.cell {w : World} {rb : Nat} {M : List En} (h : Rw w rb M) (i : Nat) (x : En) (hx : M[i]? = some x) : w.cell? ⟨rb, i, none⟩ = some (.int .i64 x.1) := by
  obtain ⟨cur, h1, h2⟩ := h.b
  exact has_cell i h1 (h2 i x hx)
theorem Rw.reads {w w' : World} {rb : Nat} {M : List En} (h : Rw w rb M) (k : Below w.heap.size w w') : Rw w' rb M := by
  obtain ⟨cur, h1, h2⟩ := h.b
  exact ⟨cur, below_has k h1, h2⟩
theorem Rw.lt {w : World} {rb : Nat} {M : List En} (h : Rw w rb M) : rb < w.heap.size := by
  obtain ⟨cur, h1, h2⟩ := h.b
  exact has_lt h1
theorem Rw.free {w : World} {rb : Nat} {M : List En} (h : Rw w rb M) (i : Nat) : w.frozen? ⟨rb, i, none⟩ = false := by
  obtain ⟨cur, h1, h2⟩ := h.b
  exact has_free h1 i
/-- Two neighbours change their places. -/
theorem Rw.swap {w : World} {rb : Nat} {P S : List En} {x y : En} (h : Rw w rb (P ++ y :: x :: S)) : ∃ o, Rw ((w.setCell ⟨rb, P.length + 1, none⟩ (.int .i64 y.1)).setCell ⟨rb, P.length, none⟩ (.int .i64 x.1)) rb (P ++ x :: y :: S) ∧ Upd w rb o ((w.setCell ⟨rb, P.length + 1, none⟩ (.int .i64 y.1)).setCell ⟨rb, P.length, none⟩ (.int .i64 x.1)) := by
  obtain ⟨cur, h1, h2⟩ := h.b
  have U := ((Upd.refl h1).setCell (P.length + 1) (.int .i64 y.1)).setCell P.length (.int .i64 x.1)
  refine ⟨_, ⟨_, U.1, fun i z hz => ?_⟩, U⟩
  have hsz : P.length + 1 < cur.size := by
    have := h2 (P.length + 1) x (by simp)
    exact (Array.getElem?_eq_some_iff.1 this).1
  rw [Array.getElem?_setIfInBounds, Array.getElem?_setIfInBounds, Array.size_setIfInBounds]
  by_cases e1 : P.length = i
  · subst e1
    rw [if_pos rfl, if_pos (by omega)]
    simp at hz
    rw [hz]
  · rw [if_neg e1]
    by_cases e2 : P.length + 1 = i
    · subst e2
      rw [if_pos rfl, if_pos hsz]
      simp at hz
      rw [hz]
    · rw [if_neg e2]
      refine h2 i z ?_
      rw [List.getElem?_append] at hz ⊢
      split
      · rename_i hlt
        rwa [if_pos hlt] at hz
      · rename_i hlt
        rw [if_neg hlt] at hz
        obtain ⟨k, hk⟩ : ∃ k, i - P.length = k + 2 := ⟨i - P.length - 2, by omega⟩
        rw [hk] at hz ⊢
        simpa using hz
/-- What a comparison asks of the world. -/
structure Cmp (w : World) (q g a b : Nat) (last : Int) (E : Es) : Prop where
  h : Wq w q g last E
  a : w.heap[a]? = some (.cells #[.func (.func 576) #[] #[]] 622 (0, 0))
  b : w.heap[b]? = some (.cells #[.pointer (some ⟨q, 0, none⟩)] 377 (0, 0))
theorem Cmp.upd {w w' : World} {q g a b rb : Nat} {last : Int} {E : Es} {o : Obj} (h : Cmp w q g a b last E) (U : Upd w rb o w') (n1 : q ≠ rb) (n2 : g ≠ rb) (n3 : a ≠ rb) (n4 : b ≠ rb) : Cmp w' q g a b last E :=
  ⟨h.h.kept (U.2.block q h.h.lt.1 (by simpa using n1)) (U.2.block g h.h.lt.2 (by simpa using n2)), U.other h.a n3, U.other h.b n4⟩
theorem Cmp.reads {w w' : World} {q g a b : Nat} {last : Int} {E : Es} (h : Cmp w q g a b last E) (k : Below w.heap.size w w') : Cmp w' q g a b last E :=
  ⟨h.h.reads k, below_has k h.a, below_has k h.b⟩
/-- Sorted so far. -/
def Srt : List En → Prop
  | [] => True
  | x :: l => (∀ y ∈ l, Lt x y) ∧ Srt l
theorem srt_append {l m : List En} : Srt (l ++ m) ↔ Srt l ∧ Srt m ∧ ∀ x ∈ l, ∀ y ∈ m, Lt x y := by
  induction l with
  | nil => simp [Srt]
  | cons x l ih =>
    simp only [List.cons_append, Srt, ih, List.mem_append, List.mem_cons]
    constructor
    · rintro ⟨h1, h2, h3, h4⟩
      refine ⟨⟨fun y hy => h1 y (.inl hy), h2⟩, h3, ?_⟩
      rintro z (rfl | hz) y hy
      · exact h1 y (.inr hy)
      · exact h4 z hz y hy
    · rintro ⟨⟨h1, h2⟩, h3, h4⟩
      refine ⟨?_, h2, h3, fun z hz y hy => h4 z (.inr hz) y hy⟩
      rintro y (hy | hy)
      · exact h1 y hy
      · exact h4 x (.inl rfl) y hy
/-- While an element goes to its place: those ahead, the element, those behind it that are greater, the rest. -/
structure Going (w0 w : World) (q g a b rb : Nat) (last : Int) (E : Es) (P : List En) (x : En) (S T : List En) : Prop where
  cmp : Cmp w q g a b last E
  row : Rw w rb (P ++ x :: (S ++ T))
  srt : Srt (P ++ S)
  gt : ∀ s ∈ S, Lt x s
  perm : (P ++ x :: (S ++ T)).Perm E
  frame : w0.grownBy w (some rb)
theorem grown_reads {w0 w w' : World} {r : Option Nat} (h : w0.grownBy w r) (k : Below w.heap.size w w') : w0.grownBy w' r :=
  ⟨k.os.trans h.os, k.tape.trans h.tape, k.output.trans h.output, Nat.le_trans h.size k.size, fun i hi hne => (k.block i (Nat.lt_of_lt_of_le hi h.size)).trans (h.block i hi hne)⟩
theorem grown_upd {w0 w w' : World} {b : Nat} {o : Obj} (h : w0.grownBy w (some b)) (U : Upd w b o w') : w0.grownBy w' (some b) :=
  ⟨U.2.os.trans h.os, U.2.tape.trans h.tape, U.2.output.trans h.output, Nat.le_trans h.size U.2.size, fun i hi hne => (U.2.block i (Nat.lt_of_lt_of_le hi h.size) hne).trans (h.block i hi hne)⟩
theorem Going.reads {w0 w w' : World} {q g a b rb : Nat} {last : Int} {E : Es} {P S T : List En} {x : En} (h : Going w0 w q g a b rb last E P x S T) (k : Below w.heap.size w w') : Going w0 w' q g a b rb last E P x S T :=
  ⟨h.cmp.reads k, h.row.reads k, h.srt, h.gt, h.perm, grown_reads h.frame k⟩
/-- One place further to the front. -/
theorem Going.step {w0 w : World} {q g a b rb : Nat} {last : Int} {E : Es} {P S T : List En} {x y : En} (h : Going w0 w q g a b rb last E (P ++ [y]) x S T) (n1 : q ≠ rb) (n2 : g ≠ rb) (n3 : a ≠ rb) (n4 : b ≠ rb) (hlt : Lt x y) :
    Going w0 ((w.setCell ⟨rb, P.length + 1, none⟩ (.int .i64 y.1)).setCell ⟨rb, P.length, none⟩ (.int .i64 x.1)) q g a b rb last E P x (y :: S) T := by
  have hr : Rw w rb (P ++ y :: x :: (S ++ T)) := by
    have := h.row
    rwa [List.append_assoc] at this
  obtain ⟨o, r, U⟩ := hr.swap
  refine ⟨h.cmp.upd U n1 n2 n3 n4, r, ?_, ?_, ?_, grown_upd h.frame U⟩
  · have := h.srt
    rwa [List.append_assoc] at this
  · intro s hs
    rcases List.mem_cons.1 hs with rfl | hs
    · exact hlt
    · exact h.gt s hs
  · refine List.Perm.trans ?_ h.perm
    rw [List.append_assoc]
    exact List.Perm.append_left P (List.Perm.swap y x (S ++ T))
/-- It has found its place. -/
theorem Going.done {w0 w : World} {q g a b rb : Nat} {last : Int} {E : Es} {P S T : List En} {x : En} (h : Going w0 w q g a b rb last E P x S T) (hp : ∀ y, P.getLast? = some y → Lt y x) : Srt (P ++ x :: S) := by
  have s := srt_append.1 h.srt
  refine srt_append.2 ⟨s.1, ⟨h.gt, s.2.1⟩, fun z hz y hy => ?_⟩
  have zx : Lt z x := by
    obtain ⟨P', l, rfl⟩ : ∃ P' l, P = P' ++ [l] := ⟨P.dropLast, P.getLast (fun e => by rw [e] at hz; cases hz), (List.dropLast_concat_getLast _).symm⟩
    have lx := hp l (by simp)
    rcases List.mem_append.1 hz with hz | hz
    · exact ((srt_append.1 s.1).2.2 z hz l (by simp)).trans lx
    · obtain rfl : z = l := by simpa using hz
      exact lx
  rcases List.mem_cons.1 hy with rfl | hy
  · exact zx
  · exact s.2.2 z hz y hy
end Go.Proofs.YtagmlijhgncklaaGreatDoor.Wt
namespace Go.Proofs.YtagmlijhgncklaaGreatDoor.Wt
open Go.RowKit Go.Proofs.YtagmlijhgncklaaGreatDoor

/-- The first elements are sorted. -/
structure Part (w0 w : World) (q g a b rb : Nat) (last : Int) (E : Es) (M : List En) (i : Nat) : Prop where
  cmp : Cmp w q g a b last E
  row : Rw w rb M
  srt : Srt (M.take i)
  perm : M.Perm E
  frame : w0.grownBy w (some rb)
theorem Part.going {w0 w : World} {q g a b rb : Nat} {last : Int} {E : Es} {M : List En} {i : Nat} (h : Part w0 w q g a b rb last E M i) (hi : i < M.length) : ∃ x T, M = M.take i ++ x :: ([] ++ T) ∧ Going w0 w q g a b rb last E (M.take i) x [] T := by
  have e : M = M.take i ++ M[i] :: ([] ++ M.drop (i + 1)) := by simp
  refine ⟨M[i], M.drop (i + 1), e, h.cmp, ?_, by rw [List.append_nil]; exact h.srt, fun s hs => (by cases hs), ?_, h.frame⟩
  · rw [← e]; exact h.row
  · rw [← e]; exact h.perm
theorem Going.part {w0 w : World} {q g a b rb : Nat} {last : Int} {E : Es} {P S T : List En} {x : En} {i : Nat} (h : Going w0 w q g a b rb last E P x S T) (hp : ∀ y, P.getLast? = some y → Lt y x) (hps : P.length + S.length = i) : Part w0 w q g a b rb last E (P ++ x :: (S ++ T)) (i + 1) := by
  refine ⟨h.cmp, h.row, ?_, h.perm, h.frame⟩
  have e : (P ++ x :: (S ++ T)).take (i + 1) = P ++ x :: S := by
    rw [show P ++ x :: (S ++ T) = (P ++ x :: S) ++ T by simp, List.take_left' (by simp; omega)]
  rw [e]
  exact h.done hp
theorem Going.cells {w0 w : World} {q g a b rb : Nat} {last : Int} {E : Es} {P S T : List En} {x y : En} (h : Going w0 w q g a b rb last E (P ++ [y]) x S T) {k j : Nat} (hk : k = P.length) (hj : j = k + (0 + 1)) : w.cell? ⟨rb, j, none⟩ = some (.int .i64 x.1) ∧ w.cell? ⟨rb, k, none⟩ = some (.int .i64 y.1) := by
  subst hk
  subst hj
  exact ⟨h.row.cell _ _ (by simp), h.row.cell _ _ (by simp)⟩
theorem Going.other {w0 w : World} {q g a b rb : Nat} {last : Int} {E : Es} {P S T : List En} {x y : En} (h : Going w0 w q g a b rb last E (P ++ [y]) x S T) (hn : (E.map (·.1)).Nodup) (hl : ∀ x y : En, x ∈ E → y ∈ E → ¬ Lt x y → ¬ Lt y x → x = y) (hxy : ¬ Lt x y) : Lt y x := by
  by_cases k : Lt y x
  · exact k
  · have e := hl x y (h.perm.subset (by simp)) (h.perm.subset (by simp)) hxy k
    have nd := ((h.perm.map (·.1)).nodup_iff).2 hn
    rw [List.map_append, List.map_append] at nd
    exact absurd (by rw [e]) ((List.nodup_append.1 nd).2.2 y.1 (by simp) x.1 (by simp))
theorem Going.stepped {w0 w : World} {q g a b rb k j : Nat} {last : Int} {E : Es} {P S T : List En} {x y : En} (h : Going w0 w q g a b rb last E (P ++ [y]) x S T) (hk : k = P.length) (hj : j = k + (0 + 1)) (n : q ≠ rb ∧ g ≠ rb ∧ a ≠ rb ∧ b ≠ rb) (hlt : Lt x y) :
    Going w0 ((w.setCell ⟨rb, j, none⟩ (.int .i64 y.1)).setCell ⟨rb, k, none⟩ (.int .i64 x.1)) q g a b rb last E P x (y :: S) T := by
  subst hk
  subst hj
  exact h.step n.1 n.2.1 n.2.2.1 n.2.2.2 hlt
theorem Rw.after {w : World} {rb : Nat} {M : List En} (h : Rw w rb M) (j : Nat) (v : Value) {k : Nat} {y : Value} (hk : w.cell? ⟨rb, k, none⟩ = some y) (hjk : j ≠ k) : (w.setCell ⟨rb, j, none⟩ v).cell? ⟨rb, k, none⟩ = some y ∧ (∀ i, (w.setCell ⟨rb, j, none⟩ v).frozen? ⟨rb, i, none⟩ = false) := by
  obtain ⟨cur, h1, _⟩ := h.b
  have h2 := heap_setCell_self (i := j) h1 v
  refine ⟨has_cell k h2 ?_, fun i => has_free h2 i⟩
  have : cur[k]? = some y := by
    have q := hk
    simp only [World.cell?, h1] at q
    exact q
  rw [Array.getElem?_setIfInBounds, if_neg hjk]
  exact this
set_option maxHeartbeats 2000000 in
set_option maxRecDepth 100000 in
theorem insert_c (w : World) (q g a b rb cap : Nat) (last : Int) (E : Es) (M : List En) (hn : (E.map (·.1)).Nodup) (hM : M.length ≤ 16) (h0 : 1 ≤ M.length) (H : Part w w q g a b rb last E M 1) (n1 : q ≠ rb) (n2 : g ≠ rb) (n3 : a ≠ rb) (n4 : b ≠ rb) (hl : ∀ x y : En, x ∈ E → y ∈ E → ¬ Lt x y → ¬ Lt y x → x = y) :
    Calls Tryz.prog 629 #[.slice (some ⟨rb, 0, none⟩) M.length cap, .int .i64 0, .int .i64 M.length, .func (.func 607) #[] #[.pointer (some ⟨a, 0, none⟩), .pointer (some ⟨b, 0, none⟩)]] w fun e w' => e = .returned (.tuple #[]) ∧ ∃ M', Part w w' q g a b rb last E M' M.length ∧ M'.length = M.length := by
  obtain ⟨n, hn0⟩ : ∃ n, n = M.length := ⟨_, rfl⟩
  rw [← hn0] at hM h0 ⊢
  have HN := Lib.hid hn0
  have HND := Lib.hid hn
  have HL := Lib.hid hl
  have HH := Lib.hid H
  have HNE := Lib.hid (And.intro n1 (And.intro n2 (And.intro n3 n4)))
  clear hn0 hn hl H n1 n2 n3 n4
  go_enter Tryz.func629, Tryz.ntmps629
  go_wp2_with fail
  go_loopw [8] (fun u8 wr => ∃ (i : Nat) (M1 : List En), u8 = .int .i64 i ∧ 1 ≤ i ∧ i ≤ n ∧ M1.length = n ∧ Part w wr q g a b rb last E M1 i) (fun u8 _ => n - (intOf u8).toNat)
  case atStart => exact ⟨1, M, rfl, by omega, by omega, HN.out.symm, HH.out⟩
  case round =>
    obtain ⟨i, M1, rfl, hi1, hin, hm, hP⟩ := hrel
    have HI1 := Lib.hid hi1
    have HM1 := Lib.hid hm
    by_cases hlt : i < n
    · have HIN := Lib.hid hlt
      have i0 : (0 : Int) ≤ i := by omega
      have ij : (i : Int) < (n : Int) := by omega
      obtain ⟨x, T, e, G⟩ := hP.going (by rw [hm]; exact hlt)
      have HG := Lib.hid G
      have hpl : (M1.take i).length = i := by rw [List.length_take, hm]; omega
      have HPL := Lib.hid hpl
      clear hP e G hlt hin hi1 hm hpl
      go_wp2_with fail
      go_loopw [9] (fun u9 wi => ∃ (P S : List En), u9 = .int .i64 P.length ∧ P.length + S.length = i ∧ Going w wi q g a b rb last E P x S T) (fun u9 _ => (intOf u9).toNat)
      case atStart => exact ⟨M1.take i, [], by rw [HPL.out], by rw [HPL.out]; rfl, HG.out⟩
      case round =>
        clear HG
        obtain ⟨P, S, rfl, hps, hG⟩ := hrel
        rcases List.eq_nil_or_concat P with rfl | ⟨P', y, rfl⟩
        · have HG := Lib.hid hG
          have HPS := Lib.hid hps
          clear hG hps
          simp only [List.length_nil, Int.ofNat_zero]
          go_wp2_with fail
          go_region
          go_wp2_with fail
          go_roundw
          case rel => exact ⟨i + 1, _, by go_num, by omega, by have := HIN.out; omega, (HG.out.perm.length_eq).trans (HH.out.perm.length_eq.symm.trans HN.out.symm), (HG.out.reads (Below.refl _ wr).drew).part (fun y h => by cases h) HPS.out⟩
          case measure => have := HIN.out; simp [intOf]; omega
        · rw [List.concat_eq_append] at hG ⊢
          rw [List.concat_eq_append] at hps
          rw [List.length_append] at hps ⊢
          obtain ⟨k, hk⟩ : ∃ k, k = P'.length := ⟨_, rfl⟩
          have HK := Lib.hid hk
          simp only [List.length_cons, List.length_nil, ← hk] at hps ⊢
          have e1 : wr.cell? ⟨rb, k + 1, none⟩ = some (.int .i64 x.1) := by rw [hk]; exact hG.row.cell _ _ (by simp)
          have e0 : wr.cell? ⟨rb, k, none⟩ = some (.int .i64 y.1) := by rw [hk]; exact hG.row.cell _ _ (by simp)
          have LC := less_c wr.drew q g a b last E (hG.cmp.h.kept rfl rfl) HND.out hG.cmp.a hG.cmp.b (x := x) (y := y) (hG.perm.subset (by simp)) (hG.perm.subset (by simp))
          have HG := Lib.hid hG
          have k0 : (0 : Int) ≤ k := by omega
          have k1 : (k : Int) < n := by have := HIN.out; omega
          have k2 : (k : Int) + 1 < n := by have := HIN.out; omega
          have kn : (n : Int) ≤ 16 := by omega
          have HPS := Lib.hid hps
          obtain ⟨j, hj⟩ : ∃ j, j = k + (0 + 1) := ⟨_, rfl⟩
          rw [← hj]
          have hw : IntKind.i64.wrap ((j : Int) - 1) = (k : Int) := by rw [show (j : Int) - 1 = (k : Int) by omega]; exact IntWalk.i64_in _ (by omega)
          have j0 : (0 : Int) ≤ j := by omega
          have j1 : (j : Int) < n := by omega
          have j2 : 0 < j := by omega
          have HJ := Lib.hid hj
          rw [show k + 1 = j by omega] at e1
          clear hj
          clear hG hk hps
          by_cases hxy : Lt x y
          · have ho := (ord_lt x y).2 hxy
            have HXY := Lib.hid hxy
            clear hxy
            go_wp2_with fail
            go_region_held3 (fun W' => W'.cell? ⟨rb, j, none⟩ = some (.int .i64 x.1) ∧ W'.cell? ⟨rb, k, none⟩ = some (.int .i64 y.1)) (first | exact ⟨e1, e0⟩ | exact ⟨by assumption, by assumption⟩) (first
              | (go_at_call 607; refine LC.mono ?_; rintro e w2 ⟨rfl, b2⟩; have hG2 := HG.out.reads (below_undrew b2); obtain ⟨d1, d0⟩ := hG2.cells HK.out HJ.out; have HG2 := Lib.hid hG2; clear b2 hG2))

            go_wp2_with fail
            have fz := HG2.out.row.free
            obtain ⟨z0, z1⟩ := HG2.out.row.after j (.int .i64 y.1) d0 (by have := HJ.out; omega)
            go_region
            go_wp2_with fail
            go_roundw
            case rel => exact ⟨P', y :: S, by rw [← HK.out], by have := HPS.out; have := HK.out; simp; omega, (HG2.out.stepped HK.out HJ.out HNE.out HXY.out).reads (Below.refl _ _).drew⟩
            case measure => have := HJ.out; simp [intOf]; omega
          · have ho : ¬ ordF x.2.1 x.2.2 y.2.1 y.2.2 < 0 := fun h => hxy ((ord_lt x y).1 h)
            have HXY := Lib.hid hxy
            clear hxy
            go_wp2_with fail
            go_region_held3 (fun W' => W'.cell? ⟨rb, j, none⟩ = some (.int .i64 x.1) ∧ W'.cell? ⟨rb, k, none⟩ = some (.int .i64 y.1)) (first | exact ⟨e1, e0⟩ | exact ⟨by assumption, by assumption⟩) (first
              | (go_at_call 607; refine LC.mono ?_; rintro e w2 ⟨rfl, b2⟩; have hG2 := HG.out.reads (below_undrew b2); obtain ⟨d1, d0⟩ := hG2.cells HK.out HJ.out; have HG2 := Lib.hid hG2; clear b2 hG2))

            go_wp2_with fail
            go_roundw
            case rel => exact ⟨i + 1, _, by go_num, by omega, by have := HIN.out; omega, (HG2.out.perm.length_eq).trans (HH.out.perm.length_eq.symm.trans HN.out.symm), HG2.out.part (fun z h => by
              have e : z = y := by simpa using h.symm
              rw [e]
              exact HG2.out.other HND.out HL.out HXY.out) (by have := HPS.out; have := HK.out; simp; omega)⟩
            case measure => have := HIN.out; simp [intOf]; omega
    · obtain rfl : i = n := by omega
      have HP := Lib.hid hP
      clear hP hin hi1 hm hlt
      go_wp2_with fail
      exact bodyPost_end (results_none rfl _ _ _) rfl ⟨rfl, M1, HP.out, HM1.out⟩
end Go.Proofs.YtagmlijhgncklaaGreatDoor.Wt
