/-
  Who waits first, of nobody, over the translation of this seat. Conditions: the blocks that are named hold what is said.
  A robust mutex for which nobody waits, over the translation of this seat. Conditions: the blocks that are named hold what is said.
  A robust mutex for which nobody waits is locked, given up, made well; its owner ends; over the translation of this seat. Conditions: the blocks that are named hold what is said.
-/
import Derived.Test.YtagmlijhgncklaaGreatDoorW21
import Derived.Test.YtagmlijhgncklaaGreatDoorW29
set_option linter.unusedVariables false
namespace Go.Proofs.YtagmlijhgncklaaGreatDoor.Mx
open Go.RowKit Go.Proofs.YtagmlijhgncklaaGreatDoor

attribute [local go_sem] Oper.semAt_some
attribute [local go_sem] Tab.wide_fn Tab.wide_round_fn

def encE (x : Empty) : Array Value := x.elim
theorem enters605 : ∀ args w, (callFunc 605 args).run Tryz.prog w = .ok (.enter 605 args) w := enters_of Tryz.func605 (by kernel_rfl) rfl
/-- The sequence of those who wait is empty. -/
theorem seq_none (n : Nat) (hn : 1 ≤ n) (q g Bn : Nat) (w : World) (h : Wq0 w q g) (hB : w.heap[Bn]? = some (.cells #[.pointer (some ⟨q, 0, none⟩)] 377 (0, 0))) :
    SeqStopsK Fence.wide n Tryz.prog 605 #[.pointer (some ⟨Bn, 0, none⟩)] encE (fun _ _ => True) (fun xs => xs = []) (fun _ => False) 0 w := by
  intro l J Jx W hW hJ hJx hY h0
  have hq := h.reads hW
  have hb := below_has hW hB
  have LN := list_none W q g hq
  refine callsIn_of_wp Tryz.func605 rfl trivial ?_ rfl
  simp only [Tryz.ntmps605, List.size_toArray, List.length_cons, List.length_nil, Nat.reduceAdd, Nat.reduceSub, Array.replicate_succ, Array.replicate_zero, List.push_toArray, List.append_toArray, List.nil_append, List.cons_append]
  have cb : W.cell? ⟨Bn, 0, none⟩ = some (.pointer (some ⟨q, 0, none⟩)) := has_cell 0 hb rfl
  have HJ := Lib.hid hJ
  have H0 := Lib.hid h0
  clear hq h0 hJ
  gi_wp2_with (gi_at_call 495; refine (callsIn_wide.2 LN).mono ?_; rintro e w' ⟨rfl, b⟩; have HB := Lib.hid b; clear b)
  gi_loopw [10] (fun i wr => i = .int .i64 0 ∧ J [] wr) (fun _ _ => 0)
  case atStart => exact ⟨rfl, by
    have b := HB.out
    exact HJ.out _ _ _ none H0.out ⟨b.os, b.tape, b.output, b.size, fun k hk _ => b.block k hk⟩ (fun r e => by cases e)⟩
  case round =>
    obtain ⟨rfl, hJj⟩ := hrel
    gi_wp2
    go_end0
    exact ⟨⟨_, rfl⟩, .inl ⟨[], rfl, hJj⟩⟩
theorem all_c (w : World) (a : Option Addr) : Calls Tryz.prog 570 #[.pointer a] w fun e w' => e = .returned (.func (.func 605) #[] #[.pointer (some ⟨w.heap.size, 0, none⟩)]) ∧ w'.heap[w.heap.size]? = some (.cells #[.pointer a] 377 (0, 0)) ∧ Below w.heap.size w w' := by
  go_enter Tryz.func570, Tryz.ntmps570
  go_wp2
  go_ret
  exact ⟨rfl, heap_alloc_new _ _, (Below.refl _ _).alloc (Nat.le_refl _) _⟩
structure FirstW (w W : World) : Prop where
  below : Below w.heap.size w W
  a : W.heap[w.heap.size]? = some (.cells #[.int .i64 0] 3 (0, 0))
  b : W.heap[w.heap.size + 1]? = some (.cells #[.bool false] 4 (0, 0))
set_option maxRecDepth 100000 in
theorem first_none (w : World) (q g : Nat) (h : Wq0 w q g) : Calls Tryz.prog 472 #[.pointer (some ⟨q, 0, none⟩)] w fun e w' => e = .returned (.tuple #[.int .i64 0, .bool false]) ∧ Below w.heap.size w w' := by
  obtain ⟨w0, hw0⟩ : ∃ w0, w0 = (w.alloc (.cells #[.int .i64 0] 3)).alloc (.cells #[.bool false] 4) := ⟨_, rfl⟩
  have F0 : FirstW w w0 := by
    rw [hw0]
    exact ⟨((Below.refl _ w).alloc (Nat.le_refl _) _).alloc (by simp) _, below_alloc_has (heap_alloc_new w _), by have q := heap_alloc_new (w.alloc (.cells #[.int .i64 0] 3)) (.cells #[.bool false] 4); rw [World.size_alloc] at q; exact q⟩
  have h0 := h.reads F0.below
  refine Tab.calls_of_marks 4 Tryz.func472 rfl ?_
  simp only [Tryz.ntmps472, List.size_toArray, List.length_cons, List.length_nil, Nat.reduceAdd, Nat.reduceSub, Array.replicate_succ, Array.replicate_zero, List.push_toArray, List.append_toArray, List.nil_append, List.cons_append]
  refine wpIn_wide.2 ?_
  go_wp2_with fail
  go_step3
  go_upto_region 2 with fail
  rw [← hw0]
  clear hw0
  have HF0 := Lib.hid F0
  have H0 := Lib.hid h0
  clear F0 h0 h
  go_step3
  go_wp2_with (go_at_call 570; refine (all_c _ _).mono ?_; rintro e w6 ⟨rfl, x6, b6⟩; have h6 := H0.out.reads b6; have F6 : FirstW w w6 := ⟨HF0.out.below.trans (b6.mono HF0.out.below.size), below_has b6 HF0.out.a, below_has b6 HF0.out.b⟩; clear b6)
  have s6 : w.heap.size + 1 < w6.heap.size := has_lt F6.b
  refine (wpIn_wide (n := 4)).1 ?_
  refine named ?_
  intro fa hfa
  refine wpIn_rangeFunc_ownF rfl (by decide) (gf := 605) (lb := #[.pointer (some ⟨w0.heap.size, 0, none⟩)]) (by rw [hfa]; rfl) trivial enters605
    (seq_none 3 (by decide) q g w0.heap.size w6 h6 x6) (fun _ _ => trivial) (fun _ _ _ _ _ _ _ _ => trivial) (Below.refl _ _) (fun x => x.elim)
    (fun (_ : List Empty) W => FirstW w W) (fun _ _ _ => False)
    (fun _ X Y row hs hg hr => ⟨ownFrom_below (β := Unit) (n₀ := w.heap.size) (B := w6.heap.size) (w₀ := w) (Nat.le_refl _) (by omega) () X Y row hs.below hg hr, Tab.own_has (β := Unit) (B := w6.heap.size) (by omega) (fun _ => _) () X Y row hs.a hg hr, Tab.own_has (β := Unit) (B := w6.heap.size) (by omega) (fun _ => _) () X Y row hs.b hg hr⟩) (fun _ => Tab.own_pure _) F6
    (fun x => x.elim)
    ?assign ?body ?done ?stop
  case assign =>
    intro l x
    exact x.elim
  case body =>
    intro l pre x
    exact x.elim
  case stop =>
    rintro D c pre W _ h _ _
    exact h.elim
  case done =>
    rintro D ys W hD rfl hS hK
    subst hfa
    have ca : W.cell? ⟨w.heap.size, 0, none⟩ = some (.int .i64 0) := has_cell 0 hS.a rfl
    have cb : W.cell? ⟨w.heap.size + 1, 0, none⟩ = some (.bool false) := has_cell 0 hS.b rfl
    have HS := Lib.hid hS
    have HM := Lib.hid hK
    clear hS hK
    go_wp2_with fail
    go_region
    go_wp2_with fail

    refine ⟨by simp, .inl ⟨_, _, rfl, run_takeDeferred HM.out, ?_⟩⟩
    refine ⟨.tuple #[.int .i64 0, .bool false], ?_, rfl, ?_⟩
    · simp [results, Tryz.f472, go_sem]
    · exact Tab.below_mark (W := W.drew) HS.out.below.drew (by omega) HM.out _
theorem take_none (w : World) (q g : Nat) (h : Wq0 w q g) : Calls Tryz.prog 319 #[.pointer (some ⟨q, 0, none⟩)] w fun e w' => e = .returned (.tuple #[.int .i64 0, .bool false]) ∧ Below w.heap.size w w' := by
  have F := first_none w q g h
  clear h
  go_enter Tryz.func319, Tryz.ntmps319
  go_wp2_with (go_at_call 472; refine F.mono ?_; rintro e w' ⟨rfl, b⟩; have HB := Lib.hid b; clear b)
  go_ret2
  exact ⟨rfl, HB.out⟩
end Go.Proofs.YtagmlijhgncklaaGreatDoor.Mx
namespace Go.Proofs.YtagmlijhgncklaaGreatDoor.Mx
open Go.RowKit Go.Proofs.YtagmlijhgncklaaGreatDoor

/-- A mutex: its owner, how often, its state; its waiting list. -/
structure Mu where
  own : Int
  cnt : Int
  st : Int
def muO (m : Mu) (q : Nat) : Obj := .cells #[.int .i64 0, .int .i64 0, .int .i64 0, .bool true, .int .i64 m.own, .int .i64 m.cnt, .int .i64 m.st, .pointer (some ⟨q, 0, none⟩)] 379 (0, 0)
theorem mcells {w : World} {b q : Nat} {m : Mu} (h : w.heap[b]? = some (muO m q)) : w.cell? ⟨b, 0, none⟩ = some (.int .i64 0) ∧ w.cell? ⟨b, 1, none⟩ = some (.int .i64 0) ∧ w.cell? ⟨b, 2, none⟩ = some (.int .i64 0) ∧ w.cell? ⟨b, 3, none⟩ = some (.bool true) ∧ w.cell? ⟨b, 4, none⟩ = some (.int .i64 m.own) ∧ w.cell? ⟨b, 5, none⟩ = some (.int .i64 m.cnt) ∧ w.cell? ⟨b, 6, none⟩ = some (.int .i64 m.st) ∧ w.cell? ⟨b, 7, none⟩ = some (.pointer (some ⟨q, 0, none⟩)) :=
  ⟨has_cell 0 h rfl, has_cell 1 h rfl, has_cell 2 h rfl, has_cell 3 h rfl, has_cell 4 h rfl, has_cell 5 h rfl, has_cell 6 h rfl, has_cell 7 h rfl⟩
theorem is_c (w : World) (b q : Nat) (m : Mu) (h : w.heap[b]? = some (muO m q)) : Calls Tryz.prog 185 #[.pointer (some ⟨b, 0, none⟩)] w fun e w' => e = .returned (.bool true) ∧ w = w' := by
  obtain ⟨c0, c1, c2, c3, c4, c5, c6, c7⟩ := mcells h
  clear h
  go_enter Tryz.func185, Tryz.ntmps185
  go_wp2_with fail
  refine bodyPost_ret (v := .bool true) (results_tmp (show Tryz.f185.results = #[.tmp 2] from rfl) _ _ _) rfl ?_
  exact ⟨rfl, rfl⟩
theorem thread_c (w : World) (t : Nat) (h : t < 16) : Calls Tryz.prog 189 #[.int .i64 t] w fun e w' => e = .returned (.bool true) ∧ w = w' := by
  have i0 : (0 : Int) ≤ t := by omega
  have i1 : (t : Int) < 16 := by omega
  go_enter Tryz.func189, Tryz.ntmps189
  go_wp2_with fail
  refine bodyPost_ret (v := .bool true) ?_ rfl ⟨rfl, rfl⟩
  refine (results_tmp (show Tryz.f189.results = #[.tmp 2] from rfl) _ _ _).trans ?_
  first | (simp; done) | (simp; omega)
theorem priority_c (w : World) (p : Int) (h : 1 ≤ p ∧ p ≤ 31) : Calls Tryz.prog 190 #[.int .i64 p] w fun e w' => e = .returned (.bool true) ∧ w = w' := by
  obtain ⟨i0, i1⟩ := h
  go_enter Tryz.func190, Tryz.ntmps190
  go_wp2_with fail
  refine bodyPost_ret (v := .bool true) ?_ rfl ⟨rfl, rfl⟩
  refine (results_tmp (show Tryz.f190.results = #[.tmp 2] from rfl) _ _ _).trans ?_
  first | (simp; done) | (simp; omega)
theorem protocol_c (w : World) (b q : Nat) (m : Mu) (h : w.heap[b]? = some (muO m q)) : Calls Tryz.prog 114 #[.pointer (some ⟨b, 0, none⟩)] w fun e w' => e = .returned (.int .i64 0) ∧ w = w' := by
  obtain ⟨c0, c1, c2, c3, c4, c5, c6, c7⟩ := mcells h
  have I := is_c w b q m h
  clear h
  go_enter Tryz.func114, Tryz.ntmps114
  go_wp2_with (go_at_call 185; refine I.mono ?_; rintro e w' ⟨rfl, rfl⟩)
  refine bodyPost_ret (v := .int .i64 0) (results_tmp (show Tryz.f114.results = #[.tmp 2] from rfl) _ _ _) rfl ?_
  exact ⟨rfl, rfl⟩
theorem take_c (w : World) (b q : Nat) (m : Mu) (t : Nat) (h : w.heap[b]? = some (muO m q)) : Calls Tryz.prog 572 #[.pointer (some ⟨b, 0, none⟩), .int .i64 t] w fun e w' => e = .returned (.int .i64 (if m.st = 1 then 130 else 0)) ∧ Upd w b (muO ⟨t, 1, m.st⟩ q) w' := by
  obtain ⟨c0, c1, c2, c3, c4, c5, c6, c7⟩ := mcells h
  have fz := has_free h
  have U := ((Upd.refl h).setCell 4 (.int .i64 t)).setCell 5 (.int .i64 1)
  have U2 := U.to (o' := muO ⟨t, 1, m.st⟩ q) rfl
  have HU := Lib.hid U2
  clear U U2 h
  by_cases hs : m.st = 1
  · rw [hs] at c6
    rw [if_pos hs]
    clear hs
    go_enter Tryz.func572, Tryz.ntmps572
    go_wp2_with fail
    refine bodyPost_ret (v := .int .i64 130) (results_tmp (show Tryz.f572.results = #[.tmp 4] from rfl) _ _ _) rfl ?_
    exact ⟨rfl, HU.out⟩
  · rw [if_neg hs]
    have d : (m.st == 1) = false := by simpa using hs
    go_enter Tryz.func572, Tryz.ntmps572
    go_wp2_with fail
    refine bodyPost_ret (v := .int .i64 0) (results_tmp (show Tryz.f572.results = #[.tmp 4] from rfl) _ _ _) rfl ?_
    exact ⟨rfl, HU.out⟩
set_option maxRecDepth 100000 in
theorem at_c (w : World) (b q : Nat) (m : Mu) (h : w.heap[b]? = some (muO m q)) : Calls Tryz.prog 116 #[.pointer (some ⟨b, 0, none⟩)] w fun e w' => e = .returned (.agg #[.int .i64 m.own, .int .i64 m.cnt, .int .i64 m.st, .int .i64 0]) ∧ Below w.heap.size w w' := by
  have I := fun W (hW : W.heap[b]? = some (muO m q)) => is_c W b q m hW
  have hb := has_lt h
  have h0 : (w.alloc (.cells #[.int .i64 0, .int .i64 0, .int .i64 0, .int .i64 0] 296)).heap[b]? = some (muO m q) := below_alloc_has h
  have x0 := heap_alloc_new w (.cells #[.int .i64 0, .int .i64 0, .int .i64 0, .int .i64 0] 296)
  obtain ⟨w0, hw0⟩ : ∃ w0, w0 = w.alloc (.cells #[.int .i64 0, .int .i64 0, .int .i64 0, .int .i64 0] 296) := ⟨_, rfl⟩
  rw [← hw0] at h0 x0
  have b0 : Below w.heap.size w w0 := by rw [hw0]; exact (Below.refl _ w).alloc (Nat.le_refl _) _
  obtain ⟨z, hz⟩ : ∃ z, z = w.heap.size := ⟨_, rfl⟩
  rw [← hz] at x0
  have HZ := Lib.hid hz
  have I0 := I w0 h0
  obtain ⟨c0, c1, c2, c3, c4, c5, c6, c7⟩ := mcells h0
  have y0 : w0.cell? ⟨z, 0, none⟩ = some (.int .i64 0) := has_cell 0 x0 rfl
  have y1 : w0.cell? ⟨z, 1, none⟩ = some (.int .i64 0) := has_cell 1 x0 rfl
  have y2 : w0.cell? ⟨z, 2, none⟩ = some (.int .i64 0) := has_cell 2 x0 rfl
  have y3 : w0.cell? ⟨z, 3, none⟩ = some (.int .i64 0) := has_cell 3 x0 rfl
  have fz := has_free x0
  have HX := Lib.hid x0
  have HB := Lib.hid b0
  have HW := Lib.hid hw0
  clear I h h0 x0 b0 hw0 hz
  go_enter Tryz.func116, Tryz.ntmps116
  go_upto_region 1 with fail
  rw [← HW.out, ← HZ.out]
  go_wp2_with (go_at_call 185; refine I0.mono ?_; rintro e w' ⟨rfl, rfl⟩)
  refine still_tail 17 (by kernel_rfl) (by kernel_rfl) ?_
  simp only [List.take_succ_cons, List.take_zero, List.drop_succ_cons, List.drop_zero]
  repeat still_step
  refine wpStill_nil ?_
  go_wp2_with fail
  have U := ((((((Upd.refl HX.out).setCell 0 (.int .i64 m.own)).setCell 1 (.int .i64 m.cnt)).setCell 2 (.int .i64 m.st)).setCell 3 (.int .i64 0)).drew).to (o' := .cells #[.int .i64 m.own, .int .i64 m.cnt, .int .i64 m.st, .int .i64 0] 296 (0, 0)) rfl
  have hload := run_loadVar_mid (P := Tryz.prog) _ z 0 296 _ _ (has_range U.1 [.int .i64 m.own, .int .i64 m.cnt, .int .i64 m.st, .int .i64 0] 0 (by intro j _; rw [Nat.zero_add]; simp)) Tryz.underlying296 rfl (by kernel_rfl)
  refine bodyPost_ret (v := .agg #[.int .i64 m.own, .int .i64 m.cnt, .int .i64 m.st, .int .i64 0]) ?_ rfl ⟨rfl, ?_⟩
  · simp [results, Tryz.f116, hload, asAddr]
  · exact HB.out.trans (U.below (by rw [HZ.out]; exact Nat.le_refl _) HB.out.size)
set_option maxRecDepth 100000 in
/-- Who waits first is nobody: nobody has it. -/
theorem next_c (w : World) (b q g : Nat) (m : Mu) (h : w.heap[b]? = some (muO m q)) (hq : Wq0 w q g) (hbq : b ≠ q) (hbg : b ≠ g) : Calls Tryz.prog 482 #[.pointer (some ⟨b, 0, none⟩)] w fun e w' => e = .returned (.slice none 0 0) ∧ Upd w b (muO ⟨-1, 0, m.st⟩ q) w' := by
  obtain ⟨w0, hw0⟩ : ∃ w0, w0 = w.alloc (.cells #[.pointer (some ⟨b, 0, none⟩)] 105) := ⟨_, rfl⟩
  have b0 : Below w.heap.size w w0 := by rw [hw0]; exact (Below.refl _ w).alloc (Nat.le_refl _) _
  have x0 : w0.heap[w.heap.size]? = some (.cells #[.pointer (some ⟨b, 0, none⟩)] 105 (0, 0)) := by rw [hw0]; exact heap_alloc_new w _
  obtain ⟨z, hz⟩ : ∃ z, z = w.heap.size := ⟨_, rfl⟩
  have hb := has_lt h
  rw [← hz] at x0
  have h0 := below_has b0 h
  obtain ⟨c0, c1, c2, c3, c4, c5, c6, c7⟩ := mcells h0
  have cz : w0.cell? ⟨z, 0, none⟩ = some (.pointer (some ⟨b, 0, none⟩)) := has_cell 0 x0 rfl
  have fz := has_free h0
  have U := ((((Upd.refl h0).setCell 4 (.int .i64 (-1))).setCell 5 (.int .i64 0)).drew).to (o' := muO ⟨-1, 0, m.st⟩ q) rfl
  obtain ⟨w1, hw1⟩ : ∃ w1, w1 = ((w0.setCell ⟨b, 4, none⟩ (.int .i64 (-1))).setCell ⟨b, 5, none⟩ (.int .i64 0)).drew := ⟨_, rfl⟩
  rw [← hw1] at U
  have hq1 : Wq0 w1 q g := by
    have h := hq.reads b0
    obtain ⟨l, l1⟩ := h.q
    obtain ⟨c, l2⟩ := h.g
    exact ⟨⟨l, U.other l1 (Ne.symm hbq)⟩, ⟨c, U.other l2 (Ne.symm hbg)⟩⟩
  have TN := take_none w1 q g hq1
  have d7 := (mcells U.1).2.2.2.2.2.2.2
  have ez : w1.cell? ⟨z, 0, none⟩ = some (.pointer (some ⟨b, 0, none⟩)) := has_cell 0 (U.other x0 (by omega)) rfl
  have HU := Lib.hid (Upd.after b0 U)
  have HW := Lib.hid hw0
  have HW1 := Lib.hid hw1
  have HZ := Lib.hid hz
  clear h hq h0 b0 x0 hw0 U hq1 hw1 hz hbq hbg
  go_enter Tryz.func482, Tryz.ntmps482
  go_upto_region 1 with fail
  rw [← HW.out, ← HZ.out]
  go_region
  all_goals rw [← HW1.out]
  all_goals clear c0 c1 c2 c3 c4 c5 c6 c7 cz fz
  all_goals go_wp2_with (go_at_call 319; refine TN.mono ?_; rintro e w2 ⟨rfl, b2⟩; have HB2 := Lib.hid b2; clear b2)
  all_goals refine bodyPost_ret (v := .slice none 0 0) (results_tmp (show Tryz.f482.results = #[.tmp 2] from rfl) _ _ _) rfl ?_
  all_goals exact ⟨rfl, HU.out.reads HB2.out⟩
end Go.Proofs.YtagmlijhgncklaaGreatDoor.Mx
namespace Go.Proofs.YtagmlijhgncklaaGreatDoor.Mx
open Go.RowKit Go.Proofs.YtagmlijhgncklaaGreatDoor

/-- The mutex and its waiting list. -/
structure MuW (w : World) (b q g : Nat) (m : Mu) : Prop where
  hb : w.heap[b]? = some (muO m q)
  hq : Wq0 w q g
  bq : b ≠ q
  bg : b ≠ g
theorem MuW.reads {w w' : World} {b q g : Nat} {m : Mu} (h : MuW w b q g m) (k : Below w.heap.size w w') : MuW w' b q g m := ⟨below_has k h.hb, h.hq.reads k, h.bq, h.bg⟩
theorem MuW.upd {w w' : World} {b q g : Nat} {m m' : Mu} (h : MuW w b q g m) (U : Upd w b (muO m' q) w') : MuW w' b q g m' := by
  obtain ⟨l, h1⟩ := h.hq.q
  obtain ⟨c, h2⟩ := h.hq.g
  exact ⟨U.1, ⟨⟨l, U.other h1 (Ne.symm h.bq)⟩, ⟨c, U.other h2 (Ne.symm h.bg)⟩⟩, h.bq, h.bg⟩
end Go.Proofs.YtagmlijhgncklaaGreatDoor.Mx
