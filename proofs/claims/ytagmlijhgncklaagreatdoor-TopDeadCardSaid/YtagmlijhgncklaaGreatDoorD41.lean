/-
  A wheel with one sleeper: its row is looked through, copied, emptied (Clone, IndexFunc, DeleteFunc), over the translation of this seat. Conditions: the blocks that are named hold what is said.
  A wheel's cells; somebody's deadline is set (Set), over the translation of this seat. Conditions: the blocks that are named hold what is said.
  A wheel of which one is due: remove, order, Due, Cancel, over the translation of this seat. Conditions: the blocks that are named hold what is said.
  A wheel of which one is due: order, Due, over the translation of this seat. Conditions: the blocks that are named hold what is said.
  A thread blocks (block), a moment after now (after), over the translation of this seat. Conditions: the blocks that are named hold what is said.
  A thread waits until a moment (waits), over the translation of this seat. Conditions: the blocks that are named hold what is said.
  A thread sleeps for one tick (callSleep), over the translation of this seat. Conditions: the blocks that are named hold what is said.
  One who slept wakes (leave, unblock, wake, late), over the translation of this seat. Conditions: the blocks that are named hold what is said.
  One who slept wakes (wake, late), what is due on the second clock (due), over the translation of this seat. Conditions: the blocks that are named hold what is said.
  A tick while nobody runs, over the translation of this seat. Conditions: the blocks that are named hold what is said; no timer, no deadline of the first clock is set; no thread is sporadic. (Written by gentickn.py.)
-/
import Derived.Test.YtagmlijhgncklaaGreatDoorD33
import Derived.Test.YtagmlijhgncklaaGreatDoorD40
import Derived.Test.YtagmlijhgncklaaGreatDoorD26
import Derived.Test.YtagmlijhgncklaaGreatDoorD35
set_option linter.unusedVariables false
namespace Go.Proofs
open Go.Shelf
def Tryz.layE467_ren : Go.Shelf.Ren := ⟨fun | 41 => 467 | n => n, fun | 22 => 168 | 23 => 422 | n => n, fun | n => n⟩
theorem Tryz.layE467 : SlLaysE0.n41 Tryz.prog Tryz.layE467_ren := {
  mixed := by kernel_rfl
  f41 := ⟨"slices.Clone[[]metronome/wheel.one,metronome/wheel.one]", by decide, Tryz.func467.trans (congrArg some (by kernel_rfl))⟩
  t4 := Tryz.underlying4
  a4 := Tryz.isAgg4
  z4 := Tryz.sizeOf4
  v4 := Tryz.zeroValue4
  t22 := Tryz.underlying168
  a22 := Tryz.isAgg168
  z22 := Tryz.sizeOf168
  v22 := Tryz.zeroValue168 }
end Go.Proofs
namespace Go.Proofs.YtagmlijhgncklaaGreatDoor
open Go.RowKit Go.Proofs.YtagmlijhgncklaaGreatDoor

/-- One who sleeps: who, until when, which it was. -/
def oneV (n at' q : Int) : List Value := [.int .i64 n, .int .i64 at', .int .i64 q]
theorem info422 : (Tryz.prog.info? 422).map (fun i => (i.zero, i.size, i.bytes)) = some (some (.agg #[.int .i64 0, .int .i64 0, .int .i64 0]), 3, 24) := by kernel_rfl
theorem oneClone_c (w : World) (g n cap : Nat) (xs : List Value) (h : w.ownsRow 0 422 3 (.slice (some ⟨g, 0, none⟩) n cap) n xs) (h1 : ∀ u ∈ xs, u.oneCell' = true) (hn : n ≤ 1000) :
    Calls Tryz.prog 467 #[.slice (some ⟨g, 0, none⟩) n cap] w fun e w' => ∃ v', e = .returned v' ∧ w'.ownsRow w.heap.size 422 3 v' n xs ∧ v' ≠ .slice none 0 0 ∧ Below w.heap.size w w' := by
  obtain ⟨i, hi, hz0, hz1, hz2⟩ := info_parts info422
  rcases h.2 with ⟨e, _⟩ | ⟨g', c', cur, e, _, hg, hc, _, hs, ht⟩
  · cases e
  · cases e
    refine (AnyE.slices_Clone Tryz.layE467 i _ 3 24 hi hz0 hz1 hz2 rfl (by decide) Tryz.sizeOf422 g 0 n cap xs w h.1 (by simp only [maxLen]; omega) (by omega) ?_ h1)
    intro j u hj
    rw [Nat.zero_add]
    refine has_cell _ hg ?_
    have hjn : j < n * 3 := by
      have := (List.getElem?_eq_some_iff.1 hj).1
      rw [h.1] at this; exact this
    rw [← ht, List.getElem?_take_of_lt hjn] at hj
    simpa using hj
/-- Is it who is asked for? -/
theorem isOne_c (w : World) (n at' q : Int) (x : Nat) (hx : w.heap[x]? = some (.cells #[.int .i64 n] 3 (0, 0))) :
    Calls Tryz.prog 468 #[.agg #[.int .i64 n, .int .i64 at', .int .i64 q], .pointer (some ⟨x, 0, none⟩)] w fun e w' => e = .returned (.bool true) ∧ Below w.heap.size w w' := by
  have x0 := below_alloc_has (o := .cells #[.int .i64 n, .int .i64 at', .int .i64 q] 422) hx
  have cx : (w.alloc (.cells #[.int .i64 n, .int .i64 at', .int .i64 q] 422)).cell? ⟨x, 0, none⟩ = some (.int .i64 n) := has_cell 0 x0 rfl
  clear hx x0
  go_enter Tryz.func468, Tryz.ntmps468
  go_wp2
  refine bodyPost_ret (v := .bool true) (results_tmp (show Tryz.f468.results = #[.tmp 3] from rfl) _ _ _) rfl ?_
  exact ⟨rfl, (Below.refl _ _).alloc (Nat.le_refl _) _⟩
/-- Is it due? -/
theorem isDue_c (w : World) (n at' q now : Int) (x : Nat) (hx : w.heap[x]? = some (.cells #[.int .i64 now] 2 (0, 0))) (hl : at' ≤ now) :
    Calls Tryz.prog 316 #[.agg #[.int .i64 n, .int .i64 at', .int .i64 q], .pointer (some ⟨x, 0, none⟩)] w fun e w' => e = .returned (.bool true) ∧ Below w.heap.size w w' := by
  have x0 := below_alloc_has (o := .cells #[.int .i64 n, .int .i64 at', .int .i64 q] 422) hx
  have cx : (w.alloc (.cells #[.int .i64 n, .int .i64 at', .int .i64 q] 422)).cell? ⟨x, 0, none⟩ = some (.int .i64 now) := has_cell 0 x0 rfl
  have d : decide (at' ≤ now) = true := by simpa using hl
  clear hx x0
  go_enter Tryz.func316, Tryz.ntmps316
  go_wp2
  refine bodyPost_ret (v := .bool true) (results_tmp (show Tryz.f316.results = #[.tmp 3] from rfl) _ _ _) rfl ?_
  exact ⟨rfl, (Below.refl _ _).alloc (Nat.le_refl _) _⟩
theorem oneIndex_c (w : World) (g cap x : Nat) (n at' q : Int) (h0 : w.cell? ⟨g, 0, none⟩ = some (.int .i64 n)) (h1 : w.cell? ⟨g, 1, none⟩ = some (.int .i64 at')) (h2 : w.cell? ⟨g, 2, none⟩ = some (.int .i64 q)) (hx : w.heap[x]? = some (.cells #[.int .i64 n] 3 (0, 0))) :
    Calls Tryz.prog 569 #[.slice (some ⟨g, 0, none⟩) 1 cap, .func (.func 468) #[] #[.pointer (some ⟨x, 0, none⟩)]] w fun e w' => e = .returned (.int .i64 0) ∧ Below w.heap.size w w' := by
  have L := isOne_c w n at' q x hx
  clear hx
  go_enter Tryz.func569, Tryz.ntmps569
  go_wp2_with fail
  refine wp_loop_rounds 2 ?_
  rw [rounds_succ]
  go_wp2_with (go_at_call 468; refine L.mono ?_; rintro e w1 ⟨rfl, b1⟩; have HB := Lib.hid b1; clear b1 L)
  go_ret
  exact ⟨rfl, HB.out⟩
theorem run_clear_one (w : World) (ty : TypeId) (g cap : Nat) (c0 c1 c2 : Value) (h0 : w.cell? ⟨g, 0, none⟩ = some c0) (h1 : w.cell? ⟨g, 1, none⟩ = some c1) (h2 : w.cell? ⟨g, 2, none⟩ = some c2) (fz : ∀ i, w.frozen? ⟨g, i, none⟩ = false) :
    (Builtin.clear_ #[168] ty #[.slice (some ⟨g, 0, none⟩) 1 cap]).run Tryz.prog w = .ok (.tuple #[]) (((w.setCell ⟨g, 0, none⟩ (.int .i64 0)).setCell ⟨g, 1, none⟩ (.int .i64 0)).setCell ⟨g, 2, none⟩ (.int .i64 0)) := by
  have hv : ∀ w, (zeroValue 422).run Tryz.prog w = .ok (.agg #[.int .i64 0, .int .i64 0, .int .i64 0]) w := Tryz.zeroValue422
  have hst := run_storeCells_cells (P := Tryz.prog) g 0 [.int .i64 0, .int .i64 0, .int .i64 0] 0 w (by intro j hj; match j, hj with | 0, _ => simp [h0] | 1, _ => simp [h1] | 2, _ => simp [h2]) (by intro j hj; simp [fz]) (by intro v hv'; simp at hv'; subst hv'; rfl)
  simp [Builtin.clear_, run_underlying Tryz.underlying168, hv]
  have hz : (Builtin.zeroCells (Value.agg #[.int .i64 0, .int .i64 0, .int .i64 0]).cells 1).toList = [.int .i64 0, .int .i64 0, .int .i64 0] := by kernel_rfl
  rw [hz, hst]
  rfl
/-- The one is taken out. -/
theorem oneDelete_c (w : World) (g cap x : Nat) (cur : Array Value) (n at' q : Int) (hg : w.heap[g]? = some (.cells cur 422 (0, 0))) (h0 : cur[0]? = some (.int .i64 n)) (h1 : cur[1]? = some (.int .i64 at')) (h2 : cur[2]? = some (.int .i64 q)) (hc : 1 ≤ cap) (hx : w.heap[x]? = some (.cells #[.int .i64 n] 3 (0, 0))) :
    Calls Tryz.prog 466 #[.slice (some ⟨g, 0, none⟩) 1 cap, .func (.func 468) #[] #[.pointer (some ⟨x, 0, none⟩)]] w fun e w' => e = .returned (.slice (some ⟨g, 0, none⟩) 0 cap) ∧ ∃ o, Upd w g o w' := by
  have A := oneIndex_c w g cap x n at' q (has_cell 0 hg h0) (has_cell 1 hg h1) (has_cell 2 hg h2) hx
  have HG := Lib.hid hg
  have H0 := Lib.hid h0
  have H1 := Lib.hid h1
  have H2 := Lib.hid h2
  clear hx hg h0 h1 h2
  go_enter Tryz.func466, Tryz.ntmps466
  go_wp2_with (go_at_call 569; refine A.mono ?_; rintro e w1 ⟨rfl, b⟩; have HU := Lib.hid b; clear b A)
  refine wp_loop_rounds 1 ?_
  rw [rounds_succ]
  have hg1 := below_has HU.out HG.out
  have d0 : w1.cell? ⟨g, 0, none⟩ = some (.int .i64 n) := has_cell 0 hg1 H0.out
  have d1 : w1.cell? ⟨g, 1, none⟩ = some (.int .i64 at') := has_cell 1 hg1 H1.out
  have d2 : w1.cell? ⟨g, 2, none⟩ = some (.int .i64 q) := has_cell 2 hg1 H2.out
  have fz := has_free hg1
  have CL := fun ty => run_clear_one w1 ty g cap _ _ _ d0 d1 d2 fz
  have U2 := (((Upd.refl hg1).setCell 0 (.int .i64 0)).setCell 1 (.int .i64 0)).setCell 2 (.int .i64 0)
  have HU2 := Lib.hid (Upd.after HU.out U2)
  clear hg1 fz d0 d1 d2 U2
  go_wp2_with fail
  go_ret
  exact ⟨rfl, _, HU2.out⟩
end Go.Proofs.YtagmlijhgncklaaGreatDoor
namespace Go.Proofs.YtagmlijhgncklaaGreatDoor
open Go.RowKit Go.Proofs.YtagmlijhgncklaaGreatDoor

theorem wh_ring {s : Wh} (ok : WhOk s) {k : Nat} (hk : k < 64) {v : Value} (h : s.rings[k]? = some v) : (whC s)[1 + k]? = some v := by
  rw [show 1 + k = k + 1 by omega, whC, List.getElem?_cons_succ, List.getElem?_append_left (by rw [ok.rings]; exact hk), h]
theorem wh_wh {s : Wh} (ok : WhOk s) {n : Nat} (hn : n < 64) : (whC s)[65 + n]? = some (.int .i64 (s.wh.getD n 0)) := by
  rw [show 65 + n = (64 + n) + 1 by omega, whC, List.getElem?_cons_succ, List.getElem?_append_right (by rw [ok.rings]; omega), ok.rings, Nat.add_sub_cancel_left, List.getElem?_append_left (by rw [ints_length, ok.wh]; exact hn), ints_get (by rw [ok.wh]; exact hn)]
theorem wh_st {s : Wh} (ok : WhOk s) : (whC s)[129]? = some (.int .i64 s.st) := by
  rw [show 129 = 128 + 1 from rfl, whC, List.getElem?_cons_succ, List.getElem?_append_right (by rw [ok.rings]; omega), ok.rings, List.getElem?_append_right (by rw [ints_length, ok.wh]; decide), ints_length, ok.wh]
  rfl
theorem wh_n {s : Wh} (ok : WhOk s) : (whC s)[130]? = some (.int .i64 s.n) := by
  rw [show 130 = 129 + 1 from rfl, whC, List.getElem?_cons_succ, List.getElem?_append_right (by rw [ok.rings]; omega), ok.rings, List.getElem?_append_right (by rw [ints_length, ok.wh]; decide), ints_length, ok.wh]
  rfl
theorem wh_set_ring {s : Wh} (ok : WhOk s) {k : Nat} (hk : k < 64) (v : Value) : (whC s).toArray.setIfInBounds (1 + k) v = (whC { s with rings := s.rings.set k v }).toArray := by
  rw [List.setIfInBounds_toArray, show 1 + k = k + 1 by omega]
  simp only [whC, List.set_cons_succ]
  rw [List.set_append_left _ _ (by rw [ok.rings]; exact hk)]
theorem wh_set_wh {s : Wh} (ok : WhOk s) {n : Nat} (hn : n < 64) (x : Int) : (whC s).toArray.setIfInBounds (65 + n) (.int .i64 x) = (whC { s with wh := s.wh.set n x }).toArray := by
  rw [List.setIfInBounds_toArray, show 65 + n = (64 + n) + 1 by omega]
  simp only [whC, List.set_cons_succ]
  rw [List.set_append_right _ _ (by rw [ok.rings]; omega), ok.rings, Nat.add_sub_cancel_left, List.set_append_left _ _ (by rw [ints_length, ok.wh]; exact hn), ints_set]
theorem wh_set_st {s : Wh} (ok : WhOk s) (x : Int) : (whC s).toArray.setIfInBounds 129 (.int .i64 x) = (whC { s with st := x }).toArray := by
  rw [List.setIfInBounds_toArray, show 129 = 128 + 1 from rfl]
  simp only [whC, List.set_cons_succ]
  rw [List.set_append_right _ _ (by rw [ok.rings]; omega), ok.rings, List.set_append_right _ _ (by rw [ints_length, ok.wh]; decide), ints_length, ok.wh]
  rfl
theorem wh_set_n {s : Wh} (ok : WhOk s) (x : Int) : (whC s).toArray.setIfInBounds 130 (.int .i64 x) = (whC { s with n := x }).toArray := by
  rw [List.setIfInBounds_toArray, show 130 = 129 + 1 from rfl]
  simp only [whC, List.set_cons_succ]
  rw [List.set_append_right _ _ (by rw [ok.rings]; omega), ok.rings, List.set_append_right _ _ (by rw [ints_length, ok.wh]; decide), ints_length, ok.wh]
  rfl
theorem id_c (w : World) (n : Nat) (hn : n < 64) : Calls Tryz.prog 455 #[.int .i64 n] w fun e w' => e = .returned (.bool true) ∧ w = w' := by
  have h0 : (0 : Int) ≤ n := by omega
  have h1 : (n : Int) < 64 := by omega
  go_enter Tryz.func455, Tryz.ntmps455
  go_wp2
  go_ret
  exact ⟨rfl, rfl⟩
theorem upd_grown {w W w' : World} {b : Nat} {o : Obj} (U : Upd w b o W) (q : W.grownBy w' none) : Upd w b o w' :=
  U.trans ⟨(q.block b (has_lt U.1) (by intro e; cases e)).trans U.1, q.os, q.tape, q.output, q.size, fun k hk _ => q.block k hk (by intro e; cases e)⟩
/-- The wheel behind a deadline that was set for the first. -/
def Wh.setF (s : Wh) (k : Nat) (v : Value) : Wh := { s with rings := s.rings.set k v, wh := s.wh.set 0 (k + 1), st := s.st + 1, n := s.n + 1 }
theorem Wh.setF_ok {s : Wh} (ok : WhOk s) (k : Nat) (v : Value) : WhOk (s.setF k v) := ⟨by show (s.rings.set k v).length = 64; rw [List.length_set]; exact ok.rings, by show (s.wh.set 0 _).length = 64; rw [List.length_set]; exact ok.wh⟩
set_option maxRecDepth 100000 in
set_option maxHeartbeats 4000000 in
theorem wheelSet_c (w : World) (b : Nat) (s : Wh) (k : Nat) (h : w.heap[b]? = some (whO s)) (ok : WhOk s) (hk : k < 64) (hr : s.rings[k]? = some (.slice none 0 0)) (hw : s.wh.getD 0 0 = 0) (hst : 0 ≤ s.st ∧ s.st ≤ 1000) (hn : 0 ≤ s.n ∧ s.n ≤ 1000) :
    Calls Tryz.prog 309 #[.pointer (some ⟨b, 0, none⟩), .int .i64 0, .int .i64 k] w fun e w' => ∃ g cap cur, e = .returned (.int .i64 0) ∧ Upd w b (whO (s.setF k (.slice (some ⟨g, 0, none⟩) 1 cap))) w' ∧ w.heap.size ≤ g ∧ w'.heap[g]? = some (.cells cur 422 (0, 0)) ∧ w'.ownsRow w.heap.size 422 3 (.slice (some ⟨g, 0, none⟩) 1 cap) 1 (oneV 0 k (s.st + 1)) := by
  have IS := whis_c w b s h
  have ID := id_c w 0 (by decide)
  have k0 : (0 : Int) ≤ k := by omega
  have k1 : (k : Int) < 64 := by omega
  have k2 : ¬ (k : Int) < 0 := by omega
  have k3 : ¬ (1099511627776 : Int) < k := by omega
  have km : (k : Int).tmod 64 = k := Int.tmod_eq_of_lt k0 k1
  have c65 : w.cell? ⟨b, 65, none⟩ = some (.int .i64 0) := by
    have q := wh_wh ok (n := 0) (by decide)
    rw [hw] at q
    exact has_cell 65 h (by rw [List.getElem?_toArray]; exact q)
  have c129 : w.cell? ⟨b, 129, none⟩ = some (.int .i64 s.st) := has_cell 129 h (by rw [List.getElem?_toArray]; exact wh_st ok)
  have fz := has_free h
  have w1 : IntKind.i64.wrap (s.st + 1) = s.st + 1 := IntWalk.i64_in _ (by omega)
  have w2 : IntKind.i64.wrap (s.n + 1) = s.n + 1 := IntWalk.i64_in _ (by omega)
  have w3 : IntKind.i64.wrap ((k : Int) + 1) = k + 1 := IntWalk.i64_in _ (by omega)
  have w4 : IntKind.i64.wrap (k : Int) = k := IntWalk.i64_in _ (by omega)
  have ID : Calls Tryz.prog 455 #[.int .i64 0] w fun e w' => e = .returned (.bool true) ∧ w = w' := ID
  have HH := Lib.hid h
  have HR := Lib.hid hr
  have HS := Lib.hid hst
  have HN := Lib.hid hn
  clear h hr hst hn hw
  go_enter Tryz.func309, Tryz.ntmps309
  go_upto_region 9 with (first | (go_at_call 314; refine IS.mono ?_; rintro e w' ⟨rfl, rfl⟩) | (go_at_call 455; refine ID.mono ?_; rintro e w' ⟨rfl, rfl⟩))
  clear IS ID c65 c129 fz
  refine world_wp (fun W => Upd w b (whO { s with st := s.st + 1 }) W) (((Upd.refl HH.out).setCell 129 (.int .i64 (s.st + 1))).to (by rw [wh_set_st ok]; rfl)) ?_
  intro W U
  have ok1 : WhOk { s with st := s.st + 1 } := ⟨ok.rings, ok.wh⟩
  have cr : W.cell? ⟨b, 1 + k, none⟩ = some (.slice none 0 0) := has_cell (1 + k) U.1 (by rw [List.getElem?_toArray]; exact wh_ring ok1 hk HR.out)
  have c129 : W.cell? ⟨b, 129, none⟩ = some (.int .i64 (s.st + 1)) := has_cell 129 U.1 (by rw [List.getElem?_toArray]; exact wh_st ok1)
  have c65 : W.cell? ⟨b, 65, none⟩ = some (.int .i64 (s.wh.getD 0 0)) := has_cell 65 U.1 (by rw [List.getElem?_toArray]; exact wh_wh ok1 (n := 0) (by decide))
  have c130 : W.cell? ⟨b, 130, none⟩ = some (.int .i64 s.n) := has_cell 130 U.1 (by rw [List.getElem?_toArray]; exact wh_n ok1)
  have fz := has_free U.1
  have hbk : b < W.heap.size := has_lt U.1
  have HU := Lib.hid U
  have HO1 := Lib.hid ok1
  obtain ⟨i0, hi, hz0, hz1, hz2⟩ := info_parts info422
  have HI := Lib.hid hi
  have HZ0 := Lib.hid hz0
  have HZ1 := Lib.hid hz1
  have HZ2 := Lib.hid hz2
  clear U ok1 hi hz0 hz1 hz2
  go_region_law (first
    | (refine step_append_lies _ rfl (.tmp 50) (.tmp 58) 168 rfl 0 422 i0 _ 3 24 Tryz.underlying168 HI.out HZ0.out HZ1.out HZ2.out rfl (by decide) (.slice none 0 0) 0 [] rfl (by exact ⟨rfl, .inl ⟨rfl, rfl⟩⟩) ⟨W.heap.size, 0, none⟩ 1 1 [.int .i64 0, .int .i64 k, .int .i64 (s.st + 1)] rfl rfl (by exact World.news_of_block (heap_alloc_new W (.cells #[.int .i64 0, .int .i64 k, .int .i64 (s.st + 1)] 422))) (by intro u hu; simp at hu; rcases hu with rfl | rfl | rfl <;> rfl) (by decide) (by decide) (by decide) (Nat.zero_le _) _ rfl ?_
       intro g cap w' q1 q2 q3 q4
       have q5 : W.grownBy w' none := Ker.grown_alloc ⟨q2.os, q2.tape, q2.output, q2.size, q2.block⟩
       have hh : w'.heap[b]? = some (whO { s with st := s.st + 1 }) := (q5.block b hbk (by intro e; cases e)).trans HU.out.1
       have y65 : w'.cell? ⟨b, 65, none⟩ = some (.int .i64 (s.wh.getD 0 0)) := has_cell 65 hh (by rw [List.getElem?_toArray]; exact wh_wh HO1.out (n := 0) (by decide))
       have y130 : w'.cell? ⟨b, 130, none⟩ = some (.int .i64 s.n) := has_cell 130 hh (by rw [List.getElem?_toArray]; exact wh_n HO1.out)
       have yr : w'.cell? ⟨b, 1 + k, none⟩ = some (.slice none 0 0) := has_cell (1 + k) hh (by rw [List.getElem?_toArray]; exact wh_ring HO1.out hk HR.out)
       have yf := has_free hh
       have HQ1 := Lib.hid q1; have HQ5 := Lib.hid q5; have HQ3 := Lib.hid q3; have HQ4 := Lib.hid q4; have HHH := Lib.hid hh
       clear q1 q2 q3 q4 q5 hh))
  all_goals go_wp2_with fail
  all_goals
    refine bodyPost_ret (v := .int .i64 0) (results_tmp (show Tryz.f309.results = #[.tmp 6] from rfl) _ _ _) rfl ?_
    have ok2 : WhOk ({ s with st := s.st + 1, rings := s.rings.set k (.slice (some ⟨g, 0, none⟩) 1 cap) } : Wh) := ⟨by show (s.rings.set k _).length = 64; rw [List.length_set]; exact ok.rings, ok.wh⟩
    have ok3 : WhOk ({ s with st := s.st + 1, rings := s.rings.set k (.slice (some ⟨g, 0, none⟩) 1 cap), wh := s.wh.set 0 (k + 1) } : Wh) := ⟨ok2.rings, by show (s.wh.set 0 _).length = 64; rw [List.length_set]; exact ok.wh⟩
    have U := (((Upd.refl HHH.out).setCell (1 + k) (.slice (some ⟨g, 0, none⟩) 1 cap)).setCell 65 (.int .i64 (k + 1))).setCell 130 (.int .i64 (s.n + 1))
    have U2 := U.to (o' := whO (s.setF k (.slice (some ⟨g, 0, none⟩) 1 cap))) (by
      rw [wh_set_ring HO1.out hk]
      rw [show (65 : Nat) = 65 + 0 from rfl, wh_set_wh ok2 (by decide), wh_set_n ok3]
      rfl)
    have U0 := upd_grown HU.out HQ5.out
    obtain ⟨_, (⟨e, _⟩ | ⟨g', cap', cur, e, hb, hg, h4, h5, h6, h7⟩)⟩ := HQ1.out
    · cases e
    · cases e
      have hgb : W.heap.size ≤ g := by
        rcases HQ3.out with e | e
        · cases e
        · rw [e]; simp
      have gnb : b ≠ g := by omega
      have U3 := U0.trans U2
      have hwg : w.heap.size ≤ g := Nat.le_trans HU.out.size hgb
      have hg2 := U2.other hg gnb.symm
      refine ⟨g, cap, cur, rfl, U3, hwg, hg2, ?_⟩
      exact ⟨rfl, .inr ⟨g, cap, cur, rfl, hwg, hg2, h4, h5, h6, h7⟩⟩
end Go.Proofs.YtagmlijhgncklaaGreatDoor
namespace Go.Proofs.YtagmlijhgncklaaGreatDoor
open Go.RowKit Go.Proofs.YtagmlijhgncklaaGreatDoor

/-- The wheel behind the first's deadline was taken out of its ring. -/
def Wh.remF (s : Wh) (k : Nat) (v : Value) : Wh := { s with rings := s.rings.set k v, wh := s.wh.set 0 0, n := s.n - 1 }
theorem Wh.remF_ok {s : Wh} (ok : WhOk s) (k : Nat) (v : Value) : WhOk (s.remF k v) := ⟨by show (s.rings.set k v).length = 64; rw [List.length_set]; exact ok.rings, by show (s.wh.set 0 _).length = 64; rw [List.length_set]; exact ok.wh⟩
theorem oneV_one (n a q : Int) : ∀ u ∈ oneV n a q, u.oneCell' = true := by
  intro u hu
  simp [oneV] at hu
  rcases hu with rfl | rfl | rfl <;> rfl
theorem one_row {w : World} {B : Nat} {v : Value} {n a q : Int} (h : w.ownsRow B 422 3 v 1 (oneV n a q)) : ∃ g cap cur, v = .slice (some ⟨g, 0, none⟩) 1 cap ∧ B ≤ g ∧ w.heap[g]? = some (.cells cur 422 (0, 0)) ∧ 1 ≤ cap ∧ cap ≤ maxLen ∧ cur.size = cap * 3 ∧ cur[0]? = some (.int .i64 n) ∧ cur[1]? = some (.int .i64 a) ∧ cur[2]? = some (.int .i64 q) := by
  rcases h.2 with ⟨_, e⟩ | ⟨g, cap, cur, e, hb, hg, hc, hm, hs, ht⟩
  · omega
  · have at' : ∀ (i : Nat) (u : Value), i < 3 → (oneV n a q)[i]? = some u → cur[i]? = some u := fun i u hi hu => by
      rw [← ht, List.getElem?_take_of_lt (by omega)] at hu
      simpa using hu
    exact ⟨g, cap, cur, e, hb, hg, hc, hm, hs, at' 0 _ (by decide) rfl, at' 1 _ (by decide) rfl, at' 2 _ (by decide) rfl⟩
/-- A one-piece row in a block. -/
structure OneW (w : World) (g cap : Nat) (a q : Int) : Prop where
  row : w.ownsRow 0 422 3 (.slice (some ⟨g, 0, none⟩) 1 cap) 1 (oneV 0 a q)
theorem OneW.lt {w : World} {g cap : Nat} {a q : Int} (h : OneW w g cap a q) : g < w.heap.size := by
  obtain ⟨g', c', cur, e, _, hg, _⟩ := one_row h.row
  cases e
  exact has_lt hg
theorem OneW.kept {w w' : World} {g cap : Nat} {a q : Int} (h : OneW w g cap a q) (k : w'.heap[g]? = w.heap[g]?) : OneW w' g cap a q :=
  ⟨Ker.owns_kept h.row fun z hz => by cases hz; exact k⟩
structure RemW (w W : World) (y : Nat) : Prop where
  below : Below w.heap.size w W
  hy : W.heap[y]? = some (.cells #[.int .i64 0] 3 (0, 0))
  yw : w.heap.size ≤ y
theorem RemW.reads {w W W' : World} {y : Nat} (h : RemW w W y) (k : Below W.heap.size W W') : RemW w W' y :=
  ⟨h.below.trans (k.mono h.below.size), below_has k h.hy, h.yw⟩
set_option maxRecDepth 100000 in
set_option maxHeartbeats 4000000 in
theorem wheelRemove_c (w : World) (b : Nat) (s : Wh) (k : Nat) (h : w.heap[b]? = some (whO s)) (ok : WhOk s) (hk : k < 64) (g cap : Nat) (a q : Int) (hr : s.rings[k]? = some (.slice (some ⟨g, 0, none⟩) 1 cap)) (ow : OneW w g cap a q) (hw : s.wh.getD 0 0 = k + 1) (hn : 0 ≤ s.n ∧ s.n ≤ 1000) :
    Calls Tryz.prog 317 #[.pointer (some ⟨b, 0, none⟩), .int .i64 0] w fun e w' => ∃ a' c', e = .returned (.tuple #[]) ∧ Upd w b (whO (s.remF k (.slice a' 0 c'))) w' := by
  have hbw := has_lt h
  have HH := Lib.hid h
  have HR := Lib.hid hr
  have HN := Lib.hid hn
  have HO := Lib.hid ow
  have HW := Lib.hid hw
  have HOK := Lib.hid ok
  have w1 : IntKind.i64.wrap (k : Int) = k := IntWalk.i64_in _ (by omega)
  have w2 : IntKind.i64.wrap (s.n - 1) = s.n - 1 := IntWalk.i64_in _ (by omega)
  have k0 : (0 : Int) ≤ k := by omega
  have k1 : (k : Int) < 64 := by omega
  have x0 : RemW w (w.alloc (.cells #[.int .i64 0] 3)) w.heap.size := ⟨(Below.refl _ _).alloc (Nat.le_refl _) _, heap_alloc_new w _, Nat.le_refl _⟩
  clear h hr hn ow hw ok
  go_enter Tryz.func317, Tryz.ntmps317
  go_upto_region 1 with fail
  obtain ⟨y, hy⟩ : ∃ y, y = w.heap.size := ⟨_, rfl⟩
  rw [← hy] at x0 ⊢
  refine world_wp (fun W => RemW w W y) x0 ?_
  clear hy x0
  intro W X
  have c65 : W.cell? ⟨b, 65, none⟩ = some (.int .i64 (k + 1)) := by
    have q := wh_wh HOK.out (n := 0) (by decide)
    rw [HW.out] at q
    exact has_cell 65 (below_has X.below HH.out) (by rw [List.getElem?_toArray]; exact q)
  have cy : W.cell? ⟨y, 0, none⟩ = some (.int .i64 0) := has_cell 0 X.hy rfl
  have HX := Lib.hid X
  clear X
  go_region_held3 (fun W' => W'.cell? ⟨b, 65, none⟩ = some (.int .i64 (k + 1)) ∧ W'.cell? ⟨y, 0, none⟩ = some (.int .i64 0)) (first | exact ⟨c65, cy⟩ | exact ⟨by assumption, by assumption⟩) (fail)
  go_upto_region 2 with fail
  refine world_wp (fun W => RemW w W y) ⟨HX.out.below.drew, HX.out.hy, HX.out.yw⟩ ?_
  clear HX c65 cy
  intro W X
  have hb := below_has X.below HH.out
  have cr : W.cell? ⟨b, 1 + k, none⟩ = some (.slice (some ⟨g, 0, none⟩) 1 cap) := has_cell (1 + k) hb (by rw [List.getElem?_toArray]; exact wh_ring HOK.out hk HR.out)
  have HX := Lib.hid X
  have X1 : RemW w W.drew y := ⟨X.below.drew, X.hy, X.yw⟩
  have CL := oneClone_c W.drew g 1 cap (oneV 0 a q) (HO.out.kept (X1.below.block g HO.out.lt)).row (oneV_one _ _ _) (by decide)
  have HX1 := Lib.hid X1
  clear X X1 hb
  go_region_with (first
    | (go_at_call 467; refine CL.mono ?_; rintro e w1 ⟨v', rfl, ow1, nn, b1⟩; obtain ⟨g1, c1, cur, rfl, hgb, hg1, hc1, hm1, hs1, h0, h1, h2⟩ := one_row ow1
       have X1 := HX1.out.reads b1
       have D := oneDelete_c w1 g1 c1 y cur 0 a q hg1 h0 h1 h2 hc1 X1.hy
       have e0 : w1.cell? ⟨b, 1 + k, none⟩ = some (.slice (some ⟨g, 0, none⟩) 1 cap) := has_cell (1 + k) (below_has X1.below HH.out) (by rw [List.getElem?_toArray]; exact wh_ring HOK.out hk HR.out)
       have HX2 := Lib.hid X1; have HGB := Lib.hid (Nat.le_trans HX1.out.below.size hgb); clear ow1 b1 X1 hg1 h0 h1 h2 hs1 hm1)
    | (go_at_call 466; refine D.mono ?_; rintro e w2 ⟨rfl, o2, u2⟩; have hb2 : w2.heap[b]? = some (whO s) := u2.other (below_has HX2.out.below HH.out) (by have := HGB.out; omega); have e1 := has_cell (1 + k) hb2 (by rw [List.getElem?_toArray]; exact wh_ring HOK.out hk HR.out); have fz := has_free hb2; have HU2 := Lib.hid u2; have HB2 := Lib.hid hb2; clear u2 hb2))
  all_goals
    have ok2 : WhOk ({ s with rings := s.rings.set k (.slice (some ⟨g1, 0, none⟩) 0 c1) } : Wh) := ⟨by show (s.rings.set k _).length = 64; rw [List.length_set]; exact HOK.out.rings, HOK.out.wh⟩
    have ok3 : WhOk ({ s with rings := s.rings.set k (.slice (some ⟨g1, 0, none⟩) 0 c1), wh := s.wh.set 0 0 } : Wh) := ⟨ok2.rings, by show (s.wh.set 0 _).length = 64; rw [List.length_set]; exact HOK.out.wh⟩
    have HK2 := Lib.hid ok2
    have HK3 := Lib.hid ok3
    have U0 : Upd w b (whO ({ s with rings := s.rings.set k (.slice (some ⟨g1, 0, none⟩) 0 c1) } : Wh)) (w2.setCell ⟨b, 1 + k, none⟩ (.slice (some ⟨g1, 0, none⟩) 0 c1)) := by
      have U := ((Upd.refl HB2.out).setCell (1 + k) (.slice (some ⟨g1, 0, none⟩) 0 c1)).to (o' := whO ({ s with rings := s.rings.set k (.slice (some ⟨g1, 0, none⟩) 0 c1) } : Wh)) (by rw [wh_set_ring HOK.out hk]; rfl)
      exact Upd.after (HX2.out.below.trans (HU2.out.below HGB.out HX2.out.below.size)) U
    have Y0 : (w2.setCell ⟨b, 1 + k, none⟩ (.slice (some ⟨g1, 0, none⟩) 0 c1)).heap[y]? = some (.cells #[.int .i64 0] 3 (0, 0)) := by
      have q : w2.heap[y]? = some (.cells #[.int .i64 0] 3 (0, 0)) := HU2.out.other HX2.out.hy (by have h1 := has_lt HX1.out.hy; omega)
      exact ((Upd.refl HB2.out).setCell (1 + k) (.slice (some ⟨g1, 0, none⟩) 0 c1)).other q (by have := HX1.out.yw; omega)
    clear CL D e0 e1 fz cr hgb hc1 nn ok2 ok3
    go_upto_region 3 with fail
    refine world_wp (fun W => Upd w b (whO ({ s with rings := s.rings.set k (.slice (some ⟨g1, 0, none⟩) 0 c1) } : Wh)) W ∧ W.heap[y]? = some (.cells #[.int .i64 0] 3 (0, 0))) ⟨U0, Y0⟩ ?_
    clear U0 Y0
    rintro W4 ⟨U4, Y4⟩
    have cy : W4.cell? ⟨y, 0, none⟩ = some (.int .i64 0) := has_cell 0 Y4 rfl
    have d65 : W4.cell? ⟨b, 65, none⟩ = some (.int .i64 (s.wh.getD 0 0)) := has_cell 65 U4.1 (by rw [List.getElem?_toArray]; exact wh_wh HK2.out (n := 0) (by decide))
    have d130 : W4.cell? ⟨b, 130, none⟩ = some (.int .i64 s.n) := has_cell 130 U4.1 (by rw [List.getElem?_toArray]; exact wh_n HK2.out)
    have fz := has_free U4.1
    have HU4 := Lib.hid U4
    have yb : y ≠ b := by have := HX1.out.yw; omega
    have by' : b ≠ y := yb.symm
    clear U4 Y4
    go_region
    all_goals go_wp2_with fail
    all_goals
      refine bodyPost_end (results_none rfl _ _ _) rfl ?_
      refine ⟨some ⟨g1, 0, none⟩, c1, rfl, HU4.out.trans ?_⟩
      refine Upd.to (Upd.setCell (Upd.setCell (Upd.refl (w := W4) HU4.out.1).drew 65 (.int .i64 0)) 130 (.int .i64 (s.n - 1))) ?_
      rw [show (65 : Nat) = 65 + 0 from rfl, wh_set_wh HK2.out (by decide), wh_set_n HK3.out]
      rfl

theorem pdq_one (w : World) (g cap : Nat) (f : Value) (l : Int) : Calls Tryz.prog 567 #[.slice (some ⟨g, 0, none⟩) 1 cap, .int .i64 0, .int .i64 1, .int .i64 l, f] w fun e w' => e = .returned (.tuple #[]) ∧ w = w' := by
  have A : Calls Tryz.prog 597 #[.slice (some ⟨g, 0, none⟩) 1 cap, .int .i64 0, .int .i64 1, f] w fun e w' => e = .returned (.tuple #[]) ∧ w = w' := by
    go_enter Tryz.func597, Tryz.ntmps597
    go_wp2_with fail
    refine wp_loop_rounds 1 ?_
    rw [rounds_succ]
    go_wp2_with fail
    go_end0
    exact ⟨rfl, rfl⟩
  go_enter Tryz.func567, Tryz.ntmps567
  go_wp2_with fail
  refine wp_loop_rounds 1 ?_
  rw [rounds_succ]
  go_wp2_with (go_at_call 597; refine A.mono ?_; rintro e w' ⟨rfl, rfl⟩)
  refine bodyPost_ret (results_none rfl _ _ _) rfl ?_
  exact ⟨rfl, rfl⟩
theorem sort_one (w : World) (g cap : Nat) (f : Value) : Calls Tryz.prog 462 #[.slice (some ⟨g, 0, none⟩) 1 cap, f] w fun e w' => e = .returned (.tuple #[]) ∧ w = w' := by
  go_enter Tryz.func462, Tryz.ntmps462
  go_wp2_with fail
  refine (Tryz.bits_Len _ _ (by decide) (by decide)).mono ?_; rintro e w' ⟨rfl, rfl⟩
  go_wp2_with fail
  refine (pdq_one _ _ _ _ _).mono ?_; rintro e w' ⟨rfl, rfl⟩
  go_wp2_with fail
  go_end0
  exact ⟨rfl, rfl⟩
theorem cancel_not (w : World) (b : Nat) (s : Wh) (h : w.heap[b]? = some (whO s)) (ok : WhOk s) (hw : s.wh.getD 0 0 = 0) : Calls Tryz.prog 469 #[.pointer (some ⟨b, 0, none⟩), .int .i64 0] w fun e w' => (∃ z, e = .returned z) ∧ w = w' := by
  have IS := whis_c w b s h
  have ID : Calls Tryz.prog 455 #[.int .i64 0] w fun e w' => e = .returned (.bool true) ∧ w = w' := id_c w 0 (by decide)
  have c65 : w.cell? ⟨b, 65, none⟩ = some (.int .i64 0) := by
    have q := wh_wh ok (n := 0) (by decide)
    rw [hw] at q
    exact has_cell 65 h (by rw [List.getElem?_toArray]; exact q)
  clear h
  go_enter Tryz.func469, Tryz.ntmps469
  go_wp2_with (first | (go_at_call 314; refine IS.mono ?_; rintro e w' ⟨rfl, rfl⟩) | (go_at_call 455; refine ID.mono ?_; rintro e w' ⟨rfl, rfl⟩))
  go_ret
  exact ⟨⟨_, rfl⟩, rfl⟩
end Go.Proofs.YtagmlijhgncklaaGreatDoor
namespace Go.Proofs.YtagmlijhgncklaaGreatDoor
open Go.RowKit Go.Proofs.YtagmlijhgncklaaGreatDoor

theorem infoW3 : (Tryz.prog.info? 3).map (fun i => (i.zero, i.size, i.bytes)) = some (some (.int .i64 0), 1, 8) := by kernel_rfl
theorem OneW.of {w : World} {B : Nat} {v : Value} {a q : Int} (h : w.ownsRow B 422 3 v 1 (oneV 0 a q)) : ∃ g c, v = .slice (some ⟨g, 0, none⟩) 1 c ∧ B ≤ g ∧ OneW w g c a q := by
  obtain ⟨h0, (⟨_, e⟩ | ⟨g, cap, cur, e, hb, hg, hc, hm, hs, ht⟩)⟩ := h
  · omega
  · subst e
    exact ⟨g, cap, rfl, hb, ⟨h0, .inr ⟨g, cap, cur, rfl, Nat.zero_le _, hg, hc, hm, hs, ht⟩⟩⟩
/-- All rings are empty, but for one. -/
def But (s : Wh) (k : Nat) : Prop := ∀ j, j < 64 → j ≠ k → ∃ a c, s.rings[j]? = some (.slice a 0 c)
set_option maxRecDepth 100000 in
set_option maxHeartbeats 4000000 in
theorem order_one (w : World) (b : Nat) (s : Wh) (k : Nat) (h : w.heap[b]? = some (whO s)) (ok : WhOk s) (hk : k < 64) (g cap : Nat) (a q now : Int) (hr : s.rings[k]? = some (.slice (some ⟨g, 0, none⟩) 1 cap)) (hbut : But s k) (ow : OneW w g cap a q) (y : Nat) (hy : w.heap[y]? = some (.cells #[.int .i64 now] 2 (0, 0))) (hl : a ≤ now) :
    Calls Tryz.prog 315 #[.pointer (some ⟨b, 0, none⟩), .func (.func 316) #[] #[.pointer (some ⟨y, 0, none⟩)]] w fun e w' => ∃ g' c', e = .returned (.slice (some ⟨g', 0, none⟩) 1 c') ∧ OneW w' g' c' a q ∧ w.heap.size ≤ g' ∧ Below w.heap.size w w' := by
  have hrg := wh_range h ok
  have HB := Lib.hid hbut
  have HR := Lib.hid hr
  have HO := Lib.hid ow
  have HY := Lib.hid hy
  have HL := Lib.hid hl
  have HOK := Lib.hid ok
  obtain ⟨i0, hi, hz0, hz1, hz2⟩ := info_parts info422
  have HI := Lib.hid hi
  have HZ0 := Lib.hid hz0
  have HZ1 := Lib.hid hz1
  have HZ2 := Lib.hid hz2
  clear h hbut hr ow hy hl hi hz0 hz1 hz2
  go_enter Tryz.func315, Tryz.ntmps315
  go_wp2_with fail
  go_step3
  go_wp2_with fail
  go_step3
  go_wp2_with (refine wpList_load_mid rfl 169 (.tmp 12) rfl b 1 rfl s.rings _ hrg Tryz.underlying169 rfl (by rw [ok.rings]; kernel_rfl) ?_)
  clear hrg ok
  go_loopw [5, 14] (fun l i wr => ∃ j : Nat, i = .int .i64 j ∧ j ≤ 64 ∧ Below w.heap.size w wr ∧ ((j ≤ k ∧ l = .slice none 0 0) ∨ (k < j ∧ ∃ g' c', l = .slice (some ⟨g', 0, none⟩) 1 c' ∧ OneW wr g' c' a q ∧ w.heap.size ≤ g'))) (fun _ i _ => 64 - (intOf i).toNat)
  case atStart => exact ⟨0, rfl, by omega, Below.refl _ _, .inl ⟨by omega, rfl⟩⟩
  case round =>
    obtain ⟨j, rfl, hj, BW, R⟩ := hrel
    by_cases hlt : j < 64
    · by_cases hjk : j = k
      · subst hjk
        obtain rfl : u5 = .slice none 0 0 := by
          rcases R with ⟨_, e⟩ | ⟨h, _⟩
          · exact e
          · omega
        have hix := run_index_ring s.rings j _ HOK.out.rings hlt HR.out wr
        have ow1 := HO.out.kept (BW.block g HO.out.lt)
        obtain ⟨g0, c0, cur, e, _, hg, hc, hm, hs, d0, d1, d2⟩ := one_row ow1.row
        cases e
        have e0 : wr.cell? ⟨g, 0, none⟩ = some (.int .i64 0) := has_cell 0 hg d0
        have e1 : wr.cell? ⟨g, 1, none⟩ = some (.int .i64 a) := has_cell 1 hg d1
        have e2 : wr.cell? ⟨g, 2, none⟩ = some (.int .i64 q) := has_cell 2 hg d2
        have HBW := Lib.hid BW
        have HC := Lib.hid hc
        have D := isDue_c (wr.alloc (.cells #[.int .i64 0, .int .i64 a, .int .i64 q] 422)) 0 a q now y (below_alloc_has (below_has BW HY.out)) HL.out
        clear R BW ow1 hg hm hs d0 d1 d2 hc
        go_wp2_with fail
        refine wp_loop_rounds 2 ?_
        rw [rounds_succ]
        clear hix
        go_wp2_with (first
          | (go_at_call 316; refine D.mono ?_; rintro e w1 ⟨rfl, b1⟩; have x1 := below_has b1 (heap_alloc_new wr (.cells #[.int .i64 0, .int .i64 a, .int .i64 q] 422)); have f0 := has_cell 0 x1 rfl; have f1 := has_cell 1 x1 rfl; have f2 := has_cell 2 x1 rfl
             have B1 := HBW.out.trans ((((Below.refl wr.heap.size wr).alloc (Nat.le_refl _) (.cells #[.int .i64 0, .int .i64 a, .int .i64 q] 422)).trans (b1.mono (by simp))).mono HBW.out.size); have HB1 := Lib.hid B1; clear b1 x1 B1 D e0 e1 e2)
          | (at_builtin; refine wpList_append_own_at _ rfl _ _ 168 rfl w.heap.size 422 i0 _ 3 24 Tryz.underlying168 HI.out HZ0.out HZ1.out HZ2.out rfl (by decide) (.slice none 0 0) 0 [] rfl ⟨rfl, .inl ⟨rfl, rfl⟩⟩ ⟨w1.heap.size, 0, none⟩ 1 1 (oneV 0 a q) rfl rfl (by exact World.news_of_block (heap_alloc_new w1 (.cells #[.int .i64 0, .int .i64 a, .int .i64 q] 422))) (oneV_one _ _ _) ?h63 ?hby ?hbase ?_))
        case h63 => simp only [maxLen]; omega
        case hby => omega
        case hbase => have := HB1.out.size; simp; omega
        intro v8 w8 h8 g8 _ _
        obtain ⟨g8', c8, rfl, hb8, O8⟩ := OneW.of (B := w.heap.size) (a := a) (q := q) h8
        have B8 : Below w.heap.size w w8 := (HB1.out.alloc HB1.out.size _).grown g8 (by have := HB1.out.size; simp; omega) (fun k e => by cases e)
        have HO8 := Lib.hid O8
        have HB8 := Lib.hid B8
        have HBG := Lib.hid hb8
        clear h8 g8 hb8 O8 B8 f0 f1 f2 HB1
        go_wp2_with fail
        rw [rounds_succ]
        go_wp2_with fail
        go_roundw
        case rel => exact ⟨j + 1, by go_num, by omega, HB8.out, .inr ⟨by omega, g8', c8, rfl, HO8.out, HBG.out⟩⟩
        case measure => simp [intOf]; omega
      · obtain ⟨a1, c1, hv⟩ := HB.out j hlt hjk
        have hix := run_index_ring s.rings j _ HOK.out.rings hlt hv wr
        have HBW := Lib.hid BW
        have HRR := Lib.hid R
        clear hv BW R
        go_wp2_with fail
        go_roundw
        case rel => exact ⟨j + 1, by go_num, by omega, HBW.out, by
          rcases HRR.out with ⟨h1, h2⟩ | ⟨h1, h2⟩
          · exact .inl ⟨by omega, h2⟩
          · exact .inr ⟨by omega, h2⟩⟩
        case measure => simp [intOf]; omega
    · obtain rfl : j = 64 := by omega
      obtain ⟨g', c', rfl, ow', hg'⟩ : ∃ g' c', u5 = .slice (some ⟨g', 0, none⟩) 1 c' ∧ OneW wr g' c' a q ∧ w.heap.size ≤ g' := by
        rcases R with ⟨h1, _⟩ | ⟨_, h⟩
        · omega
        · exact h
      have HOW := Lib.hid ow'
      have HBW := Lib.hid BW
      clear R ow' BW
      go_wp2_with fail
      refine (sort_one _ _ _ _).mono ?_; rintro e w' ⟨rfl, rfl⟩
      go_wp2_with fail
      try rw [Exit.noGoto_ret]
      go_ret
      exact ⟨g', c', rfl, HOW.out, hg', HBW.out⟩
set_option maxRecDepth 100000 in
set_option maxHeartbeats 4000000 in
theorem wheelDue_one (w : World) (b : Nat) (s : Wh) (k : Nat) (h : w.heap[b]? = some (whO s)) (ok : WhOk s) (hk : k < 64) (g cap : Nat) (a q now : Int) (hr : s.rings[k]? = some (.slice (some ⟨g, 0, none⟩) 1 cap)) (hbut : But s k) (ow : OneW w g cap a q) (hgb : g ≠ b) (hw : s.wh.getD 0 0 = k + 1) (hn : 0 ≤ s.n ∧ s.n ≤ 1000) (hl : a ≤ now) :
    Calls Tryz.prog 165 #[.pointer (some ⟨b, 0, none⟩), .int .i64 now] w fun e w' => ∃ g1 c1 a' c', e = .returned (.slice (some ⟨g1, 0, none⟩) 1 c1) ∧ w'.cell? ⟨g1, 0, none⟩ = some (.int .i64 0) ∧ w.heap.size ≤ g1 ∧ Upd w b (whO (s.remF k (.slice a' 0 c'))) w' := by
  have B0 := (Below.refl w.heap.size w).alloc (Nat.le_refl _) (.cells #[.int .i64 now] 2)
  have hb0 := below_has B0 h
  have IS := whis_c _ b s hb0
  have OD := order_one _ b s k hb0 ok hk g cap a q now hr hbut (ow.kept (B0.block g ow.lt)) w.heap.size (heap_alloc_new w (.cells #[.int .i64 now] 2)) hl
  rw [World.size_alloc] at OD
  have HH := Lib.hid h
  have HR := Lib.hid hr
  have HO := Lib.hid ow
  have HW := Lib.hid hw
  have HN := Lib.hid hn
  have HOK := Lib.hid ok
  have HB0 := Lib.hid B0
  obtain ⟨i3, hi, hz0, hz1, hz2⟩ := info_parts infoW3
  have HI := Lib.hid hi
  have HZ0 := Lib.hid hz0
  have HZ1 := Lib.hid hz1
  have HZ2 := Lib.hid hz2
  have sz0 : (w.alloc (.cells #[.int .i64 now] 2)).heap.size = w.heap.size + 1 := World.size_alloc ..
  have HSZ := Lib.hid sz0
  clear h hr ow hw hn ok hb0 B0 hi hz0 hz1 hz2 hbut hl sz0
  go_enter Tryz.func165, Tryz.ntmps165
  go_wp2_with (first | (go_at_call 314; refine IS.mono ?_; rintro e w' ⟨rfl, rfl⟩) | (go_at_call 315; refine OD.mono ?_; rintro e w1 ⟨g1, c1, rfl, O1, hg1, b1⟩; have B1 := HB0.out.trans (b1.mono (Nat.le_succ _)); obtain ⟨_, _, cur, e', _, hg, hc, hm, hs, d0, d1, d2⟩ := one_row O1.row; cases e'; have e0 := has_cell 0 hg d0; have e1 := has_cell 1 hg d1; have e2 := has_cell 2 hg d2; have HB1 := Lib.hid B1; clear b1 B1 O1 hg hm hs d0 d1 d2 OD IS))
  refine wp_loop_rounds 2 ?_
  rw [rounds_succ]
  have BX := HB1.out.alloc HB1.out.size (.cells #[.int .i64 0, .int .i64 a, .int .i64 q] 422)
  have RM := wheelRemove_c _ b s k (below_has BX HH.out) HOK.out hk g cap a q HR.out (HO.out.kept (BX.block g HO.out.lt)) HW.out HN.out
  have HBX := Lib.hid BX
  have hbw : b < w.heap.size := has_lt HH.out
  have x0 := heap_alloc_new w1 (.cells #[.int .i64 0, .int .i64 a, .int .i64 q] 422)
  have HX0 := Lib.hid x0
  have hs1 := HB1.out.size
  have HS1 := Lib.hid hs1
  clear BX x0 hs1
  go_wp2_with (first
    | (go_at_call 317; refine RM.mono ?_; rintro e w2 ⟨a', c', rfl, u2⟩; have x2 := u2.other HX0.out (by have := HS1.out; omega); have f0 : w2.cell? ⟨w1.heap.size, 0, none⟩ = some (.int .i64 0) := has_cell 0 x2 rfl; have U2 := Upd.after HBX.out u2; have HU2 := Lib.hid U2; clear u2 x2 U2 RM e0 e1 e2)
    | (at_builtin; refine wpList_append_own_at _ rfl _ _ 22 rfl w.heap.size 3 i3 _ 1 8 Tryz.underlying22 HI.out HZ0.out HZ1.out HZ2.out rfl (by decide) (.slice none 0 0) 0 [] rfl ⟨rfl, .inl ⟨rfl, rfl⟩⟩ ⟨w2.heap.size, 0, none⟩ 1 1 [.int .i64 0] rfl rfl (by exact World.news_of_block (heap_alloc_new w2 (.cells #[.int .i64 0] 3))) (by intro u hu; simp at hu; subst hu; rfl) ?h63 ?hby ?hbase ?_))
  case h63 => simp only [maxLen]; omega
  case hby => omega
  case hbase => have := HU2.out.size; simp; omega
  intro v8 w8 h8 g8 _ _
  have U8 := upd_grown (HU2.out.alloc (.cells #[.int .i64 0] 3)) g8
  obtain ⟨_, (⟨_, e⟩ | ⟨g9, c9, cur9, e, hb9, hg9, hc9, hm9, hs9, ht9⟩)⟩ := h8
  · omega
  · subst e
    have d9 : cur9[0]? = some (.int .i64 0) := by
      have q : ([.int .i64 0] : List Value)[0]? = some (.int .i64 0) := rfl
      have ht : cur9.toList.take (1 * 1) = [.int .i64 0] := ht9
      rw [← ht, List.getElem?_take_of_lt (by omega)] at q
      simpa using q
    have c90 := has_cell 0 hg9 d9
    have HU8 := Lib.hid U8
    have HB9 := Lib.hid hb9
    have HC9 := Lib.hid c90
    clear U8 hb9 c90 d9 ht9 hs9 hm9 hc9 hg9 g8
    go_wp2_with fail
    rw [rounds_succ]
    go_wp2_with fail
    go_ret
    exact ⟨g9, c9, a', c', rfl, HC9.out, HB9.out, HU8.out⟩
end Go.Proofs.YtagmlijhgncklaaGreatDoor
namespace Go.Proofs.YtagmlijhgncklaaGreatDoor.Ker
open Go.RowKit Go.Proofs.YtagmlijhgncklaaGreatDoor

def wtV (x : Wt) : Value := .agg #[.int .i64 x.kind, .int .i64 x.on, .int .i64 x.call, .int .i64 x.mx, .int .u32 x.set, .int .i64 x.owed, .bool x.unw, .bool x.timed, .int .i64 x.clk]
theorem after_c (w : World) (S : KS) {B : KB} (hB : S.B = B) (h : KW w S) (hre : 0 ≤ S.re ∧ S.re ≤ 1000) (hmo : 0 ≤ S.mo ∧ S.mo ≤ 1000) :
    Calls Tryz.prog 407 #[.pointer (some ⟨B.kb, 0, none⟩), .int .i64 1] w fun e w' => e = .returned (.agg #[.bool true, .int .i64 1, .int .i64 (S.mo + 1)]) ∧ Below w.heap.size w w' := by
  subst hB
  have k1 := h.reads ((Below.refl w.heap.size w).alloc (Nat.le_refl _) (.cells #[.bool false, .int .i64 0, .int .i64 0] 465))
  have c27 := kc27 k1 rfl
  have A := Clk.in_c (w.alloc (.cells #[.bool false, .int .i64 0, .int .i64 0] 465)) S.B.cb S.re S.mo 1 1 (x := S.mo + 1) (e := 0) (k1.has 4 rfl) (by omega) (by omega) (by unfold Clk.inF Clk.nowF Clk.inV; simp; omega)
  clear h k1
  go_enter Tryz.func407, Tryz.ntmps407
  go_wp2_with (first | (go_at_call 422; refine A.mono ?_; rintro e w' ⟨rfl, rfl⟩) | (go_at_call 146; refine (must_c _ _).mono ?_; rintro e w' ⟨rfl, rfl⟩))
  refine bodyPost_ret (v := .agg #[.bool true, .int .i64 1, .int .i64 (S.mo + 1)]) ?_ rfl ?_
  · have hload := run_loadVar_mid (P := Tryz.prog) _ _ _ 465 _ _ (has_range (heap_alloc_new w (.cells #[.bool true, .int .i64 1, .int .i64 (S.mo + 1)] 465)) [.bool true, .int .i64 1, .int .i64 (S.mo + 1)] 0 (by simp)) Tryz.underlying465 rfl (by kernel_rfl)
    simp [results, Tryz.f407, hload, asAddr, Act.put]
  · exact ⟨rfl, (Below.refl _ _).alloc (Nat.le_refl _) _⟩
theorem info137 : (Tryz.prog.info? 137).map (·.size) = some 9 := by kernel_rfl
def wtL (x : Wt) : List Value := [.int .i64 x.kind, .int .i64 x.on, .int .i64 x.call, .int .i64 x.mx, .int .u32 x.set, .int .i64 x.owed, .bool x.unw, .bool x.timed, .int .i64 x.clk]
theorem ts_wt (p : Nat) (t : Th) (x : Wt) : spl (thC p t) 23 [.int .i64 x.kind, .int .i64 x.on, .int .i64 x.call, .int .i64 x.mx, .int .u32 x.set, .int .i64 x.owed, .bool x.unw, .bool x.timed, .int .i64 x.clk] = thC p { t with wt := x } := by
  simp only [spl, thC, List.setIfInBounds_toArray, List.set_cons_succ, List.set_cons_zero]
/-- What a thread waits in is stored. -/
theorem store_wt {ops : Array Oper} {rest : List Oper} {op : Oper} {a : Act} {w : World} {Q : Exit → Act → World → Prop} (hgd : op.guard = none) (x y : Operand) (ho : op.op = .store 137 x y)
    (p : Nat) (t : Th) (X : Wt) (hx : a.eval x = .pointer (some ⟨t.b, 23, none⟩)) (hy : a.eval y = wtV X) (hT : w.heap[t.b]? = some (thO p t))
    (h : ∀ W, Upd w t.b (thO p { t with wt := X }) W → wpList Tryz.prog ops Q rest (a.put op.dst undef) W) : wpList Tryz.prog ops Q (op :: rest) a w := by
  refine wpList_store_mid hgd 137 x y ho t.b 23 (wtL X).toArray hx hy ?_ ?_ ?_ ?_
  · exact has_there hT 23 9 (by have hs : (thC p t).size = 33 := rfl; rw [hs]; show 23 + 9 ≤ 33; decide)
  · exact info137
  · rw [Array.all_eq_true_iff_forall_mem]
    intro v hv
    simp [wtL] at hv
    rcases hv with rfl | rfl | rfl | rfl | rfl | rfl | rfl | rfl | rfl <;> rfl
  · refine h _ ?_
    have h' : Obj.cells (spl (thC p t) 23 (wtL X)) 140 (0, 0) = thO p { t with wt := X } := by unfold thO wtL; rw [ts_wt]
    have U := Upd.setCells (fz := (0, 0)) (t := 140) (wtL X) 23 (thC p t) w (Upd.refl hT)
    refine h' ▸ U
/-- A thread is blocked: it waits, and has left its sequences. -/
def KS.blocked (S : KS) (p : Nat) (t : Th) (x : Wt) : KS := { S with th := put S.th p (some { t with wt := x }), L := S.L.set p Hs.no, R := S.R.remF p, st := S.st + 2 }
set_option maxRecDepth 100000 in
set_option maxHeartbeats 1000000 in
theorem block_c (w : World) (S : KS) {B : KB} (hB : S.B = B) (h : KW w S) (P : KP S) (p p0 : Nat) (t : Th) (x : Wt) (hp : p < 16) (ht : S.th p = some t) (hpol : t.pol ≠ 2) (I : InSeq S p p0) :
    Calls Tryz.prog 488 #[.pointer (some ⟨B.kb, 0, none⟩), .pointer (some ⟨t.b, 0, none⟩), wtV x] w fun e w' => e = .returned (.tuple #[]) ∧ KW w' (S.blocked p t x) ∧ Fr S (S.blocked p t x) w w' := by
  subst hB
  have b1 := (Below.refl w.heap.size w).alloc (Nat.le_refl _) (.cells #[.int .i64 x.kind, .int .i64 x.on, .int .i64 x.call, .int .i64 x.mx, .int .u32 x.set, .int .i64 x.owed, .bool x.unw, .bool x.timed, .int .i64 x.clk] 137)
  have k1 := h.reads b1
  have hT := k1.getTh hp ht
  have x0 := heap_alloc_new w (.cells #[.int .i64 x.kind, .int .i64 x.on, .int .i64 x.call, .int .i64 x.mx, .int .u32 x.set, .int .i64 x.owed, .bool x.unw, .bool x.timed, .int .i64 x.clk] 137)
  have fz := has_free hT
  have HP := Lib.hid P
  have HT := Lib.hid ht
  have HI := Lib.hid I
  have HPOL := Lib.hid hpol
  have HK1 := Lib.hid k1
  have HB1 := Lib.hid b1
  have HTT := Lib.hid hT
  clear h P ht I hpol k1 hT fz x0 b1
  go_enter Tryz.func488, Tryz.ntmps488
  unfold wtV
  go_upto_region 2 with (refine store_wt rfl (.tmp 9) (.tmp 7) rfl p t x rfl rfl HTT.out ?_; intro W1 U1; have HU1 := Lib.hid U1; clear U1)
  have q1 := HK1.out.thr (t' := { t with wt := x }) hp HT.out HU1.out rfl rfl rfl
  obtain ⟨S1, hS1⟩ : ∃ S1 : KS, S1 = { S with th := put S.th p (some { t with wt := x }) } := ⟨_, rfl⟩
  rw [← hS1] at q1
  have hB1 : S1.B = S.B := by rw [hS1]
  have ht1 : S1.th p = some { t with wt := x } := by rw [hS1]; exact put_self _ _ _
  have P1 : KP S1 := by
    have q := HP.out.setTh (t' := { t with wt := x }) HT.out rfl (HP.out.can p t HT.out)
    rw [hS1]
    exact { q with }
  have kd : KW W1.drew S1 := q1.1.keeps (Nat.le_refl _) (fun _ _ _ => rfl)
  have hT := q1.1.getTh hp ht1
  have c0 : W1.cell? ⟨t.b, 0, none⟩ = some (.int .i64 p) := tc0 (t := { t with wt := x }) hT
  have c26 := kc26 (B := S.B) q1.1 hB1
  have A := turns_leave W1.drew S.B.tb S.B.rb S.B.J.q S.L S.R S.st p p0 (by have q := kd.tn P1.L P1.R; rw [hS1] at q; exact q) hp HI.out.isIn HI.out.q1 HI.out.q32 HI.out.pr HI.out.pv HI.out.nx HI.out.s0 (by have := HI.out.s1; omega)
  have K1 : ∀ W, Tn W S.B.tb S.B.rb S.B.J.q (S.L.set p Hs.no) (S.R.remF p) (S.st + 2) → Upd2 W1.drew S.B.tb S.B.rb W → KW W (S.blocked p t x) ∧ Fr S1 (S.blocked p t x) W1.drew W := fun W T u => by
    have q := kd.turns (L := S.L.set p Hs.no) (R := S.R.remF p) (st := S.st + 2) (by rw [hB1]; exact T) (by rw [hB1]; exact u)
    rw [hS1] at q ⊢
    exact q
  have hT9 := fun W (hW : KW W (S.blocked p t x)) => hW.getTh (t := { t with wt := x }) hp (put_self _ _ _)
  have HF1 := Lib.hid (((Fr.reads S HB1.out).trans q1.2).drew)
  have HK := Lib.hid K1
  clear hS1 q1 P1 kd hT ht1 hB1 K1
  go_wp2_with fail
  refine still_tail 8 (by kernel_rfl) (by kernel_rfl) ?_
  simp only [List.take_succ_cons, List.take_zero, List.drop_succ_cons, List.drop_zero]
  repeat still_step
  refine wpStill_nil ?_
  go_wp2_with (first
    | (go_at_call 340; refine A.mono ?_; rintro e w2 ⟨rfl, T2, u2⟩; have k2 := HK.out w2 T2 u2; have hT2 := hT9 w2 k2.1; have HK2 := Lib.hid k2; clear T2 u2 A c0 c26)
    | (go_at_call 341; refine (stops_c _ p { t with wt := x } _ hT2 HPOL.out).mono ?_; rintro e w' ⟨rfl, rfl⟩))
  exact bodyPost_end (results_none rfl _ _ _) rfl ⟨rfl, HK2.out.1, HF1.out.trans HK2.out.2⟩
end Go.Proofs.YtagmlijhgncklaaGreatDoor.Ker
namespace Go.Proofs.YtagmlijhgncklaaGreatDoor.Ker
open Go.RowKit Go.Proofs.YtagmlijhgncklaaGreatDoor

/-- A row of one who sleeps. -/
structure Row1 (cur : Array Value) (cap : Nat) (a q : Int) : Prop where
  row : ∀ w g, (World.heap w)[g]? = some (.cells cur 422 (0, 0)) → OneW w g cap a q
theorem Row1.of {w : World} {B g cap : Nat} {cur : Array Value} {a q : Int} (h : w.heap[g]? = some (.cells cur 422 (0, 0))) (ow : w.ownsRow B 422 3 (.slice (some ⟨g, 0, none⟩) 1 cap) 1 (oneV 0 a q)) : Row1 cur cap a q := by
  obtain ⟨h0, (⟨e, _⟩ | ⟨g', cap', cur', e, hb, hg, hc, hm, hs, ht⟩)⟩ := ow
  · cases e
  · cases e
    rw [h] at hg
    cases hg
    exact ⟨fun w2 g2 h2 => ⟨h0, .inr ⟨g2, cap, cur, rfl, Nat.zero_le _, h2, hc, hm, hs, ht⟩⟩⟩
def sleepW : Wt := { Wt.no with kind := 11, call := 62 }
/-- A thread sleeps until k. -/
def KS.slept (S : KS) (p : Nat) (t : Th) (x : Wt) (k g cap : Nat) (cur : Array Value) : KS :=
  ((({ ({ S with th := put S.th p (some { t with wt := x }) } : KS) with W1 := S.W1.setF k (.slice (some ⟨g, 0, none⟩) 1 cap) } : KS).mark 5 g (.cells cur 422 (0, 0))).blocked p { t with wt := x } x)
structure WaW (w W : World) (S1 : KS) (x : Wt) (k n0 : Nat) : Prop where
  kw : KW W S1
  b0 : W.heap[n0]? = some (.cells (wtL x).toArray 137 (0, 0))
  b1 : W.heap[n0 + 1]? = some (.cells #[.bool true, .int .i64 1, .int .i64 k] 465 (0, 0))
  l0 : S1.lo.lab n0 = 0
  l1 : S1.lo.lab (n0 + 1) = 0
set_option maxRecDepth 100000 in
set_option maxHeartbeats 1000000 in
theorem waits_c (w : World) (S : KS) {B : KB} (hB : S.B = B) (h : KW w S) (P : KP S) (k : Nat) (t : Th) (x : Wt) (p0 : Nat) (ht : S.th 0 = some t) (hpol : t.pol ≠ 2) (I : InSeq S 0 p0) (hk : k < 64) (hre : 0 ≤ S.re ∧ S.re ≤ 1000) (hmo : 0 ≤ S.mo ∧ S.mo < k)
    (ok : WhOk S.W1) (hr : S.W1.rings[k]? = some (.slice none 0 0)) (hw : S.W1.wh.getD 0 0 = 0) (hst : 0 ≤ S.W1.st ∧ S.W1.st ≤ 1000) (hn : 0 ≤ S.W1.n ∧ S.W1.n ≤ 1000) :
    Calls Tryz.prog 352 #[.pointer (some ⟨B.kb, 0, none⟩), .pointer (some ⟨t.b, 0, none⟩), wtV x, .agg #[.bool true, .int .i64 1, .int .i64 k]] w fun e w' => ∃ g cap cur, e = .panicked [{ v := .iface 326 (.agg #[]), recovered := false }] ∧ Row1 cur cap k (S.W1.st + 1) ∧ KW w' (S.slept 0 t x k g cap cur) ∧ Fr S (S.slept 0 t x k g cap cur) w w' := by
  subst hB
  obtain ⟨w0, hw0⟩ : ∃ w0, w0 = (w.alloc (.cells (wtL x).toArray 137)).alloc (.cells #[.bool true, .int .i64 1, .int .i64 k] 465) := ⟨_, rfl⟩
  have b0 : Below w.heap.size w w0 := by rw [hw0]; exact ((Below.refl _ _).alloc (Nat.le_refl _) _).alloc (by simp) _
  have x1 : w0.heap[w.heap.size + 1]? = some (.cells #[.bool true, .int .i64 1, .int .i64 k] 465 (0, 0)) := by
    rw [hw0]
    have q := heap_alloc_new (w.alloc (.cells (wtL x).toArray 137)) (.cells #[.bool true, .int .i64 1, .int .i64 k] 465)
    rw [World.size_alloc] at q
    exact q
  have x0 : w0.heap[w.heap.size]? = some (.cells (wtL x).toArray 137 (0, 0)) := by rw [hw0]; exact below_alloc_has (heap_alloc_new w _)
  have k0 := h.reads b0
  have hT := k0.getTh (by decide) ht
  have HW0 := Lib.hid hw0
  have HB0 := Lib.hid b0
  have HX0 := Lib.hid x0
  have HX1 := Lib.hid x1
  have HK0 := Lib.hid k0
  have HTT := Lib.hid hT
  have HH := Lib.hid h
  have HP := Lib.hid P
  have HT := Lib.hid ht
  have HPOL := Lib.hid hpol
  have HI := Lib.hid I
  have HRE := Lib.hid hre
  have HMO := Lib.hid hmo
  have HOK := Lib.hid ok
  have HR := Lib.hid hr
  have HWH := Lib.hid hw
  have HST := Lib.hid hst
  have HN := Lib.hid hn
  obtain ⟨n0, hn0⟩ : ∃ n0, n0 = w.heap.size := ⟨_, rfl⟩
  have HN0 := Lib.hid hn0
  clear h P ht hpol I hre hmo ok hr hw hst hn hw0 b0 x0 x1 k0 hT hn0
  go_enter Tryz.func352, Tryz.ntmps352
  unfold wtV
  go_upto_region 1 with fail
  rw [show (#[.int .i64 x.kind, .int .i64 x.on, .int .i64 x.call, .int .i64 x.mx, .int .u32 x.set, .int .i64 x.owed, .bool x.unw, .bool x.timed, .int .i64 x.clk] : Array Value) = (wtL x).toArray from rfl]
  rw [← HW0.out, ← HN0.out]
  have r0 : w0.rangeAt n0 0 (wtL x) := has_range (by rw [HN0.out]; exact HX0.out) (wtL x) 0 (by simp)
  obtain ⟨S1, hS1⟩ : ∃ S1 : KS, S1 = { S with th := put S.th 0 (some { t with wt := x }) } := ⟨_, rfl⟩
  have K1 : ∀ W, Upd w0 t.b (thO 0 { t with wt := x }) W → WaW w W S1 x k n0 ∧ Fr S S1 w W := fun W u => by
    have q := HK0.out.thr (t' := { t with wt := x }) (by decide) HT.out u rfl rfl rfl
    rw [← hS1] at q
    have l0 : S.lo.lab n0 = 0 := HH.out.fresh _ (by rw [HN0.out]; omega)
    have l1 : S.lo.lab (n0 + 1) = 0 := HH.out.fresh _ (by rw [HN0.out]; omega)
    have ne0 : n0 ≠ t.b := fun e => by have h2 := (HK0.out.ob _ _ _ (obj_th (by decide) HT.out)).2; rw [← e, l0] at h2; omega
    have ne1 : n0 + 1 ≠ t.b := fun e => by have h2 := (HK0.out.ob _ _ _ (obj_th (by decide) HT.out)).2; rw [← e, l1] at h2; omega
    exact ⟨⟨q.1, u.other (by rw [HN0.out]; exact HX0.out) ne0, u.other (by rw [HN0.out]; exact HX1.out) ne1, by rw [hS1]; exact l0, by rw [hS1]; exact l1⟩, (Fr.reads S HB0.out).trans q.2⟩
  have hB1 : S1.B = S.B := by rw [hS1]
  have HB1 := Lib.hid hB1
  have HK1 := Lib.hid K1
  have HS1 := Lib.hid hS1
  clear K1 hB1 hS1
  go_upto_region 3 with (first
    | (refine wpList_load_mid rfl 137 (.tmp 6) rfl n0 0 rfl (wtL x) _ r0 Tryz.underlying137 rfl (by kernel_rfl) ?_)
    | (refine store_wt rfl (.tmp 11) (.tmp 9) rfl 0 t x rfl rfl HTT.out ?_; intro W1 U1; have K := HK1.out W1 U1; have b1 : W1.cell? ⟨n0 + 1, 0, none⟩ = some (.bool true) := has_cell 0 K.1.b1 rfl; have HK := Lib.hid K; clear U1 K r0))
  have c1 : W1.cell? ⟨n0 + 1, 1, none⟩ = some (.int .i64 1) := has_cell 1 HK.out.1.b1 rfl
  have c2 : W1.cell? ⟨n0 + 1, 2, none⟩ = some (.int .i64 k) := has_cell 2 HK.out.1.b1 rfl
  have c27 := kc27 (B := S.B) HK.out.1.kw HB1.out
  have kd : KW W1.drew S1 := HK.out.1.kw.keeps (Nat.le_refl _) (fun _ _ _ => rfl)
  have DU := Clk.due_c W1.drew S.B.cb S.re S.mo 1 k (x := false) (by have q := kd.has 4 rfl; rw [HB1.out, HS1.out] at q; exact q) (by have := HRE.out; omega) (by have := HMO.out; omega) (by
    have := HMO.out
    unfold Clk.dueF Clk.leftF Clk.nowF Clk.leftV
    simp
    refine ⟨by omega, ?_⟩
    rw [if_pos (by omega)]
    omega)
  refine still_tail 8 (by kernel_rfl) (by kernel_rfl) ?_
  simp only [List.take_succ_cons, List.take_zero, List.drop_succ_cons, List.drop_zero]
  repeat still_step
  refine wpStill_nil ?_
  go_upto_region 9 with (go_at_call 426; refine DU.mono ?_; rintro e w' ⟨rfl, rfl⟩)
  refine world_wp (fun W => WaW w W S1 x k n0 ∧ Fr S S1 w W) ⟨⟨kd, HK.out.1.b0, HK.out.1.b1, HK.out.1.l0, HK.out.1.l1⟩, HK.out.2.drew⟩ ?_
  clear c1 c2 c27 b1 kd DU HK
  rintro W2 ⟨K2, F2⟩
  have c1 : W2.cell? ⟨n0 + 1, 1, none⟩ = some (.int .i64 1) := has_cell 1 K2.b1 rfl
  have c2 : W2.cell? ⟨n0 + 1, 2, none⟩ = some (.int .i64 k) := has_cell 2 K2.b1 rfl
  have c29 : W2.cell? ⟨S.B.kb, 29, none⟩ = some (.pointer (some ⟨S.B.w1, 0, none⟩)) := by rw [← HB1.out]; exact has_cell 29 (K2.kw.has 0 rfl) rfl
  have ht1 : S1.th 0 = some { t with wt := x } := by rw [HS1.out]; exact put_self S.th 0 _
  have cp : W2.cell? ⟨t.b, 0, none⟩ = some (.int .i64 0) := tc0 (t := { t with wt := x }) (K2.kw.getTh (by decide) ht1)
  have kd : KW W2.drew S1 := K2.kw.keeps (Nat.le_refl _) (fun _ _ _ => rfl)
  have hw1 : W2.drew.heap[S.B.w1]? = some (whO S.W1) := by have q := kd.has 6 rfl; rw [HB1.out, HS1.out] at q; exact q
  have ST := wheelSet_c W2.drew S.B.w1 S.W1 k hw1 HOK.out hk HR.out HWH.out HST.out HN.out
  have HKD := Lib.hid kd
  have HFD := Lib.hid F2.drew
  have HK2 := Lib.hid K2
  have HT1 := Lib.hid ht1
  have mn : min (k : Int) 1099511627776 = k := by omega
  clear K2 F2 kd hw1 ht1
  refine still_tail 14 (by kernel_rfl) (by kernel_rfl) ?_
  simp only [List.take_succ_cons, List.take_zero, List.drop_succ_cons, List.drop_zero]
  repeat still_step
  refine wpStill_nil ?_
  go_upto_region 10 with (go_at_call 309; refine ST.mono ?_; rintro e w3 ⟨g, cap, cur, rfl, u3, hg, hg3, ow⟩; have H3 := Lib.hid (And.intro u3 (And.intro hg (And.intro hg3 ow))); clear u3 hg hg3 ow ST c1 c2 c29 cp)
  obtain ⟨u3, hg, hg3, ow⟩ := H3.out
  have q3 := HKD.out.wheel1 (W := S.W1.setF k (.slice (some ⟨g, 0, none⟩) 1 cap)) (by rw [HB1.out]; exact u3)
  obtain ⟨S2, hS2⟩ : ∃ S2 : KS, S2 = { S1 with W1 := S.W1.setF k (.slice (some ⟨g, 0, none⟩) 1 cap) } := ⟨_, rfl⟩
  rw [← hS2] at q3
  have lg : S2.lo.lab g = 0 := by rw [hS2]; exact HKD.out.fresh g hg
  have hwg : w.heap.size ≤ g := Nat.le_trans HFD.out.size hg
  have km := q3.1.mark (HFD.out.trans q3.2) 5 hg3 lg hwg
  obtain ⟨S3, hS3⟩ : ∃ S3 : KS, S3 = S2.mark 5 g (.cells cur 422 (0, 0)) := ⟨_, rfl⟩
  rw [← hS3] at km
  have hB3 : S3.B = S.B := by rw [hS3, hS2]; exact HB1.out
  have ht3 : S3.th 0 = some { t with wt := x } := by rw [hS3, hS2]; exact HT1.out
  have P1 : KP S1 := by
    have q := HP.out.setTh (t' := { t with wt := x }) HT.out rfl (HP.out.can 0 t HT.out)
    rw [HS1.out]
    exact { q with }
  have P3 : KP S3 := by rw [hS3, hS2]; exact { P1 with W1 := Wh.setF_ok HOK.out _ _ }
  have I3 : InSeq S3 0 p0 := by rw [hS3, hS2, HS1.out]; exact ⟨HI.out.isIn, HI.out.q1, HI.out.q32, HI.out.pr, HI.out.pv, HI.out.nx, HI.out.s0, HI.out.s1⟩
  have BLK := block_c w3 S3 hB3 km.1 P3 0 p0 { t with wt := x } x (by decide) ht3 HPOL.out I3
  have HE : S.slept 0 t x k g cap cur = S3.blocked 0 { t with wt := x } x := by rw [hS3, hS2, HS1.out]; rfl
  have nw : n0 ≠ S.B.w1 := fun e => by
    have h2 := (HKD.out.ob 6 _ _ rfl).2
    rw [HB1.out, ← e, HK2.out.l0] at h2
    omega
  have r3 : w3.rangeAt n0 0 (wtL x) := has_range (u3.other (w := W2.drew) HK2.out.b0 nw) (wtL x) 0 (by simp)
  have HE := Lib.hid HE
  have HF3 := Lib.hid km.2
  have HR1 := Lib.hid (Row1.of hg3 ow)
  clear u3 hg hg3 ow q3 hS2 lg hwg km hS3 hB3 ht3 P1 P3 I3 nw
  go_wp2_with (first
    | (refine wpList_load_mid rfl 137 (.tmp 6) rfl n0 0 rfl (wtL x) _ r3 Tryz.underlying137 rfl (by kernel_rfl) ?_)
    | (go_at_call 488; refine BLK.mono ?_; rintro e w4 ⟨rfl, k4, f4⟩))
  refine ⟨rfl, g, cap, cur, rfl, HR1.out, ?_⟩
  rw [HE.out]
  exact ⟨k4, HF3.out.trans f4⟩
end Go.Proofs.YtagmlijhgncklaaGreatDoor.Ker
namespace Go.Proofs.YtagmlijhgncklaaGreatDoor.Ker
open Go.RowKit Go.Proofs.YtagmlijhgncklaaGreatDoor

structure SlW (w W : World) (S : KS) (n0 : Nat) (a : Int) : Prop where
  below : Below w.heap.size w W
  b0 : W.heap[n0]? = some (.cells #[.bool true, .int .i64 1, .int .i64 a] 465 (0, 0))
  n : w.heap.size ≤ n0
set_option maxRecDepth 100000 in
set_option maxHeartbeats 1000000 in
theorem callSleep_c (w : World) (S : KS) {B : KB} (hB : S.B = B) (h : KW w S) (P : KP S) (k : Nat) (t : Th) (p0 : Nat) (ht : S.th 0 = some t) (h2 : t.r 2 = 1) (h3 : t.r 3 = 0) (h4 : t.r 4 = 1) (hpol : t.pol ≠ 2) (I : InSeq S 0 p0) (hk : k < 64) (hre : 0 ≤ S.re ∧ S.re ≤ 1000) (hmo : 0 ≤ S.mo) (hmk : S.mo + 1 = k)
    (ok : WhOk S.W1) (hr : S.W1.rings[k]? = some (.slice none 0 0)) (hw : S.W1.wh.getD 0 0 = 0) (hst : 0 ≤ S.W1.st ∧ S.W1.st ≤ 1000) (hn : 0 ≤ S.W1.n ∧ S.W1.n ≤ 1000) :
    Calls Tryz.prog 269 #[.pointer (some ⟨B.kb, 0, none⟩), .pointer (some ⟨t.b, 0, none⟩)] w fun e w' => ∃ g cap cur, e = .panicked [{ v := .iface 326 (.agg #[]), recovered := false }] ∧ Row1 cur cap k (S.W1.st + 1) ∧ KW w' (S.slept 0 t sleepW k g cap cur) ∧ Fr S (S.slept 0 t sleepW k g cap cur) w w' := by
  subst hB
  have hT := h.getTh (by decide) ht
  have c6 := tc6 hT
  have c7 := tc7 hT
  have c8 := tc8 hT
  rw [h2] at c6
  rw [h3] at c7
  rw [h4] at c8
  have AF := fun W (b : Below w.heap.size w W) => after_c W S rfl (h.reads b) hre ⟨hmo, by omega⟩
  rw [hmk] at AF
  have WT := fun W (b : Below w.heap.size w W) => waits_c W S rfl (h.reads b) P k t sleepW p0 ht hpol I hk hre ⟨hmo, by omega⟩ ok hr hw hst hn
  have DU := fun W (b : Below w.heap.size w W) => Clk.due_c W S.B.cb S.re S.mo 1 k (x := false) ((h.reads b).has 4 rfl) (by omega) (by omega) (by
    unfold Clk.dueF Clk.leftF Clk.nowF Clk.leftV
    simp
    refine ⟨by omega, ?_⟩
    rw [if_pos (by omega)]
    omega)
  have HK := Lib.hid h
  have H2 := Lib.hid h2
  have H3 := Lib.hid h3
  have H4 := Lib.hid h4
  have HAF := Lib.hid AF
  have HWT := Lib.hid WT
  have HDU := Lib.hid DU
  have HT := Lib.hid ht
  have hTK := fun W (b : Below w.heap.size w W) => (h.reads b).getTh (by decide) ht
  have HTK := Lib.hid hTK
  clear h P ht h2 h3 h4 hpol I hre hmo hmk ok hr hw hst hn AF WT DU hTK hT
  go_enter Tryz.func269, Tryz.ntmps269
  go_upto_region 4 with (first
    | (go_at_call 350; refine (in_c _ _ _ _ (by decide) (by decide)).mono ?_; rintro e w' ⟨rfl, rfl⟩)
    | (go_at_call 146; refine (must_c _ _).mono ?_; rintro e w' ⟨rfl, rfl⟩))
  have d6 : ∀ o, (w.alloc o).cell? ⟨t.b, 6, none⟩ = some (.int .i64 1) := fun o => by have q := tc6 (below_alloc_has (o := o) (HTK.out w (Below.refl _ _))); rw [H2.out] at q; exact q
  have d8 : ∀ o, (w.alloc o).cell? ⟨t.b, 8, none⟩ = some (.int .i64 1) := fun o => by have q := tc8 (below_alloc_has (o := o) (HTK.out w (Below.refl _ _))); rw [H4.out] at q; exact q
  go_region_held3 (fun W' => W'.cell? ⟨t.b, 6, none⟩ = some (.int .i64 1) ∧ W'.cell? ⟨t.b, 8, none⟩ = some (.int .i64 1)) (first | exact ⟨c6, c8⟩ | exact ⟨d6 _, d8 _⟩) (fail)
  go_upto_region 5 with fail
  have S0 : SlW w (w.alloc (.cells #[.bool true, .int .i64 1, .int .i64 1] 465)).drew S w.heap.size 1 := ⟨((Below.refl w.heap.size w).alloc (Nat.le_refl _) _).drew, heap_alloc_new w _, Nat.le_refl _⟩
  obtain ⟨n0, hn0⟩ : ∃ n0, n0 = w.heap.size := ⟨_, rfl⟩
  rw [← hn0] at S0 ⊢
  refine world_wp (fun W => SlW w W S n0 1) S0 ?_
  clear S0 hn0 d6 d8 c6 c7 c8
  intro W1 X1
  have hT1 := HTK.out W1 X1.below
  have c7 := tc7 hT1
  have c8 := tc8 hT1
  rw [H3.out] at c7
  rw [H4.out] at c8
  have AF := HAF.out W1 X1.below
  have HX1 := Lib.hid X1
  clear X1 hT1
  go_upto_region 7 with (go_at_call 407; refine AF.mono ?_; rintro e W2 ⟨rfl, b2⟩; have B2 := HX1.out.below.trans (b2.mono HX1.out.below.size); have x2 := below_has b2 HX1.out.b0; have e0 : W2.cell? ⟨n0, 0, none⟩ = some (.bool true) := has_cell 0 x2 rfl; have e1 : W2.cell? ⟨n0, 1, none⟩ = some (.int .i64 1) := has_cell 1 x2 rfl; have e2 : W2.cell? ⟨n0, 2, none⟩ = some (.int .i64 1) := has_cell 2 x2 rfl; have fz := has_free x2; have HB2 := Lib.hid B2; have HX2 := Lib.hid x2; clear b2 B2 x2 AF)
  have S2 : SlW w (((W2.setCell ⟨n0, 0, none⟩ (.bool true)).setCell ⟨n0, 1, none⟩ (.int .i64 1)).setCell ⟨n0, 2, none⟩ (.int .i64 k)) S n0 k := by
    have U := (((Upd.refl HX2.out).setCell 0 (.bool true)).setCell 1 (.int .i64 1)).setCell 2 (.int .i64 k)
    exact ⟨HB2.out.trans (U.below HX1.out.n HB2.out.size), U.1, HX1.out.n⟩
  refine world_wp (fun W => SlW w W S n0 k) S2 ?_
  clear S2 e0 e1 e2 fz HB2 HX2 HX1 c7 c8
  intro W3 X3
  have c27 := kc27 (B := S.B) (HK.out.reads X3.below) rfl
  have e1 : W3.cell? ⟨n0, 1, none⟩ = some (.int .i64 1) := has_cell 1 X3.b0 rfl
  have e2 : W3.cell? ⟨n0, 2, none⟩ = some (.int .i64 k) := has_cell 2 X3.b0 rfl
  have DU := HDU.out W3.drew X3.below.drew
  have HX3 := Lib.hid X3
  clear X3
  refine still_tail 8 (by kernel_rfl) (by kernel_rfl) ?_
  simp only [List.take_succ_cons, List.take_zero, List.drop_succ_cons, List.drop_zero]
  repeat still_step
  refine wpStill_nil ?_
  go_upto_region 9 with (go_at_call 426; refine DU.mono ?_; rintro e w' ⟨rfl, rfl⟩)
  refine world_wp (fun W => SlW w W S n0 k) ⟨HX3.out.below.drew, HX3.out.b0, HX3.out.n⟩ ?_
  clear c27 e1 e2 DU HX3
  intro W4 X4
  have e0 : W4.cell? ⟨n0, 0, none⟩ = some (.bool true) := has_cell 0 X4.b0 rfl
  have e1 : W4.cell? ⟨n0, 1, none⟩ = some (.int .i64 1) := has_cell 1 X4.b0 rfl
  have e2 : W4.cell? ⟨n0, 2, none⟩ = some (.int .i64 k) := has_cell 2 X4.b0 rfl
  have WT := HWT.out W4 X4.below
  have HX4 := Lib.hid X4
  clear X4
  go_wp2_with (go_at_call 352; refine Calls.mono (show Calls Tryz.prog 352 _ W4 _ from WT) ?_; rintro e w5 ⟨g, cap, cur, rfl, r5, k5, f5⟩)
  exact ⟨rfl, g, cap, cur, rfl, r5, k5, (Fr.reads S HX4.out.below).trans f5⟩
end Go.Proofs.YtagmlijhgncklaaGreatDoor.Ker
namespace Go.Proofs.YtagmlijhgncklaaGreatDoor.Ker
open Go.RowKit Go.Proofs.YtagmlijhgncklaaGreatDoor

theorem sleep_cells {W : World} {p : Nat} {t : Th} (h : W.heap[t.b]? = some (thO p t)) (hw : t.wt = sleepW) : W.cell? ⟨t.b, 0, none⟩ = some (.int .i64 p) ∧ W.cell? ⟨t.b, 23, none⟩ = some (.int .i64 11) ∧ W.cell? ⟨t.b, 24, none⟩ = some (.int .i64 0) ∧ W.cell? ⟨t.b, 25, none⟩ = some (.int .i64 62) ∧ W.cell? ⟨t.b, 26, none⟩ = some (.int .i64 0) ∧ W.cell? ⟨t.b, 27, none⟩ = some (.int .u32 0) ∧ W.cell? ⟨t.b, 28, none⟩ = some (.int .i64 0) ∧ W.cell? ⟨t.b, 29, none⟩ = some (.bool false) ∧ W.cell? ⟨t.b, 30, none⟩ = some (.bool false) ∧ W.cell? ⟨t.b, 31, none⟩ = some (.int .i64 0) := by
  have e : thO p t = thO p { t with wt := sleepW } := by rw [← hw]
  rw [e] at h
  exact ⟨has_cell 0 h rfl, has_cell 23 h rfl, has_cell 24 h rfl, has_cell 25 h rfl, has_cell 26 h rfl, has_cell 27 h rfl, has_cell 28 h rfl, has_cell 29 h rfl, has_cell 30 h rfl, has_cell 31 h rfl⟩
set_option maxRecDepth 100000 in
set_option maxHeartbeats 1000000 in
theorem leave_c (w : World) (p : Nat) (t : Th) (k : Nat) (hT : w.heap[t.b]? = some (thO p t)) (hw : t.wt = sleepW) :
    Calls Tryz.prog 312 #[.pointer (some ⟨k, 0, none⟩), .pointer (some ⟨t.b, 0, none⟩)] w fun e w' => e = .returned (.tuple #[]) ∧ Below w.heap.size w w' := by
  obtain ⟨c0, c1, c2, c3, c4, c5, c6, c7, c8, c9⟩ := sleep_cells hT hw
  have F : ∀ o, _ := fun o => sleep_cells (below_alloc_has (o := o) hT) hw
  clear hT hw
  go_enter Tryz.func312, Tryz.ntmps312
  go_upto_region 0 with fail
  go_region_held3 (fun W => W.cell? ⟨t.b, 0, none⟩ = some (.int .i64 p) ∧ W.cell? ⟨t.b, 23, none⟩ = some (.int .i64 11) ∧ W.cell? ⟨t.b, 24, none⟩ = some (.int .i64 0) ∧ W.cell? ⟨t.b, 25, none⟩ = some (.int .i64 62) ∧ W.cell? ⟨t.b, 26, none⟩ = some (.int .i64 0) ∧ W.cell? ⟨t.b, 27, none⟩ = some (.int .u32 0) ∧ W.cell? ⟨t.b, 28, none⟩ = some (.int .i64 0) ∧ W.cell? ⟨t.b, 29, none⟩ = some (.bool false) ∧ W.cell? ⟨t.b, 30, none⟩ = some (.bool false) ∧ W.cell? ⟨t.b, 31, none⟩ = some (.int .i64 0)) (first | exact ⟨c0, c1, c2, c3, c4, c5, c6, c7, c8, c9⟩ | exact F _) (fail)
  go_wp2_with fail
  exact bodyPost_end (results_none rfl _ _ _) rfl ⟨rfl, ((Below.refl _ _).alloc (Nat.le_refl _) _).drew⟩
/-- The kernel behind the waking of the thread 0. -/
def KS.unbl (S : KS) (t : Th) (pr : Nat) : KS := { S with th := put S.th 0 (some { t with wt := Wt.no }), L := S.L.set 0 ⟨true, decide (t.pol = 1), pr, S.B.J.q⟩, R := S.R.tailF pr 0, st := S.st + 4 }
structure UnW (w W : World) (S S1 : KS) (n0 : Nat) : Prop where
  kw : KW W S1
  fr : Fr S S1 w W
  b0 : Out W S1 n0 (.cells (wtL Wt.no).toArray 137 (0, 0))
  b1 : Out W S1 (n0 + 1) (.cells (wtL sleepW).toArray 137 (0, 0))
set_option maxRecDepth 100000 in
set_option maxHeartbeats 2000000 in
theorem unblock_c (w : World) (S : KS) {B : KB} (hB : S.B = B) (h : KW w S) (P : KP S) (t : Th) (pr : Nat) (ht : S.th 0 = some t) (hw : t.wt = sleepW) (hpol : t.pol ≠ 2) (he : t.eff = pr) (h1 : 1 ≤ pr) (h32 : pr < 32) (hin : (S.L.getD 0 Hs.no).isIn = false) (hz : S.R.pr.getD 0 0 = 0) (hl : Lk (S.R.tl.getD pr 0)) (hs0 : 0 ≤ S.st) (hs1 : S.st ≤ 800000000) (q0 : S.W0.wh.getD 0 0 = 0) (q1 : S.W1.wh.getD 0 0 = 0) :
    Calls Tryz.prog 320 #[.pointer (some ⟨B.kb, 0, none⟩), .pointer (some ⟨t.b, 0, none⟩)] w fun e w' => e = .returned (wtV sleepW) ∧ KW w' (S.unbl t pr) ∧ Fr S (S.unbl t pr) w w' := by
  subst hB
  obtain ⟨w0, hw0⟩ : ∃ w0, w0 = (w.alloc (.cells #[.int .i64 0, .int .i64 0, .int .i64 0, .int .i64 0, .int .u32 0, .int .i64 0, .bool false, .bool false, .int .i64 0] 137)).alloc (.cells #[.int .i64 11, .int .i64 0, .int .i64 62, .int .i64 0, .int .u32 0, .int .i64 0, .bool false, .bool false, .int .i64 0] 137) := ⟨_, rfl⟩
  have b0 : Below w.heap.size w w0 := by rw [hw0]; exact ((Below.refl _ _).alloc (Nat.le_refl _) _).alloc (by simp) _
  have x1 : w0.heap[w.heap.size + 1]? = some (.cells (wtL sleepW).toArray 137 (0, 0)) := by
    rw [hw0]
    have q := heap_alloc_new (w.alloc (.cells #[.int .i64 0, .int .i64 0, .int .i64 0, .int .i64 0, .int .u32 0, .int .i64 0, .bool false, .bool false, .int .i64 0] 137)) (.cells #[.int .i64 11, .int .i64 0, .int .i64 62, .int .i64 0, .int .u32 0, .int .i64 0, .bool false, .bool false, .int .i64 0] 137)
    rw [World.size_alloc] at q
    exact q
  have x0 : w0.heap[w.heap.size]? = some (.cells (wtL Wt.no).toArray 137 (0, 0)) := by rw [hw0]; exact below_alloc_has (heap_alloc_new w _)
  have kA := h.reads ((Below.refl w.heap.size w).alloc (Nat.le_refl _) (.cells #[.int .i64 0, .int .i64 0, .int .i64 0, .int .i64 0, .int .u32 0, .int .i64 0, .bool false, .bool false, .int .i64 0] 137))
  obtain ⟨c0, c1, c2, c3, c4, c5, c6, c7, c8, c9⟩ := sleep_cells (kA.getTh (by decide) ht) hw
  have k0 := h.reads b0
  have hT := k0.getTh (by decide) ht
  have HW0 := Lib.hid hw0
  have HTT := Lib.hid hT
  obtain ⟨S1, hS1⟩ : ∃ S1 : KS, S1 = { S with th := put S.th 0 (some { t with wt := Wt.no }) } := ⟨_, rfl⟩
  obtain ⟨n0, hn0⟩ : ∃ n0, n0 = w.heap.size := ⟨_, rfl⟩
  have K1 : ∀ W, Upd w0 t.b (thO 0 { t with wt := Wt.no }) W → UnW w W S S1 n0 := fun W u => by
    have q := k0.thr (t' := { t with wt := Wt.no }) (by decide) ht u rfl rfl rfl
    rw [← hS1] at q
    have y0 : Out w0 S n0 (.cells (wtL Wt.no).toArray 137 (0, 0)) := ⟨by rw [hn0]; exact x0, h.fresh _ (by omega)⟩
    have y1 : Out w0 S (n0 + 1) (.cells (wtL sleepW).toArray 137 (0, 0)) := ⟨by rw [hn0]; exact x1, h.fresh _ (by omega)⟩
    exact ⟨q.1, (Fr.reads S b0).trans q.2, y0.fr q.2, y1.fr q.2⟩
  have ht1 : S1.th 0 = some { t with wt := Wt.no } := by rw [hS1]; exact put_self S.th 0 _
  have P1 : KP S1 := by
    have q := P.setTh (t' := { t with wt := Wt.no }) ht rfl (P.can 0 t ht)
    rw [hS1]
    exact { q with }
  have hB1 : S1.B = S.B := by rw [hS1]
  have RD := fun W (hW : KW W S1) => ready_c W S1 hB1 hW P1 0 pr { t with wt := Wt.no } (by decide) ht1 hpol he h1 h32 (by rw [hS1]; exact hin) (by rw [hS1]; exact hz) (by rw [hS1]; exact hl) (by rw [hS1]; exact hs0) (by rw [hS1]; exact hs1)
  have CA0 := fun W (hW : KW W S1) => cancel_not W S.B.w0 S.W0 (by have q := hW.has 5 rfl; rw [hB1, hS1] at q; exact q) P.W0 q0
  have CA1 := fun W (hW : KW W S1) => cancel_not W S.B.w1 S.W1 (by have q := hW.has 6 rfl; rw [hB1, hS1] at q; exact q) P.W1 q1
  have HE : S.unbl t pr = { S1 with L := S1.L.set 0 ⟨true, decide (({ t with wt := Wt.no } : Th).pol = 1), pr, S1.B.J.q⟩, R := S1.R.tailF pr 0, st := S1.st + 4 } := by rw [hS1]; rfl
  have HE := Lib.hid HE
  have HK1 := Lib.hid K1
  have HRD := Lib.hid RD
  have HCA0 := Lib.hid CA0
  have HCA1 := Lib.hid CA1
  have HB1 := Lib.hid hB1
  have HT1 := Lib.hid ht1
  have HN := Lib.hid hn0
  have ix0 : ∀ W, (Instr.index 76 (.agg #[.pointer (some ⟨S.B.w0, 0, none⟩), .pointer (some ⟨S.B.w1, 0, none⟩)]) (.int .i64 0)).run Tryz.prog W = .ok (.pointer (some ⟨S.B.w0, 0, none⟩)) W := fun _ => by kernel_rfl
  have ix1 : ∀ W, (Instr.index 76 (.agg #[.pointer (some ⟨S.B.w0, 0, none⟩), .pointer (some ⟨S.B.w1, 0, none⟩)]) (.int .i64 1)).run Tryz.prog W = .ok (.pointer (some ⟨S.B.w1, 0, none⟩)) W := fun _ => by kernel_rfl
  clear h P ht hw hpol he h1 h32 hin hz hl hs0 hs1 q0 q1 hw0 b0 x1 x0 kA k0 hT hS1 K1 ht1 P1 RD CA0 CA1 hB1 hn0
  go_enter Tryz.func320, Tryz.ntmps320
  go_wp2_with (refine store_wt rfl (.tmp 15) (.tmp 13) rfl 0 t Wt.no rfl rfl (by rw [← HW0.out]; exact HTT.out) ?_; intro W1 U1; have K := HK1.out W1 (by rw [HW0.out]; exact U1); have c28 := kc28 (B := S.B) K.kw HB1.out; have c29 := kc29 (B := S.B) K.kw HB1.out; have cp := tc0 (t := { t with wt := Wt.no }) (K.kw.getTh (by decide) HT1.out); have HK := Lib.hid K; clear U1 K c0 c1 c2 c3 c4 c5 c6 c7 c8 c9)
  rw [← HN.out]
  refine wp_loop_rounds 3 ?_
  rw [rounds_succ]
  go_wp2_with (go_at_call 469; refine (HCA0.out _ HK.out.kw).mono ?_; rintro e w' ⟨⟨z0, rfl⟩, rfl⟩)
  rw [rounds_succ]
  go_wp2_with (go_at_call 469; refine (HCA1.out _ HK.out.kw).mono ?_; rintro e w' ⟨⟨z1, rfl⟩, rfl⟩)
  rw [rounds_succ]
  clear ix0 ix1 c28 c29 cp
  go_wp2_with (first
    | (go_at_call 68; refine (HRD.out _ HK.out.kw).mono ?_; rintro e w2 ⟨rfl, k2, f2⟩; have o0 := HK.out.b0.fr f2; have o1 := HK.out.b1.fr f2; have r1 : w2.rangeAt (n0 + 1) 0 (wtL sleepW) := has_range o1.1 (wtL sleepW) 0 (by simp); have HQ := Lib.hid (And.intro k2 (HK.out.fr.trans f2)); have HO := Lib.hid o0; clear k2 f2 o0 o1)
    | (refine wpList_load_mid rfl 137 (.tmp 5) rfl (n0 + 1) 0 rfl (wtL sleepW) _ r1 Tryz.underlying137 rfl (by kernel_rfl) ?_)
    | (refine store_whole rfl 137 (.tmp 4) (.tmp 33) rfl n0 _ (wtL sleepW) rfl rfl (n := 9) rfl (by intro v hv; simp [wtL] at hv; rcases hv with rfl | rfl | rfl | rfl | rfl | rfl | rfl | rfl | rfl <;> rfl) HO.out.1 rfl info137 ?_; intro w3 U3; have HU3 := Lib.hid U3; clear U3))
  have hload := run_loadVar_mid (P := Tryz.prog) _ _ _ 137 _ _ (has_range HU3.out.1 (wtL sleepW) 0 (by simp)) Tryz.underlying137 rfl (by kernel_rfl)
  refine bodyPost_ret (v := wtV sleepW) ?_ rfl ?_
  · simp [results, Tryz.f320, hload, asAddr, Act.put]
    rfl
  · refine ⟨rfl, ?_⟩
    rw [HE.out]
    have q := HQ.out.1.keeps (w' := w3) HU3.out.size (fun b hb hl => HU3.out.2.block b hb (by intro e; cases e; exact hl HO.out.2))
    have f : Fr S { S1 with L := S1.L.set 0 ⟨true, decide (({ t with wt := Wt.no } : Th).pol = 1), pr, S1.B.J.q⟩, R := S1.R.tailF pr 0, st := S1.st + 4 } w w3 := ⟨HU3.out.2.os.trans HQ.out.2.os, HU3.out.2.tape.trans HQ.out.2.tape, HU3.out.2.output.trans HQ.out.2.output, Nat.le_trans HQ.out.2.size HU3.out.size, fun b hb hl => (HU3.out.2.block b (Nat.lt_of_lt_of_le hb HQ.out.2.size) (by intro e; cases e; have := HN.out; omega)).trans (HQ.out.2.block b hb hl), HQ.out.2.lab⟩
    exact ⟨q, f⟩
end Go.Proofs.YtagmlijhgncklaaGreatDoor.Ker
namespace Go.Proofs.YtagmlijhgncklaaGreatDoor.Ker
open Go.RowKit Go.Proofs.YtagmlijhgncklaaGreatDoor

/-- The kernel behind the waking of the thread 0, which is answered 0. -/
def KS.woken (S : KS) (t : Th) (pr : Nat) (v : Value) : KS := (S.unbl t pr).ans 0 (({ t with wt := Wt.no } : Th).ans 0 0) v
/-- What the waking of the thread 0 asks for. -/
structure CanWake (S : KS) (t : Th) (pr : Nat) : Prop where
  th : S.th 0 = some t
  wt : t.wt = sleepW
  pol : t.pol ≠ 2
  eff : t.eff = pr
  h1 : 1 ≤ pr
  h32 : pr < 32
  isIn : (S.L.getD 0 Hs.no).isIn = false
  z : S.R.pr.getD 0 0 = 0
  l : Lk (S.R.tl.getD pr 0)
  s0 : 0 ≤ S.st
  s1 : S.st ≤ 800000000
  q0 : S.W0.wh.getD 0 0 = 0
  q1 : S.W1.wh.getD 0 0 = 0
  an : S.lo.an ≤ 100000
set_option maxRecDepth 100000 in
set_option maxHeartbeats 1000000 in
theorem wake_c (w : World) (S : KS) {B : KB} (hB : S.B = B) (h : KW w S) (P : KP S) (t : Th) (pr : Nat) (C : CanWake S t pr) :
    Calls Tryz.prog 168 #[.pointer (some ⟨B.kb, 0, none⟩), .pointer (some ⟨t.b, 0, none⟩), .int .i64 0, .int .i64 0] w fun e w' => ∃ v, e = .returned (.tuple #[]) ∧ KW w' (S.woken t pr v) ∧ Fr S (S.woken t pr v) w w' := by
  subst hB
  have U := unblock_c w S rfl h P t pr C.th C.wt C.pol C.eff C.h1 C.h32 C.isIn C.z C.l C.s0 C.s1 C.q0 C.q1
  have AN := fun W (hW : KW W (S.unbl t pr)) => answer_c W (S.unbl t pr) (B := S.B) rfl hW 0 { t with wt := Wt.no } (by decide) (put_self S.th 0 _) 62 0 0 C.an
  have HAN := Lib.hid AN
  clear h P C AN
  go_enter Tryz.func168, Tryz.ntmps168
  go_wp2_with (first
    | (go_at_call 320; refine U.mono ?_; rintro e w1 ⟨rfl, k1, f1⟩; unfold wtV; have ka := k1.reads ((Below.refl w1.heap.size w1).alloc (Nat.le_refl _) (.cells #[.int .i64 11, .int .i64 0, .int .i64 62, .int .i64 0, .int .u32 0, .int .i64 0, .bool false, .bool false, .int .i64 0] 137)); have fa := f1.trans (Fr.reads _ ((Below.refl w1.heap.size w1).alloc (Nat.le_refl _) (.cells #[.int .i64 11, .int .i64 0, .int .i64 62, .int .i64 0, .int .u32 0, .int .i64 0, .bool false, .bool false, .int .i64 0] 137))); have HKA := Lib.hid ka; have HFA := Lib.hid fa; clear k1 f1 ka fa U)
    | (go_at_call 144; refine (HAN.out _ HKA.out).mono ?_; rintro e w2 ⟨v, rfl, k2, f2⟩))
  exact bodyPost_end (results_none rfl _ _ _) rfl ⟨v, rfl, k2, HFA.out.trans f2⟩
theorem CanWake.reads {S : KS} {t : Th} {pr : Nat} (C : CanWake S t pr) : CanWake S t pr := C
set_option maxRecDepth 100000 in
set_option maxHeartbeats 1000000 in
theorem late_c (w : World) (S : KS) {B : KB} (hB : S.B = B) (h : KW w S) (P : KP S) (t : Th) (pr : Nat) (C : CanWake S t pr) :
    Calls Tryz.prog 166 #[.pointer (some ⟨B.kb, 0, none⟩), .pointer (some ⟨t.b, 0, none⟩)] w fun e w' => ∃ v, e = .returned (.tuple #[]) ∧ KW w' (S.woken t pr v) ∧ Fr S (S.woken t pr v) w w' := by
  subst hB
  have hT := h.getTh (by decide) C.th
  have LV := leave_c w 0 t S.B.kb hT C.wt
  have HK := Lib.hid h
  have HP := Lib.hid P
  have HC := Lib.hid C
  clear h P C hT
  go_enter Tryz.func166, Tryz.ntmps166
  go_wp2_with (first
    | (go_at_call 312; refine LV.mono ?_; rintro e w1 ⟨rfl, b1⟩; have k1 := HK.out.reads b1; obtain ⟨_, c1, _⟩ := sleep_cells (k1.getTh (by decide) HC.out.th) HC.out.wt; have WK := wake_c w1 S rfl k1 HP.out t pr HC.out; have HB := Lib.hid b1; clear b1 k1 LV)
    | (go_at_call 168; refine WK.mono ?_; rintro e w2 ⟨v, rfl, k2, f2⟩))
  exact bodyPost_end (results_none rfl _ _ _) rfl ⟨v, rfl, k2, (Fr.reads S HB.out).trans f2⟩
/-- The kernel behind what was due on the second clock: the one who slept wakes. -/
def KS.dueW (S : KS) (t : Th) (pr k : Nat) (a : Option Addr) (c : Nat) (v : Value) : KS := ({ S with W1 := S.W1.remF k (.slice a 0 c) } : KS).woken t pr v
set_option maxRecDepth 100000 in
set_option maxHeartbeats 1000000 in
theorem dueW_c (w : World) (S : KS) {B : KB} (hB : S.B = B) (h : KW w S) (P : KP S) (t : Th) (pr k g cap : Nat) (cur : Array Value) (q : Int) (R1 : Row1 cur cap k q) (he5 : S.ext 5 = some (g, .cells cur 422 (0, 0)))
    (th : S.th 0 = some t) (wt : t.wt = sleepW) (pol : t.pol ≠ 2) (eff : t.eff = pr) (h1 : 1 ≤ pr) (h32 : pr < 32) (isIn : (S.L.getD 0 Hs.no).isIn = false) (z : S.R.pr.getD 0 0 = 0) (l : Lk (S.R.tl.getD pr 0)) (s0 : 0 ≤ S.st) (s1 : S.st ≤ 800000000) (q0 : S.W0.wh.getD 0 0 = 0) (an : S.lo.an ≤ 100000)
    (hk : k < 64) (hr : S.W1.rings[k]? = some (.slice (some ⟨g, 0, none⟩) 1 cap)) (hbut : But S.W1 k) (hw : S.W1.wh.getD 0 0 = k + 1) (hn : 0 ≤ S.W1.n ∧ S.W1.n ≤ 1000) (hmo : (k : Int) ≤ S.mo) :
    Calls Tryz.prog 88 #[.pointer (some ⟨B.kb, 0, none⟩), .int .i64 1] w fun e w' => ∃ a c v, e = .returned (.tuple #[]) ∧ KW w' (S.dueW t pr k a c v) ∧ Fr S (S.dueW t pr k a c v) w w' := by
  subst hB
  have c27 := kc27 h rfl
  have c70 := kc70 h rfl
  have c29 := kc29 h rfl
  obtain ⟨m, TM⟩ := h.tm P
  have NC := Clk.now_c w S.B.cb S.re S.mo 1 (h.has 4 rfl) (x := S.mo) (e := 0) rfl
  have TD := timers_due w S.B.tm S.B.tm0 S.B.tm1 m 1 S.mo TM (.inr rfl) P.mo.1 P.mo.2
  have o5 := fun W (hW : KW W S) => hW.ob 50 g _ ((obj_ext2 5).trans he5)
  have WD := fun W (hW : KW W S) => wheelDue_one W S.B.w1 S.W1 k (hW.has 6 rfl) P.W1 hk g cap k q S.mo hr hbut (R1.row W g (o5 W hW).1) (by
    intro e
    have h2 := (hW.ob 6 _ _ rfl).2
    rw [← e, (o5 W hW).2] at h2
    omega) hw hn hmo
  have lenw := P.W1.wh
  have CW : ∀ a c, CanWake ({ S with W1 := S.W1.remF k (.slice a 0 c) } : KS) t pr := fun a c => ⟨th, wt, pol, eff, h1, h32, isIn, z, l, s0, s1, q0, by
    show (S.W1.wh.set 0 0).getD 0 0 = 0
    rw [List.getD_eq_getElem?_getD, List.getElem?_set_self (by omega)]
    rfl, an⟩
  have PW : ∀ a c, KP ({ S with W1 := S.W1.remF k (.slice a 0 c) } : KS) := fun a c => { P with W1 := Wh.remF_ok P.W1 k _ }
  have HT := P.tp 0 (by decide)
  rw [th, Option.map_some] at HT
  have HK := Lib.hid h
  have HWD := Lib.hid WD
  have HCW := Lib.hid CW
  have HPW := Lib.hid PW
  have HHT := Lib.hid HT
  clear h P TM WD CW PW HT o5 th wt pol eff h1 h32 isIn z l s0 s1 q0 an hk hr hbut hw hn hmo R1 he5 lenw
  go_enter Tryz.func88, Tryz.ntmps88
  go_wp2_with (first
      | (go_at_call 158; refine NC.mono ?_; rintro e w' ⟨rfl, rfl⟩)
      | (go_at_call 160; refine TD.mono ?_; rintro e w2 ⟨rfl, b2⟩; have k2 := HK.out.reads b2; have d29 := kc29 (B := S.B) k2 rfl; have HK2 := Lib.hid k2; have HB2 := Lib.hid b2; clear k2 b2 TD))
  refine wp_loop_rounds 1 ?_
  rw [rounds_succ]
  go_wp2_with (go_at_call 165; refine (HWD.out _ HK2.out).mono ?_; rintro e w3 ⟨g1, c1, a', c', rfl, e0, hg1, u3⟩; have q3 := HK2.out.wheel1 u3; have ct := q3.1.tpc (p := 0) (by decide); have HQ3 := Lib.hid (And.intro q3.1 ((Fr.reads S HB2.out).trans q3.2)); have LT := late_c w3 { S with W1 := S.W1.remF k (.slice a' 0 c') } (B := S.B) rfl q3.1 (HPW.out a' c') t pr (HCW.out a' c'); clear u3 q3)
  replace ct : w3.cell? ⟨S.B.kb, 10, none⟩ = some (.pointer (some ⟨t.b, 0, none⟩)) := by
    have q := ct
    rw [show (({ S with W1 := S.W1.remF k (.slice a' 0 c') } : KS).tp 0) = some ⟨t.b, 0, none⟩ from HHT.out] at q
    exact q
  refine wp_loop_rounds 2 ?_
  rw [rounds_succ]
  go_wp2_with (go_at_call 166; refine LT.mono ?_; rintro e w4 ⟨v, rfl, k4, f4⟩)
  rw [rounds_succ]
  go_wp2_with fail
  exact bodyPost_end (results_none rfl _ _ _) rfl ⟨a', c', v, rfl, k4, HQ3.out.2.trans f4⟩
end Go.Proofs.YtagmlijhgncklaaGreatDoor.Ker
namespace Go.Proofs.YtagmlijhgncklaaGreatDoor.Ker
open Go.RowKit Go.Proofs.YtagmlijhgncklaaGreatDoor

set_option maxRecDepth 100000 in
set_option maxHeartbeats 1000000 in
theorem due0_c (w : World) (S : KS) {B : KB} (hB : S.B = B) (h : KW w S) (P : KP S) (q0 : Quiet S.W0) : Calls Tryz.prog 88 #[.pointer (some ⟨B.kb, 0, none⟩), .int .i64 0] w fun e w' => e = .returned (.tuple #[]) ∧ Below w.heap.size w w' := by
  subst hB
  have c27 := kc27 h rfl
  have c70 := kc70 h rfl
  have c28 := kc28 h rfl
  have c29 := kc29 h rfl
  obtain ⟨m, TM⟩ := h.tm P
  have NC := Clk.now_c w S.B.cb S.re S.mo 0 (h.has 4 rfl) (x := S.re) (e := 0) rfl
  have TD := timers_due w S.B.tm S.B.tm0 S.B.tm1 m 0 S.re TM (.inl rfl) P.re.1 P.re.2
  have WD0 := fun W (hW : KW W S) => wheel_due_quiet W S.B.w0 S.W0 S.re (hW.has 5 rfl) P.W0 q0
  have HK := Lib.hid h
  clear h P TM
  go_enter Tryz.func88, Tryz.ntmps88
  go_wp2_with (first
    | (go_at_call 158; refine NC.mono ?_; rintro e w' ⟨rfl, rfl⟩)
    | (go_at_call 160; refine TD.mono ?_; rintro e w2 ⟨rfl, b2⟩; have k2 := HK.out.reads b2; have d28 := kc28 (B := S.B) k2 rfl; have HK2 := Lib.hid k2; have HB2 := Lib.hid b2; clear k2 b2 TD))
  refine wp_loop_rounds 1 ?_
  rw [rounds_succ]
  go_wp2_with (go_at_call 165; refine (WD0 _ HK2.out).mono ?_; rintro e w3 ⟨rfl, b3⟩; have HB3 := Lib.hid b3; clear b3)
  refine wp_loop_rounds 1 ?_
  rw [rounds_succ]
  go_wp2_with fail
  exact bodyPost_end (results_none rfl _ _ _) rfl ⟨rfl, HB2.out.trans (HB3.out.mono HB2.out.size)⟩
set_option maxRecDepth 100000 in
set_option maxHeartbeats 1000000 in
/-- A tick while nobody runs. -/
theorem tickN_c (w : World) (S : KS) {B : KB} (hB : S.B = B) (h : KW w S) (P : KP S) (hs : S.R.sm = 0) (hpol : ∀ q x, S.th q = some x → x.pol ≠ 2) (q0 : Quiet S.W0) (Q : KS → Prop)
    (D1 : ∀ W, KW W { S with re := Clk.upF S.re, mo := Clk.upF S.mo } → Calls Tryz.prog 88 #[.pointer (some ⟨B.kb, 0, none⟩), .int .i64 1] W fun e w' => ∃ Sf, e = .returned (.tuple #[]) ∧ Q Sf ∧ KW w' Sf ∧ Fr { S with re := Clk.upF S.re, mo := Clk.upF S.mo } Sf W w') :
    Calls Tryz.prog 45 #[.pointer (some ⟨B.kb, 0, none⟩)] w fun e w' => ∃ Sf, e = .returned (.tuple #[]) ∧ Q Sf ∧ KW w' Sf ∧ Fr S Sf w w' := by
  subst hB
  have c26 := kc26 h rfl
  have AR := turns_nobody w S.B.tb S.B.rb S.B.J.q S.L S.R S.st (h.tn P.L P.R) hs
  obtain ⟨S3, hS3⟩ : ∃ S3 : KS, S3 = { S with re := Clk.upF S.re, mo := Clk.upF S.mo } := ⟨_, rfl⟩
  rw [← hS3] at D1
  have K3 : ∀ W W', KW W S → Upd W S.B.cb (Clk.clkO true (Clk.upF S.re) (Clk.upF S.mo)) W' → KW W' S3 ∧ Fr S S3 W W' := fun W W' hW u => by
    rw [hS3]
    exact hW.clock u
  have hre : 0 ≤ Clk.upF S.re ∧ Clk.upF S.re ≤ 1099511627776 := by have := P.re; unfold Clk.upF; split <;> omega
  have hmo : 0 ≤ Clk.upF S.mo ∧ Clk.upF S.mo ≤ 1099511627776 := by have := P.mo; unfold Clk.upF; split <;> omega
  have P3 : KP S3 := by rw [hS3]; exact { P with re := hre, mo := hmo }
  have hB3 : S3.B = S.B := by rw [hS3]
  have hth3 : S3.th = S.th := by rw [hS3]
  have CK : ∀ W, KW W S → Calls Tryz.prog 84 #[.pointer (some ⟨S.B.cb, 0, none⟩)] W fun e w' => e = .returned (.int .i64 0) ∧ Upd W S.B.cb (Clk.clkO true (Clk.upF S.re) (Clk.upF S.mo)) w' := fun W hW => by
    have q := hW.has 4 rfl
    exact Clk.tick_c W S.B.cb S.re S.mo q P.re P.mo
  have D0 := fun W (hW : KW W S3) => due0_c W S3 (B := S.B) hB3 hW P3 (by rw [hS3]; exact q0)
  have HPOL : ∀ q x, S3.th q = some x → (x.pol == 2) = false := fun q x hx => by rw [hth3] at hx; simpa using hpol q x hx
  have HB3 := Lib.hid hB3
  have HP3 := Lib.hid P3
  have HK0 := Lib.hid h
  clear h P hs hre hmo hS3 hB3 hth3 P3 hpol q0
  go_enter Tryz.func45, Tryz.ntmps45
  go_wp2_with (first
    | (go_at_call 48; refine AR.mono ?_; rintro e w' ⟨rfl, rfl⟩; have e27 := kc27 (B := S.B) HK0.out rfl; clear AR c26)
    | (go_at_call 84; refine (CK _ HK0.out).mono ?_; rintro e w3 ⟨rfl, u3⟩; obtain ⟨k3, f3⟩ := K3 _ w3 HK0.out u3; have hr72 := k3.tpr; rw [HB3.out] at hr72; have HK3 := Lib.hid k3; have HF3 := Lib.hid f3; clear u3 k3 f3 CK K3)
    | (refine wpList_load_mid rfl 72 (.tmp 64) rfl S.B.kb 10 rfl S3.tps _ hr72 Tryz.underlying72 rfl (by kernel_rfl) ?_))
  have HD0 := Lib.hid D0
  have HD1 := Lib.hid D1
  have HQ := Lib.hid HPOL
  clear hr72 D0 D1 HPOL
  go_loopw [66] (fun i wr => ∃ j : Nat, i = .int .i64 j ∧ j ≤ 16 ∧ wr = w3) (fun i _ => 16 - (intOf i).toNat)
  case atStart => exact ⟨0, rfl, by omega, rfl⟩
  case round =>
    obtain ⟨j, rfl, hj, rfl⟩ := hrel
    by_cases hlt : j < 16
    · have hix := run_index_72 S3.tps j _ rfl hlt (S3.tps_get hlt) wr
      have htp := HP3.out.tp j hlt
      cases hth : S3.th j with
      | none =>
        rw [hth, Option.map_none] at htp
        rw [htp] at hix
        clear htp hth
        go_wp2_with fail
        go_roundw
        case rel => exact ⟨j + 1, by go_num, by omega, trivial⟩
        case measure => simp [intOf]; omega
      | some x =>
        rw [hth, Option.map_some] at htp
        rw [htp] at hix
        have hT := HK3.out.getTh hlt hth
        have c20 := tc20 hT
        have c12' := tc12 hT
        have dx := HQ.out j x hth
        cases hen : x.en with
        | true =>
          rw [hen] at c20
          clear htp hth hT hen
          go_wp2_with fail
          go_roundw
          case rel => exact ⟨j + 1, by go_num, by omega, trivial⟩
          case measure => simp [intOf]; omega
        | false =>
          rw [hen] at c20
          clear htp hth hT hen
          go_wp2_with fail
          go_roundw
          case rel => exact ⟨j + 1, by go_num, by omega, trivial⟩
          case measure => simp [intOf]; omega
    · obtain rfl : j = 16 := by omega
      go_wp2_with (first
        | (go_at_call 88; first
          | (refine (HD1.out _ HK4.out).mono ?_; rintro e w5 ⟨Sf, rfl, hq, k5, f5⟩)
          | (refine (HD0.out _ HK3.out).mono ?_; rintro e w4 ⟨rfl, b4⟩; have HK4 := Lib.hid (HK3.out.reads b4); have HF4 := Lib.hid (HF3.out.trans (Fr.reads S3 b4)); clear b4)))
      exact bodyPost_end (results_none rfl _ _ _) rfl ⟨Sf, rfl, hq, k5, HF4.out.trans f5⟩
end Go.Proofs.YtagmlijhgncklaaGreatDoor.Ker
