/-
  A sporadic server is used (Use), over the translation of this seat. Conditions: the blocks that are named hold what is said.
  A sporadic server's pieces come back (Due): its parts, over the translation of this seat. Conditions: the blocks that are named hold what is said.
  A sporadic server's pieces are looked through, and those due are deleted (IndexFunc, DeleteFunc), over the translation of this seat. Conditions: the blocks that are named hold what is said; there is at most one piece.
  A sporadic server's pieces come back (Due); a server is made (New), over the translation of this seat. Conditions: the blocks that are named hold what is said; there is at most one piece.
  A kernel with a sporadic server: where it lies, what its turning makes of the kernel, over the translation of this seat. Conditions: those said.
  The kernel's graph, and settle, where a thread's priority is found by a sporadic server (which draws), over the translation of this seat. Conditions: the blocks that are named hold what is said; nobody waits for a mutex, there is none.
  starts, of a sporadic thread, over the translation of this seat. Conditions: the blocks that are named hold what is said.
  A server used, and its pieces come back, as one contract each, over the translation of this seat. Conditions: the blocks that are named hold what is said; there is at most one piece.
  A tick of the kernel with one sporadic thread, over the translation of this seat. Conditions: the blocks that are named hold what is said; no timer, no deadline is set.
  A tick of the kernel with one sporadic thread (tick), over the translation of this seat. Conditions: the blocks that are named hold what is said; no timer, no deadline is set; who runs is no robin.
-/
import Derived.Test.YtagmlijhgncklaaGreatDoorP36
import Derived.Test.YtagmlijhgncklaaGreatDoorP14
set_option linter.unusedVariables false
namespace Go.Proofs.YtagmlijhgncklaaGreatDoor.Spo
open Go.RowKit Go.Proofs.YtagmlijhgncklaaGreatDoor

theorem used_to {w w1 W : World} {b : Nat} {s : Sv} (h : w.heap[b]? = some (svO s)) (hp : PcW w s) (ha : Apart b s) (b1 : Below w.heap.size w w1)
    (e : W = (w1.setCell ⟨b, 3, none⟩ (.int .i64 (s.lf - 1))).setCell ⟨b, 6, none⟩ (.int .i64 (s.us + 1))) : SvTo w b s { s with lf := s.lf - 1, us := s.us + 1 } W := by
  subst e
  have U := ((Upd.refl (below_has b1 h)).setCell 3 (.int .i64 (s.lf - 1))).setCell 6 (.int .i64 (s.us + 1))
  exact SvTo.own (s' := { s with lf := s.lf - 1, us := s.us + 1 }) hp ha rfl rfl ((Upd.after b1 U).to rfl)
theorem use_left (w : World) (b : Nat) (s : Sv) (h : w.heap[b]? = some (svO s)) (hp : PcW w s) (ha : Apart b s) (hb : 0 < s.bu) (hac : s.ac = true) (hh : highF s = true) (hl : 1 < s.lf) (l2 : s.lf ≤ 1099511627776) (u0 : 0 ≤ s.us) (u1 : s.us ≤ 1099511627776) :
    Calls Tryz.prog 82 #[.pointer (some ⟨b, 0, none⟩)] w fun e w' => e = .returned (.tuple #[.bool false, .int .i64 0]) ∧ SvTo w b s { s with lf := s.lf - 1, us := s.us + 1 } w' := by
  obtain ⟨x, cap, hs⟩ := hp.slice
  have A := is_c w b s h hb
  have H := high_c w b s h hb hs hh
  have c4 : w.cell? ⟨b, 4, none⟩ = some (.bool true) := by rw [← hac]; exact has_cell 4 h rfl
  have HH := Lib.hid h
  have HP := Lib.hid hp
  have HA := Lib.hid ha
  clear h hp ha hs hh hac
  go_enter Tryz.func82, Tryz.ntmps82
  go_wp2_with (first
    | (go_at_call 151; refine A.mono ?_; rintro e w' ⟨rfl, rfl⟩)
    | (go_at_call 81; refine H.mono ?_; rintro e w1 ⟨rfl, b1⟩
       have h1 := below_has b1 HH.out
       have d3 : w1.cell? ⟨b, 3, none⟩ = some (.int .i64 s.lf) := has_cell 3 h1 rfl
       have d6 : w1.cell? ⟨b, 6, none⟩ = some (.int .i64 s.us) := has_cell 6 h1 rfl
       have fz := has_free h1
       have HB1 := Lib.hid b1
       clear h1 b1))
  go_ret2
  exact ⟨rfl, used_to HH.out HP.out HA.out HB1.out rfl⟩
theorem use_last (w : World) (b : Nat) (s : Sv) (h : w.heap[b]? = some (svO s)) (hp : PcW w s) (ha : Apart b s) (hb : 0 < s.bu) (hac : s.ac = true) (hh : highF s = true) (hl : s.lf = 1) (u0 : 0 ≤ s.us) (u1 : s.us ≤ 1099511627776)
    (h0 : 0 ≤ s.si) (h1 : s.si ≤ 1099511627776) (p0 : 0 < s.pe) (p1 : s.pe ≤ 1099511627776) :
    Calls Tryz.prog 82 #[.pointer (some ⟨b, 0, none⟩)] w fun e w' => ∃ pv, e = .returned (.tuple #[.bool true, .int .i64 0]) ∧ SvTo w b s { s with lf := 0, ac := false, si := 0, us := 0, pv := pv, ps := s.ps ++ [(s.si + s.pe, s.us + 1)] } w' := by
  obtain ⟨x, cap, hs⟩ := hp.slice
  have A := is_c w b s h hb
  have H := high_c w b s h hb hs hh
  have c4 : w.cell? ⟨b, 4, none⟩ = some (.bool true) := by rw [← hac]; exact has_cell 4 h rfl
  have hl4 : s.ps.length < 100 := by
    unfold highF at hh
    simp only [Bool.and_eq_true, decide_eq_true_eq] at hh
    omega
  have hbw := has_lt h
  have ST := fun (W : World) (T : SvTo w b s { s with lf := s.lf - 1, us := s.us + 1 } W) => stop_used W b { s with lf := s.lf - 1, us := s.us + 1 } T.has T.pc (T.apart ha hbw) hl4 (by show 0 < s.us + 1; omega) h0 h1 p0 p1
  have HH := Lib.hid h
  have HP := Lib.hid hp
  have HA := Lib.hid ha
  have HST := Lib.hid ST
  have e0 : s.lf - 1 = 0 := by omega
  have HE := Lib.hid e0
  clear h hp ha hs hh hac ST e0 h0 h1 p0 p1
  go_enter Tryz.func82, Tryz.ntmps82
  go_upto_region 10 with (first
    | (go_at_call 151; refine A.mono ?_; rintro e w' ⟨rfl, rfl⟩)
    | (go_at_call 81; refine H.mono ?_; rintro e w1 ⟨rfl, b1⟩
       have h1 := below_has b1 HH.out
       have d3 : w1.cell? ⟨b, 3, none⟩ = some (.int .i64 s.lf) := has_cell 3 h1 rfl
       have d6 : w1.cell? ⟨b, 6, none⟩ = some (.int .i64 s.us) := has_cell 6 h1 rfl
       have fz := has_free h1
       have HB1 := Lib.hid b1
       clear h1 b1))
  refine world_wp (fun W => SvTo w b s { s with lf := s.lf - 1, us := s.us + 1 } W) (used_to HH.out HP.out HA.out HB1.out (by first | rfl | (rw [hl]; rfl))) ?_
  clear HB1 d3 d6 fz c4 w1 A H
  rintro W T
  have HT := Lib.hid T
  clear T
  go_wp2_with (go_at_call 152; refine (HST.out W HT.out).mono ?_; rintro e w2 ⟨pv, rfl, T2⟩; have HT2 := Lib.hid (HT.out.trans T2); clear T2)
  go_ret2
  refine ⟨pv, rfl, ?_⟩
  have q := HT2.out
  rw [HE.out] at q
  exact q
end Go.Proofs.YtagmlijhgncklaaGreatDoor.Spo
namespace Go.Proofs
open Go.Shelf
def Tryz.layE156_ren : Go.Shelf.Ren := ⟨fun | 41 => 156 | n => n, fun | 22 => 342 | 23 => 348 | n => n, fun | n => n⟩
theorem Tryz.layE156 : SlLaysE0.n41 Tryz.prog Tryz.layE156_ren := {
  mixed := by kernel_rfl
  f41 := ⟨"slices.Clone[[]metronome/api.Piece,metronome/api.Piece]", by decide, Tryz.func156.trans (congrArg some (by kernel_rfl))⟩
  t4 := Tryz.underlying4
  a4 := Tryz.isAgg4
  z4 := Tryz.sizeOf4
  v4 := Tryz.zeroValue4
  t22 := Tryz.underlying342
  a22 := Tryz.isAgg342
  z22 := Tryz.sizeOf342
  v22 := Tryz.zeroValue342 }
end Go.Proofs
namespace Go.Proofs.YtagmlijhgncklaaGreatDoor.Spo
open Go.RowKit Go.Proofs.YtagmlijhgncklaaGreatDoor

theorem pcC_len (l : List (Int × Int)) : (pcC l).length = l.length * 2 := by
  induction l with
  | nil => rfl
  | cons x l ih => rw [pcC, List.flatMap_cons, List.length_append]; show 2 + (pcC l).length = _; rw [ih, List.length_cons]; omega
theorem clone_nil (w : World) : Calls Tryz.prog 156 #[.slice none 0 0] w fun e w' => e = .returned (.slice none 0 0) ∧ w = w' :=
  (AnyE.slices_Clone_nil Tryz.layE156 0 0 w).mono fun e w' ⟨h1, h2⟩ => ⟨h1, h2.symm⟩
theorem clone_some (w : World) (g n cap : Nat) (xs : List Value) (h : w.ownsRow 0 348 2 (.slice (some ⟨g, 0, none⟩) n cap) n xs) (h1 : ∀ u ∈ xs, u.oneCell' = true) (hn : n ≤ 1000) :
    Calls Tryz.prog 156 #[.slice (some ⟨g, 0, none⟩) n cap] w fun e w' => ∃ v', e = .returned v' ∧ w'.ownsRow w.heap.size 348 2 v' n xs ∧ v' ≠ .slice none 0 0 ∧ Below w.heap.size w w' := by
  obtain ⟨i, hi, hz0, hz1, hz2⟩ := info_parts info348
  rcases h.2 with ⟨e, _⟩ | ⟨g', c', cur, e, _, hg, hc, _, hs, ht⟩
  · cases e
  · cases e
    refine (AnyE.slices_Clone Tryz.layE156 i _ 2 16 hi hz0 hz1 hz2 rfl (by decide) Tryz.sizeOf348 g 0 n cap xs w h.1 (by simp only [maxLen]; omega) (by omega) ?_ h1)
    intro j u hj
    rw [Nat.zero_add]
    refine has_cell _ hg ?_
    have hjn : j < n * 2 := by
      have := (List.getElem?_eq_some_iff.1 hj).1
      rw [h.1] at this; exact this
    rw [← ht, List.getElem?_take_of_lt hjn] at hj
    simpa using hj
/-- A piece that is looked at. -/
theorem look_not (w : World) (a m : Int) (x y : Nat) (now n : Int) (hx : w.heap[x]? = some (.cells #[.int .i64 now] 2 (0, 0))) (hl : now < a) :
    Calls Tryz.prog 157 #[.agg #[.int .i64 a, .int .i64 m], .pointer (some ⟨x, 0, none⟩), .pointer (some ⟨y, 0, none⟩)] w fun e w' => e = .returned (.bool false) ∧ Below w.heap.size w w' := by
  have x0 := below_alloc_has (o := .cells #[.int .i64 a, .int .i64 m] 348) hx
  have cx : (w.alloc (.cells #[.int .i64 a, .int .i64 m] 348)).cell? ⟨x, 0, none⟩ = some (.int .i64 now) := has_cell 0 x0 rfl
  have d : decide (a ≤ now) = false := by simpa using hl
  clear hx x0
  go_enter Tryz.func157, Tryz.ntmps157
  go_wp2
  refine bodyPost_ret (v := .bool false) (results_tmp (show Tryz.f157.results = #[.tmp 4] from rfl) _ _ _) rfl ?_
  exact ⟨rfl, (Below.refl _ _).alloc (Nat.le_refl _) _⟩
theorem look_due (w : World) (a m : Int) (x y : Nat) (now n : Int) (hx : w.heap[x]? = some (.cells #[.int .i64 now] 2 (0, 0))) (hy : w.heap[y]? = some (.cells #[.int .i64 n] 2 (0, 0))) (hxy : x ≠ y) (hl : a ≤ now) (n0 : 0 ≤ n) (n1 : n ≤ 1099511627776) (m0 : 0 ≤ m) (m1 : m ≤ 1099511627776) :
    Calls Tryz.prog 157 #[.agg #[.int .i64 a, .int .i64 m], .pointer (some ⟨x, 0, none⟩), .pointer (some ⟨y, 0, none⟩)] w fun e w' => e = .returned (.bool true) ∧ Upd w y (.cells #[.int .i64 (n + m)] 2 (0, 0)) w' := by
  have x0 := below_alloc_has (o := .cells #[.int .i64 a, .int .i64 m] 348) hx
  have y0 := below_alloc_has (o := .cells #[.int .i64 a, .int .i64 m] 348) hy
  have cx : (w.alloc (.cells #[.int .i64 a, .int .i64 m] 348)).cell? ⟨x, 0, none⟩ = some (.int .i64 now) := has_cell 0 x0 rfl
  have cy : (w.alloc (.cells #[.int .i64 a, .int .i64 m] 348)).cell? ⟨y, 0, none⟩ = some (.int .i64 n) := has_cell 0 y0 rfl
  have fy := has_free y0
  have U := ((Upd.refl hy).alloc (.cells #[.int .i64 a, .int .i64 m] 348)).setCell 0 (.int .i64 (n + m))
  have HU := Lib.hid (U.to (o' := .cells #[.int .i64 (n + m)] 2 (0, 0)) rfl)
  have zy : w.heap.size ≠ y := Nat.ne_of_gt (has_lt hy)
  have yz : y ≠ w.heap.size := zy.symm
  have yx : y ≠ x := hxy.symm
  clear hx hy x0 y0 U
  go_enter Tryz.func157, Tryz.ntmps157
  go_wp2
  refine bodyPost_ret (v := .bool true) (results_tmp (show Tryz.f157.results = #[.tmp 4] from rfl) _ _ _) rfl ?_
  exact ⟨rfl, HU.out⟩
end Go.Proofs.YtagmlijhgncklaaGreatDoor.Spo
namespace Go.Proofs.YtagmlijhgncklaaGreatDoor.Spo
open Go.RowKit Go.Proofs.YtagmlijhgncklaaGreatDoor

theorem index_empty (w : World) (a : Option Addr) (cap x y : Nat) : Calls Tryz.prog 304 #[.slice a 0 cap, .func (.func 157) #[] #[.pointer (some ⟨x, 0, none⟩), .pointer (some ⟨y, 0, none⟩)]] w fun e w' => e = .returned (.int .i64 (-1)) ∧ w = w' := by
  go_enter Tryz.func304, Tryz.ntmps304
  go_wp2_with fail
  refine wp_loop_rounds 1 ?_
  rw [rounds_succ]
  go_wp2_with fail
  go_ret
  exact ⟨rfl, rfl⟩
theorem index_not (w : World) (g cap x y : Nat) (a m now : Int) (h0 : w.cell? ⟨g, 0, none⟩ = some (.int .i64 a)) (h1 : w.cell? ⟨g, 1, none⟩ = some (.int .i64 m)) (hx : w.heap[x]? = some (.cells #[.int .i64 now] 2 (0, 0))) (hl : now < a) :
    Calls Tryz.prog 304 #[.slice (some ⟨g, 0, none⟩) 1 cap, .func (.func 157) #[] #[.pointer (some ⟨x, 0, none⟩), .pointer (some ⟨y, 0, none⟩)]] w fun e w' => e = .returned (.int .i64 (-1)) ∧ Below w.heap.size w w' := by
  have L := look_not w a m x y now 0 hx hl
  clear hx hl
  go_enter Tryz.func304, Tryz.ntmps304
  go_wp2_with fail
  refine wp_loop_rounds 2 ?_
  rw [rounds_succ]
  go_wp2_with (go_at_call 157; refine L.mono ?_; rintro e w1 ⟨rfl, b1⟩; have HB := Lib.hid b1; clear b1 L)
  rw [rounds_succ]
  go_wp2_with fail
  go_ret
  exact ⟨rfl, HB.out⟩
theorem index_due (w : World) (g cap x y : Nat) (a m now n : Int) (h0 : w.cell? ⟨g, 0, none⟩ = some (.int .i64 a)) (h1 : w.cell? ⟨g, 1, none⟩ = some (.int .i64 m)) (hx : w.heap[x]? = some (.cells #[.int .i64 now] 2 (0, 0))) (hy : w.heap[y]? = some (.cells #[.int .i64 n] 2 (0, 0))) (hxy : x ≠ y) (hl : a ≤ now) (n0 : 0 ≤ n) (n1 : n ≤ 1099511627776) (m0 : 0 ≤ m) (m1 : m ≤ 1099511627776) :
    Calls Tryz.prog 304 #[.slice (some ⟨g, 0, none⟩) 1 cap, .func (.func 157) #[] #[.pointer (some ⟨x, 0, none⟩), .pointer (some ⟨y, 0, none⟩)]] w fun e w' => e = .returned (.int .i64 0) ∧ Upd w y (.cells #[.int .i64 (n + m)] 2 (0, 0)) w' := by
  have L := look_due w a m x y now n hx hy hxy hl n0 n1 m0 m1
  clear hx hl
  go_enter Tryz.func304, Tryz.ntmps304
  go_wp2_with fail
  refine wp_loop_rounds 2 ?_
  rw [rounds_succ]
  go_wp2_with (go_at_call 157; refine L.mono ?_; rintro e w1 ⟨rfl, b1⟩; have HB := Lib.hid b1; clear b1 L)
  go_ret
  exact ⟨rfl, HB.out⟩
theorem delete_same (w : World) (v : Value) (f : Value) (A : Calls Tryz.prog 304 #[v, f] w fun e w' => e = .returned (.int .i64 (-1)) ∧ Below w.heap.size w w') : Calls Tryz.prog 155 #[v, f] w fun e w' => e = .returned v ∧ Below w.heap.size w w' := by
  go_enter Tryz.func155, Tryz.ntmps155
  go_wp2_with (go_at_call 304; refine A.mono ?_; rintro e w1 ⟨rfl, b1⟩; have HB := Lib.hid b1; clear b1 A)
  go_ret
  exact ⟨rfl, HB.out⟩
theorem run_clear_piece (w : World) (ty : TypeId) (g cap : Nat) (c0 c1 : Value) (h0 : w.cell? ⟨g, 0, none⟩ = some c0) (h1 : w.cell? ⟨g, 1, none⟩ = some c1) (fz : ∀ i, w.frozen? ⟨g, i, none⟩ = false) :
    (Builtin.clear_ #[342] ty #[.slice (some ⟨g, 0, none⟩) 1 cap]).run Tryz.prog w = .ok (.tuple #[]) ((w.setCell ⟨g, 0, none⟩ (.int .i64 0)).setCell ⟨g, 1, none⟩ (.int .i64 0)) := by
  have hv : ∀ w, (zeroValue 348).run Tryz.prog w = .ok (.agg #[.int .i64 0, .int .i64 0]) w := Tryz.zeroValue348
  have hst := run_storeCells_cells (P := Tryz.prog) g 0 [.int .i64 0, .int .i64 0] 0 w (by intro j hj; match j, hj with | 0, _ => simp [h0] | 1, _ => simp [h1]) (by intro j hj; simp [fz]) (by intro v hv'; simp at hv'; subst hv'; rfl)
  simp [Builtin.clear_, run_underlying Tryz.underlying342, hv]
  have hz : (Builtin.zeroCells (Value.agg #[.int .i64 0, .int .i64 0]).cells 1).toList = [.int .i64 0, .int .i64 0] := by kernel_rfl
  rw [hz, hst]
  rfl
/-- A piece that is due is taken out. -/
theorem delete_due (w : World) (g cap x y : Nat) (cur : Array Value) (a m now n : Int) (hg : w.heap[g]? = some (.cells cur 348 (0, 0))) (h0 : cur[0]? = some (.int .i64 a)) (h1 : cur[1]? = some (.int .i64 m)) (hc : 1 ≤ cap) (hx : w.heap[x]? = some (.cells #[.int .i64 now] 2 (0, 0))) (hy : w.heap[y]? = some (.cells #[.int .i64 n] 2 (0, 0))) (hxy : x ≠ y) (hgy : g ≠ y) (hl : a ≤ now) (n0 : 0 ≤ n) (n1 : n ≤ 1099511627776) (m0 : 0 ≤ m) (m1 : m ≤ 1099511627776) :
    Calls Tryz.prog 155 #[.slice (some ⟨g, 0, none⟩) 1 cap, .func (.func 157) #[] #[.pointer (some ⟨x, 0, none⟩), .pointer (some ⟨y, 0, none⟩)]] w fun e w' => e = .returned (.slice (some ⟨g, 0, none⟩) 0 cap) ∧ w'.heap[y]? = some (.cells #[.int .i64 (n + m)] 2 (0, 0)) ∧ w'.heap[g]? = some (.cells ((cur.setIfInBounds 0 (.int .i64 0)).setIfInBounds 1 (.int .i64 0)) 348 (0, 0)) ∧ Upd2 w g y w' := by
  have A := index_due w g cap x y a m now n (has_cell 0 hg h0) (has_cell 1 hg h1) hx hy hxy hl n0 n1 m0 m1
  have HG := Lib.hid hg
  have hgy2 := Lib.hid hgy
  have H0 := Lib.hid h0
  have H1 := Lib.hid h1
  clear hx hy hxy hl n0 n1 m0 m1 hg h0 h1 hgy
  go_enter Tryz.func155, Tryz.ntmps155
  go_wp2_with (go_at_call 304; refine A.mono ?_; rintro e w1 ⟨rfl, U⟩; have HU := Lib.hid U; clear U A)
  refine wp_loop_rounds 1 ?_
  rw [rounds_succ]
  have hg1 := HU.out.other HG.out hgy2.out
  have d0 : w1.cell? ⟨g, 0, none⟩ = some (.int .i64 a) := has_cell 0 hg1 H0.out
  have d1 : w1.cell? ⟨g, 1, none⟩ = some (.int .i64 m) := has_cell 1 hg1 H1.out
  have fz := has_free hg1
  have CL := fun ty => run_clear_piece w1 ty g cap _ _ d0 d1 fz
  have U2 := ((Upd.refl hg1).setCell 0 (.int .i64 0)).setCell 1 (.int .i64 0)
  have HU2 := Lib.hid U2
  clear hg1 fz d0 d1 U2
  go_wp2_with fail
  go_ret
  exact ⟨rfl, HU2.out.other HU.out.1 hgy2.out.symm, HU2.out.1, ((Upd2.refl w g y).right HU.out).left HU2.out⟩
end Go.Proofs.YtagmlijhgncklaaGreatDoor.Spo
namespace Go.Proofs.YtagmlijhgncklaaGreatDoor.Spo
open Go.RowKit Go.Proofs.YtagmlijhgncklaaGreatDoor

theorem pcC_one (l : List (Int × Int)) : ∀ u ∈ pcC l, u.oneCell' = true := by
  intro u hu
  obtain ⟨x, _, hx⟩ := List.mem_flatMap.1 hu
  simp at hx
  rcases hx with rfl | rfl <;> rfl
/-- The pieces, copied. -/
theorem clone_c (w : World) (s : Sv) (hp : PcW w s) (hl : s.ps.length ≤ 1000) : Calls Tryz.prog 156 #[s.pv] w fun e w' => ∃ v', e = .returned v' ∧ PcW w' { s with pv := v' } ∧ (∀ z, v'.ownBlock = some z → w.heap.size ≤ z) ∧ Below w.heap.size w w' := by
  rcases hp.2 with ⟨e, n0⟩ | ⟨g, cap, cur, e, _⟩
  · rw [e]
    refine (clone_nil w).mono ?_
    rintro e' w' ⟨rfl, rfl⟩
    exact ⟨_, rfl, ⟨by rw [pcC_len], .inl ⟨rfl, n0⟩⟩, (fun z hz => by cases hz), Below.refl _ _⟩
  · have hp' : w.ownsRow 0 348 2 s.pv s.ps.length (pcC s.ps) := hp
    rw [e] at hp' ⊢
    refine (clone_some w g s.ps.length cap (pcC s.ps) hp' (pcC_one _) hl).mono ?_
    rintro e' w' ⟨v', rfl, ow, nn, b⟩
    refine ⟨v', rfl, ⟨ow.1, ?_⟩, fun z hz => ?_, b⟩
    · rcases ow.2 with q | ⟨g', c', cu, q1, q2, q3⟩
      · exact .inl q
      · exact .inr ⟨g', c', cu, q1, Nat.zero_le _, q3⟩
    · rcases ow.2 with ⟨q, _⟩ | ⟨g', c', cu, q1, q2, _⟩
      · rw [q] at hz; cases hz
      · rw [q1] at hz; cases hz; exact q2
def lookV (x y : Nat) : Value := .func (.func 157) #[] #[.pointer (some ⟨x, 0, none⟩), .pointer (some ⟨y, 0, none⟩)]
/-- A row of one piece. -/
theorem one_cells {w : World} {v : Value} {p : Int × Int} (h : w.ownsRow 0 348 2 v 1 (pcC [p])) : ∃ g cap cur, v = .slice (some ⟨g, 0, none⟩) 1 cap ∧ w.heap[g]? = some (.cells cur 348 (0, 0)) ∧ 1 ≤ cap ∧ cap ≤ maxLen ∧ cur.size = cap * 2 ∧ cur[0]? = some (.int .i64 p.1) ∧ cur[1]? = some (.int .i64 p.2) := by
  rcases h.2 with ⟨_, e⟩ | ⟨g, cap, cur, e, _, hg, hc, hm, hs, ht⟩
  · omega
  · refine ⟨g, cap, cur, e, hg, hc, hm, hs, ?_, ?_⟩
    · have q : (pcC [p])[0]? = some (.int .i64 p.1) := rfl
      rw [← ht, List.getElem?_take_of_lt (by omega)] at q
      simpa using q
    · have q : (pcC [p])[1]? = some (.int .i64 p.2) := rfl
      rw [← ht, List.getElem?_take_of_lt (by omega)] at q
      simpa using q
theorem delete_none (w : World) (v : Value) (ps : List (Int × Int)) (h : w.ownsRow 0 348 2 v ps.length (pcC ps)) (hl : ps.length ≤ 1) (x y : Nat) (now : Int) (hx : w.heap[x]? = some (.cells #[.int .i64 now] 2 (0, 0))) (hn : ∀ p ∈ ps, now < p.1) :
    Calls Tryz.prog 155 #[v, lookV x y] w fun e w' => e = .returned v ∧ Below w.heap.size w w' := by
  refine delete_same w v (lookV x y) ?_
  match ps, hl, h, hn with
  | [], _, h, _ =>
    obtain ⟨a, c, e⟩ : ∃ a c, v = .slice a 0 c := by
      rcases h.2 with ⟨e, _⟩ | ⟨g, c, _, e, _⟩
      · exact ⟨none, 0, e⟩
      · exact ⟨some ⟨g, 0, none⟩, c, e⟩
    rw [e]
    refine (index_empty w a c x y).mono ?_
    rintro e w' ⟨rfl, rfl⟩
    exact ⟨rfl, Below.refl _ _⟩
  | [p], _, h, hn =>
    obtain ⟨g, cap, cur, e, hg, _, _, _, h0, h1⟩ := one_cells h
    rw [e]
    exact index_not w g cap x y p.1 p.2 now (has_cell 0 hg h0) (has_cell 1 hg h1) hx (hn p (by simp))
  | _ :: _ :: _, hl, _, _ => simp at hl
theorem due_end {w w2 W2 : World} {b : Nat} {s s' : Sv} (h : w.heap[b]? = some (svO s)) (B2 : Below w.heap.size w w2) (own : PcW w2 s') (hz : ∀ z, s'.pv.ownBlock = some z → w.heap.size ≤ z)
    (e : svO s' = .cells #[.int .i64 s.bu, .int .i64 s.pe, .int .i64 4, .int .i64 s'.lf, .bool s.ac, .int .i64 s.si, .int .i64 s.us, s'.pv] 344 (0, 0)) (hW : W2 = (w2.setCell ⟨b, 7, none⟩ s'.pv).drew.setCell ⟨b, 3, none⟩ (.int .i64 s'.lf)) : SvTo w b s s' W2 := by
  subst hW
  have hb := has_lt h
  have U := ((((Upd.refl (below_hasB B2 h hb)).setCell 7 s'.pv).drew).setCell 3 (.int .i64 s'.lf))
  have U2 := U.to (o' := svO s') (by rw [e]; rfl)
  refine ⟨U2.2.os.trans B2.os, U2.2.tape.trans B2.tape, U2.2.output.trans B2.output, Nat.le_trans B2.size U2.2.size, U2.1, ?_, fun k hk hkb _ => ?_, .inr hz⟩
  · exact Ker.owns_kept own fun k hk => U2.2.block k (Ker.owns_lt own hk) (by intro q; cases q; have := hz _ hk; omega)
  · exact (U2.2.block k (Nat.lt_of_lt_of_le hk B2.size) (by intro q; cases q; exact hkb rfl)).trans (B2.block k hk)
structure DueW (w W : World) (x y : Nat) (now n : Int) : Prop where
  below : Below w.heap.size w W
  hx : W.heap[x]? = some (.cells #[.int .i64 now] 2 (0, 0))
  hy : W.heap[y]? = some (.cells #[.int .i64 n] 2 (0, 0))
  xw : w.heap.size ≤ x
  yw : w.heap.size ≤ y
  xy : x ≠ y
theorem DueW.reads {w W W' : World} {x y : Nat} {now n : Int} (h : DueW w W x y now n) (k : Below W.heap.size W W') : DueW w W' x y now n :=
  ⟨h.below.trans (k.mono h.below.size), below_has k h.hx, below_has k h.hy, h.xw, h.yw, h.xy⟩
theorem DueW.first (w : World) (now : Int) : DueW w ((w.alloc (.cells #[.int .i64 now] 2)).alloc (.cells #[.int .i64 0] 2)) w.heap.size (w.heap.size + 1) now 0 := by
  have b1 := (Below.refl w.heap.size w).alloc (Nat.le_refl _) (.cells #[.int .i64 now] 2)
  have x1 := heap_alloc_new w (.cells #[.int .i64 now] 2)
  have y1 := heap_alloc_new (w.alloc (.cells #[.int .i64 now] 2)) (.cells #[.int .i64 0] 2)
  rw [World.size_alloc] at y1
  exact ⟨b1.alloc b1.size _, below_alloc_has x1, y1, Nat.le_refl _, Nat.le_succ _, by omega⟩
set_option maxHeartbeats 1000000 in
theorem due_none (w : World) (b : Nat) (s : Sv) (h : w.heap[b]? = some (svO s)) (hp : PcW w s) (hb : 0 < s.bu) (hl : s.ps.length ≤ 1) (now : Int) (hn : ∀ p ∈ s.ps, now < p.1) (l0 : 0 ≤ s.lf) (l1 : s.lf ≤ 1099511627776) :
    Calls Tryz.prog 85 #[.pointer (some ⟨b, 0, none⟩), .int .i64 now] w fun e w' => ∃ pv, e = .returned (.int .i64 0) ∧ SvTo w b s { s with pv := pv } w' := by
  have b1 := (Below.refl w.heap.size w).alloc (Nat.le_refl _) (.cells #[.int .i64 now] 2)
  have A := is_c (w.alloc (.cells #[.int .i64 now] 2)) b s (below_has b1 h) hb
  have HH := Lib.hid h
  have HP := Lib.hid hp
  have HN := Lib.hid hn
  have HL := Lib.hid hl
  have hbw := has_lt h
  clear h hp hn hl b1
  go_enter Tryz.func85, Tryz.ntmps85
  go_upto_region 4 with (go_at_call 151; refine A.mono ?_; rintro e w' ⟨rfl, rfl⟩)
  have D0 := DueW.first w now
  obtain ⟨x, hx⟩ : ∃ x, x = w.heap.size := ⟨_, rfl⟩
  obtain ⟨y, hy⟩ : ∃ y, y = w.heap.size + 1 := ⟨_, rfl⟩
  rw [← hy, ← hx] at D0
  rw [← hy, ← hx]
  refine world_wp (fun W => DueW w W x y now 0) D0 ?_
  clear D0 hx hy A
  rintro W D
  have hbW : W.heap[b]? = some (svO s) := below_has D.below HH.out
  have c7 : W.cell? ⟨b, 7, none⟩ = some s.pv := has_cell 7 hbW rfl
  have hpW : PcW W s := Ker.owns_kept HP.out fun g hg => D.below.block g (pc_lt HP.out hg)
  have CL := clone_c W s hpW (by have := HL.out; omega)
  have HD := Lib.hid D
  clear hbW hpW D
  go_upto_region 5 with (first
    | (go_at_call 156; refine CL.mono ?_; rintro e w1 ⟨v', rfl, ow, hz, b1⟩; obtain ⟨a', c', rfl⟩ : ∃ a c, v' = .slice a s.ps.length c := ow.slice; have HOW := Lib.hid ow; have HZ := Lib.hid hz; have HD1 := Lib.hid (HD.out.reads b1); clear ow hz b1 CL)
    | (go_at_call 155; refine (delete_none w1 (.slice a' s.ps.length c') s.ps HOW.out HL.out x y now HD1.out.hx HN.out).mono ?_; rintro e w2 ⟨rfl, b2⟩
       have HD2 := Lib.hid (HD1.out.reads b2)
       have HOW2 := Lib.hid (Ker.owns_kept HOW.out fun g hg => b2.block g (Ker.owns_lt HOW.out hg))
       have hb2 : w2.heap[b]? = some (svO s) := below_has HD2.out.below HH.out
       have e7 : w2.cell? ⟨b, 7, none⟩ = some s.pv := has_cell 7 hb2 rfl
       have e3 : w2.cell? ⟨b, 3, none⟩ = some (.int .i64 s.lf) := has_cell 3 hb2 rfl
       have ey : w2.cell? ⟨y, 0, none⟩ = some (.int .i64 0) := has_cell 0 HD2.out.hy rfl
       have fz := has_free hb2
       have by' : b ≠ y := by have := HD2.out.yw; omega
       have yb : y ≠ b := by have := HD2.out.yw; omega
       clear hb2 b2))
  go_region
  go_wp2_with fail
  go_ret
  exact ⟨.slice a' s.ps.length c', rfl, due_end (s' := { s with pv := .slice a' s.ps.length c' }) HH.out HD2.out.below HOW2.out (fun z hz => Nat.le_trans HD.out.below.size (HZ.out z hz)) rfl rfl⟩
set_option maxHeartbeats 1000000 in
theorem due_back (w : World) (b : Nat) (s : Sv) (a m : Int) (h : w.heap[b]? = some (svO s)) (hp : PcW w s) (hb : 0 < s.bu) (hl : s.ps = [(a, m)]) (now : Int) (hn : a ≤ now) (l0 : 0 ≤ s.lf) (l1 : s.lf ≤ 1000) (m0 : 0 ≤ m) (m1 : m ≤ 1000) :
    Calls Tryz.prog 85 #[.pointer (some ⟨b, 0, none⟩), .int .i64 now] w fun e w' => ∃ pv, e = .returned (.int .i64 m) ∧ SvTo w b s { s with pv := pv, ps := [], lf := s.lf + m } w' := by
  have b1 := (Below.refl w.heap.size w).alloc (Nat.le_refl _) (.cells #[.int .i64 now] 2)
  have A := is_c (w.alloc (.cells #[.int .i64 now] 2)) b s (below_has b1 h) hb
  have HH := Lib.hid h
  have HP := Lib.hid hp
  have HN := Lib.hid hn
  have hl1 : s.ps.length = 1 := by rw [hl]; rfl
  have HL1 := Lib.hid hl1
  have HL := Lib.hid hl
  have hbw := has_lt h
  clear h hp hn hl hl1 b1
  go_enter Tryz.func85, Tryz.ntmps85
  go_upto_region 4 with (go_at_call 151; refine A.mono ?_; rintro e w' ⟨rfl, rfl⟩)
  have D0 := DueW.first w now
  obtain ⟨x, hx⟩ : ∃ x, x = w.heap.size := ⟨_, rfl⟩
  obtain ⟨y, hy⟩ : ∃ y, y = w.heap.size + 1 := ⟨_, rfl⟩
  rw [← hy, ← hx] at D0
  rw [← hy, ← hx]
  refine world_wp (fun W => DueW w W x y now 0) D0 ?_
  clear D0 hx hy A
  rintro W D
  have hbW : W.heap[b]? = some (svO s) := below_has D.below HH.out
  have c7 : W.cell? ⟨b, 7, none⟩ = some s.pv := has_cell 7 hbW rfl
  have hpW : PcW W s := Ker.owns_kept HP.out fun g hg => D.below.block g (pc_lt HP.out hg)
  have CL := clone_c W s hpW (by have := HL1.out; omega)
  have HD := Lib.hid D
  clear hbW hpW D
  go_upto_region 5 with (first
    | (go_at_call 156; refine CL.mono ?_; rintro e w1 ⟨v', rfl, ow, hz, b1⟩
       have ow2 : w1.ownsRow 0 348 2 v' 1 (pcC [(a, m)]) := by
         have q : w1.ownsRow 0 348 2 v' s.ps.length (pcC s.ps) := ow
         rw [HL.out] at q
         exact q
       obtain ⟨g, cap, cur, rfl, hg, hc1, hcm, hcs, g0, g1⟩ := one_cells ow2
       have hgw : W.heap.size ≤ g := hz g rfl
       have HGW := Lib.hid hgw
       have HG := Lib.hid hg
       have HC := Lib.hid (And.intro hc1 (And.intro hcm hcs))
       have HD1 := Lib.hid (HD.out.reads b1)
       have gy : g ≠ y := fun e => by have := has_lt HD.out.hy; omega
       have DL := delete_due w1 g cap x y cur a m now 0 hg g0 g1 hc1 HD1.out.hx HD1.out.hy HD1.out.xy gy HN.out (by omega) (by omega) m0 (by omega)
       clear ow ow2 hz b1 CL hgw hg hc1 hcm hcs g0 g1 gy)
    | (go_at_call 155; refine DL.mono ?_; rintro e w2 ⟨rfl, y2, g2, u2⟩
       have hB2 : Below w.heap.size w w2 := HD1.out.below.trans (u2.below (B := w.heap.size) (Nat.le_trans HD.out.below.size HGW.out) HD1.out.yw HD1.out.below.size)
       have HB2 := Lib.hid hB2
       have HG2 := Lib.hid g2
       have hb2 : w2.heap[b]? = some (svO s) := below_hasB hB2 HH.out hbw
       have e7 : w2.cell? ⟨b, 7, none⟩ = some s.pv := has_cell 7 hb2 rfl
       have e3 : w2.cell? ⟨b, 3, none⟩ = some (.int .i64 s.lf) := has_cell 3 hb2 rfl
       have ey : w2.cell? ⟨y, 0, none⟩ = some (.int .i64 (0 + m)) := has_cell 0 y2 rfl
       rw [Int.zero_add] at ey
       have fz := has_free hb2
       have by' : b ≠ y := by have := HD1.out.yw; omega
       have yb : y ≠ b := by have := HD1.out.yw; omega
       clear hb2 hB2 y2 g2 u2 DL))
  go_region
  go_wp2_with fail
  go_ret
  refine ⟨.slice (some ⟨g, 0, none⟩) 0 cap, rfl, due_end (s' := { s with pv := .slice (some ⟨g, 0, none⟩) 0 cap, ps := [], lf := s.lf + m }) HH.out HB2.out ?_ (fun z hz => by cases hz; exact Nat.le_trans HD.out.below.size HGW.out) rfl rfl⟩
  exact ⟨rfl, .inr ⟨g, cap, _, rfl, Nat.zero_le _, HG2.out, Nat.zero_le _, HC.out.2.1, by simp [HC.out.2.2], rfl⟩⟩
/-- A server is made. -/
theorem new_c (w : World) (bu pe : Int) (b0 : 1 ≤ bu) (b1 : bu ≤ pe) (p1 : pe ≤ 1099511627776) : Calls Tryz.prog 492 #[.int .i64 bu, .int .i64 pe, .int .i64 4] w fun e w' => e = .returned (.tuple #[.pointer (some ⟨w.heap.size, 0, none⟩), .int .i64 0]) ∧ w' = w.alloc (.cells #[.int .i64 bu, .int .i64 pe, .int .i64 4, .int .i64 bu, .bool false, .int .i64 0, .int .i64 0, .slice none 0 0] 344) := by
  go_enter Tryz.func492, Tryz.ntmps492
  go_wp2
  go_ret2
  exact ⟨rfl, rfl⟩
theorem newServer_c (w : World) (bu pe : Int) (b0 : 1 ≤ bu) (b1 : bu ≤ pe) (p1 : pe ≤ 1099511627776) : Calls Tryz.prog 358 #[.int .i64 bu, .int .i64 pe] w fun e w' => e = .returned (.tuple #[.pointer (some ⟨w.heap.size, 0, none⟩), .int .i64 0]) ∧ w' = w.alloc (.cells #[.int .i64 bu, .int .i64 pe, .int .i64 4, .int .i64 bu, .bool false, .int .i64 0, .int .i64 0, .slice none 0 0] 344) := by
  have A := new_c w bu pe b0 b1 p1
  go_enter Tryz.func358, Tryz.ntmps358
  go_wp2_with (go_at_call 492; refine A.mono ?_; rintro e w' ⟨rfl, rfl⟩)
  go_ret2
  exact ⟨rfl, rfl⟩
end Go.Proofs.YtagmlijhgncklaaGreatDoor.Spo
namespace Go.Proofs.YtagmlijhgncklaaGreatDoor.Ker
open Go.RowKit Go.Proofs.YtagmlijhgncklaaGreatDoor Go.Proofs.YtagmlijhgncklaaGreatDoor.Spo

structure HasSv (S : KS) (sv : Nat) (s : Sv) : Prop where
  e0 : S.ext 0 = some (sv, svO s)
  e1 : ∀ g, s.pv.ownBlock = some g → ∃ o, S.ext 1 = some (g, o)
  pc : ∀ W : World, (∀ g o, S.ext 1 = some (g, o) → W.heap[g]? = some o) → PcW W s
  bu : 0 < s.bu
theorem obj_ext {S : KS} (k : Nat) : S.obj (k + 45) = S.ext k := by
  show (if k + 32 < 32 then S.thObj (k + 32) else S.ext (k + 32 - 32)) = _
  rw [if_neg (by omega), show k + 32 - 32 = k by omega]
theorem HasSv.has {w : World} {S : KS} {sv : Nat} {s : Sv} (H : HasSv S sv s) (h : KW w S) : w.heap[sv]? = some (svO s) ∧ S.lo.lab sv = 50 := h.ob 45 sv _ ((obj_ext 0).trans H.e0)
theorem HasSv.pcw {w : World} {S : KS} {sv : Nat} {s : Sv} (H : HasSv S sv s) (h : KW w S) : PcW w s := H.pc w fun g o ho => (h.ob 46 g o ((obj_ext 1).trans ho)).1
theorem HasSv.apart {w : World} {S : KS} {sv : Nat} {s : Sv} (H : HasSv S sv s) (h : KW w S) : Apart sv s := by
  intro e
  obtain ⟨o, ho⟩ := H.e1 sv e
  have q := (h.ob 46 sv o ((obj_ext 1).trans ho)).2
  have := (H.has h).2
  omega
/-- The kernel whose server is s' now. -/
def KS.withSv (S : KS) (w' : World) (sv : Nat) (s' : Sv) : KS :=
  { S with ext := fun n => if n = 0 then some (sv, svO s') else if n = 1 then (s'.pv.ownBlock.bind fun g => (w'.heap[g]?).map fun o => (g, o)) else S.ext n, lo := { S.lo with lab := fun x => if s'.pv.ownBlock = some x then 51 else S.lo.lab x } }
theorem KW.server {w w' : World} {S : KS} {sv : Nat} {s s' : Sv} (h : KW w S) (H : HasSv S sv s) (T : SvTo w sv s s' w') (hb : 0 < s'.bu) : KW w' (S.withSv w' sv s') ∧ Fr S (S.withSv w' sv s') w w' ∧ HasSv (S.withSv w' sv s') sv s' := by
  have l50 := (H.has h).2
  have g51 : ∀ g, s.pv.ownBlock = some g → S.lo.lab g = 51 := fun g hg => by
    obtain ⟨o, ho⟩ := H.e1 g hg
    exact (h.ob 46 g o ((obj_ext 1).trans ho)).2
  have keep : ∀ c, c < w.heap.size → S.lo.lab c ≠ 50 → S.lo.lab c ≠ 51 → w'.heap[c]? = w.heap[c]? := fun c hc h0 h1 => T.keep c hc (by intro e; subst e; exact h0 l50) (by intro e; exact h1 (g51 c e))
  have lab : ∀ x, x < w.heap.size → (S.withSv w' sv s').lo.lab x = S.lo.lab x := fun x hx => by
    show (if s'.pv.ownBlock = some x then 51 else S.lo.lab x) = _
    by_cases e : s'.pv.ownBlock = some x
    · rw [if_pos e]
      rcases T.blk with q | q
      · exact (g51 x (q.symm.trans e)).symm
      · have := q x e; omega
    · rw [if_neg e]
  have lt : ∀ {x : Nat} {o : Obj}, w.heap[x]? = some o → x < w.heap.size := fun h => has_lt h
  have hsv : sv < w.heap.size := lt (H.has h).1
  have K : KW w' (S.withSv w' sv s') := by
    refine ⟨?_, ?_, ?_, ?_, ?_, ?_, ?_, ?_, ?_⟩
    · intro i b o hi
      by_cases e0 : i = 45
      · subst e0
        cases hi
        exact ⟨T.has, (lab _ hsv).trans l50⟩
      · by_cases e1 : i = 46
        · subst e1
          have hi : (s'.pv.ownBlock.bind fun g => (w'.heap[g]?).map fun o => (g, o)) = some (b, o) := hi
          cases hg : s'.pv.ownBlock with
          | none => rw [hg] at hi; cases hi
          | some g =>
            rw [hg] at hi
            cases ho : w'.heap[g]? with
            | none => rw [Option.bind_some, ho] at hi; cases hi
            | some o' =>
              rw [Option.bind_some, ho] at hi
              obtain ⟨rfl, rfl⟩ : g = b ∧ o' = o := by simpa using hi
              exact ⟨ho, by show (if s'.pv.ownBlock = some g then 51 else _) = _; rw [if_pos hg]⟩
        · have same : (S.withSv w' sv s').obj i = S.obj i := by
            match i with
            | 0 => rfl
            | 1 => rfl | 2 => rfl | 3 => rfl | 4 => rfl | 5 => rfl | 6 => rfl | 7 => rfl | 8 => rfl | 9 => rfl | 10 => rfl | 11 => rfl | 12 => rfl
            | n + 13 =>
              show (if n < 32 then S.thObj n else (S.withSv w' sv s').ext (n - 32)) = (if n < 32 then S.thObj n else S.ext (n - 32))
              by_cases hn : n < 32
              · rw [if_pos hn, if_pos hn]
              · rw [if_neg hn, if_neg hn]
                show (if n - 32 = 0 then _ else if n - 32 = 1 then _ else S.ext (n - 32)) = _
                rw [if_neg (by omega), if_neg (by omega)]
          rw [same] at hi
          have k := h.ob i b o hi
          exact ⟨(keep b (lt k.1) (by rw [k.2]; omega) (by rw [k.2]; omega)).trans k.1, (lab _ (lt k.1)).trans k.2⟩
    · intro c x hx
      have k := h.cs c x hx
      exact ⟨(keep c (lt k.1) (by rw [k.2]; omega) (by rw [k.2]; omega)).trans k.1, (lab _ (lt k.1)).trans k.2⟩
    · obtain ⟨xs, hx⟩ := h.l
      exact ⟨xs, owns_kept hx fun c hc => keep c (owns_lt hx hc) (by rw [h.ll c hc]; omega) (by rw [h.ll c hc]; omega)⟩
    · intro b hb
      obtain ⟨xs, hx⟩ := h.l
      exact (lab _ (owns_lt hx hb)).trans (h.ll b hb)
    · exact owns_kept h.nt fun c hc => keep c (owns_lt h.nt hc) (by rw [h.nl c hc]; omega) (by rw [h.nl c hc]; omega)
    · intro b hb
      exact (lab _ (owns_lt h.nt hb)).trans (h.nl b hb)
    · obtain ⟨xs, hx⟩ := h.a
      exact ⟨xs, owns_kept hx fun c hc => keep c (owns_lt hx hc) (by rw [h.al c hc]; omega) (by rw [h.al c hc]; omega)⟩
    · intro b hb
      obtain ⟨xs, hx⟩ := h.a
      exact (lab _ (owns_lt hx hb)).trans (h.al b hb)
    · intro c hc
      show (if s'.pv.ownBlock = some c then 51 else S.lo.lab c) = 0
      rw [if_neg (fun e => by have := pc_lt T.pc e; omega)]
      exact h.fresh c (Nat.le_trans T.size hc)
  have e1 : ∀ g, s'.pv.ownBlock = some g → ∃ o, (S.withSv w' sv s').ext 1 = some (g, o) := fun g hg => by
    have hl := pc_lt T.pc hg
    refine ⟨w'.heap[g], ?_⟩
    show (s'.pv.ownBlock.bind fun g => (w'.heap[g]?).map fun o => (g, o)) = _
    rw [hg, Option.bind_some, Array.getElem?_eq_getElem hl]
    rfl
  refine ⟨K, ⟨T.os, T.tape, T.output, T.size, fun k hk h0 => keep k hk (by rw [h0]; omega) (by rw [h0]; omega), lab⟩, ⟨rfl, e1, fun W hW => ?_, hb⟩⟩
  refine owns_kept T.pc fun g hg => ?_
  have hl := pc_lt T.pc hg
  have ho : (S.withSv w' sv s').ext 1 = some (g, w'.heap[g]) := by
    show (s'.pv.ownBlock.bind fun g => (w'.heap[g]?).map fun o => (g, o)) = _
    rw [hg, Option.bind_some, Array.getElem?_eq_getElem hl]
    rfl
  rw [hW g _ ho, Array.getElem?_eq_getElem hl]
/-- What is said of a server holds of each kernel with the same. -/
theorem HasSv.same {S S' : KS} {sv : Nat} {s : Sv} (H : HasSv S sv s) (he : S'.ext = S.ext) : HasSv S' sv s :=
  ⟨by rw [he]; exact H.e0, fun g hg => by rw [he]; exact H.e1 g hg, fun W hW => H.pc W (by rw [he] at hW; exact hW), H.bu⟩
/-- A sporadic thread's priority. -/
theorem prio_high (w : World) (p sv : Nat) (t : Th) (s : Sv) (h : w.heap[t.b]? = some (thO p t)) (hp : t.pol = 2) (hs : t.srv = some ⟨sv, 0, none⟩) (hv : w.heap[sv]? = some (svO s)) (hb : 0 < s.bu) {x : Option Addr} {cap : Nat} (he : s.pv = .slice x s.ps.length cap) (hh : highF s = true) :
    Calls Tryz.prog 49 #[.pointer (some ⟨t.b, 0, none⟩)] w fun e w' => e = .returned (.int .i64 t.high) ∧ Below w.heap.size w w' := by
  have c12 := tc12 h
  have c14 := tc14 h
  have c16 := tc16 h
  rw [hs] at c16
  have d : (t.pol != 2) = false := by simp [hp]
  have A := high_c w sv s hv hb he hh
  have HH := Lib.hid h
  clear h he hh hv hs hp
  go_enter Tryz.func49, Tryz.ntmps49
  go_wp2_with (go_at_call 81; refine A.mono ?_; rintro e w1 ⟨rfl, b1⟩; have e14 := tc14 (below_has b1 HH.out); have HB := Lib.hid b1; clear b1 A)
  go_ret
  exact ⟨rfl, HB.out⟩
theorem prio_low (w : World) (p sv : Nat) (t : Th) (s : Sv) (h : w.heap[t.b]? = some (thO p t)) (hp : t.pol = 2) (hs : t.srv = some ⟨sv, 0, none⟩) (hv : w.heap[sv]? = some (svO s)) (hb : 0 < s.bu) {x : Option Addr} {cap : Nat} (he : s.pv = .slice x s.ps.length cap) (hh : highF s = false) :
    Calls Tryz.prog 49 #[.pointer (some ⟨t.b, 0, none⟩)] w fun e w' => e = .returned (.int .i64 t.low) ∧ Below w.heap.size w w' := by
  have c12 := tc12 h
  have c16 := tc16 h
  rw [hs] at c16
  have d : (t.pol != 2) = false := by simp [hp]
  have A := high_c w sv s hv hb he hh
  have HH := Lib.hid h
  clear h he hh hv hs hp
  go_enter Tryz.func49, Tryz.ntmps49
  go_wp2_with (go_at_call 81; refine A.mono ?_; rintro e w1 ⟨rfl, b1⟩; have e15 := tc15 (below_has b1 HH.out); have HB := Lib.hid b1; clear b1 A)
  go_ret
  exact ⟨rfl, HB.out⟩
end Go.Proofs.YtagmlijhgncklaaGreatDoor.Ker
namespace Go.Proofs.YtagmlijhgncklaaGreatDoor.Ker
open Go.RowKit Go.Proofs.YtagmlijhgncklaaGreatDoor

attribute [local go_sem] Oper.semAt_some
attribute [local go_sem] Tab.wide_fn Tab.wide_round_fn

/-- What prio answers for each thread that has not ended; it may draw. -/
def PrioB (S : KS) (f : Nat → Int) : Prop := ∀ (W : World) (p : Nat) (t : Th), KW W S → p < 16 → S.th p = some t → t.en = false → Calls Tryz.prog 49 #[.pointer (some ⟨t.b, 0, none⟩)] W fun e w' => e = .returned (.int .i64 (f p)) ∧ Below W.heap.size W w'
theorem PrioB.of {S : KS} {f : Nat → Int} (h : PrioOk S f) : PrioB S f := fun W p t a b c d => (h W p t a b c d).mono fun e w' ⟨h1, h2⟩ => ⟨h1, by subst h2; exact Below.refl _ _⟩
theorem GrW.reads' {w W W' : World} {S : KS} {f : Nat → Int} {g i : Nat} (h : GrW w W S f g i) (k : Below W.heap.size W W') : GrW w W' S f g i := h.reads k
set_option maxRecDepth 100000 in
set_option maxHeartbeats 1000000 in
theorem graphB_c (w : World) (S : KS) {B : KB} (hB : S.B = B) (h : KW w S) (P : KP S) (f : Nat → Int) (hf : PrioB S f) (hr : ∀ p t, p < 16 → S.th p = some t → t.en = false → 0 ≤ f p ∧ f p ≤ 31) (hk : ∀ p t, S.th p = some t → t.wt.kind ≠ 2) (hm : ∀ i, Tab.tk S.muT i = false) :
    Calls Tryz.prog 69 #[.pointer (some ⟨B.kb, 0, none⟩)] w fun e w' => ∃ g, e = .returned (.pointer (some ⟨g, 0, none⟩)) ∧ w.heap.size ≤ g ∧ GrW w w' S f g 16 := by
  subst hB
  have HK := Lib.hid h
  have hbx := below_alloc_has (o := .cells #[.pointer (some ⟨S.B.kb, 0, none⟩)] 36) (h.has 0 rfl)
  have n1 := P.n1
  have n16 := P.n16
  refine Tab.calls_of_marks 4 Tryz.func69 rfl ?_
  simp only [Tryz.ntmps69, List.size_toArray, List.length_cons, List.length_nil, Nat.reduceAdd, Nat.reduceSub, Array.replicate_succ, Array.replicate_zero, List.push_toArray, List.append_toArray, List.nil_append, List.cons_append]
  have k0 := h.reads ((Below.refl w.heap.size w).alloc (Nat.le_refl _) (.cells #[.pointer (some ⟨S.B.kb, 0, none⟩)] 36))
  have cj := kc0 (B := S.B) k0 rfl
  rw [P.n] at cj
  have c00 : (w.alloc (.cells #[.pointer (some ⟨S.B.kb, 0, none⟩)] 36)).cell? ⟨w.heap.size, 0, none⟩ = some (.pointer (some ⟨S.B.kb, 0, none⟩)) := has_cell 0 (heap_alloc_new w _) rfl
  have HP := Lib.hid P
  clear h P hbx
  refine wpIn_wide.2 ?_
  go_wp2_with (first
    | (go_at_call 111; refine (Inh.new_c _ S.B.n n1 n16).mono ?_; rintro e w1 ⟨rfl, x1, b1, z1⟩; have k1 := k0.reads b1; have bx := below_has b1 (heap_alloc_new w (.cells #[.pointer (some ⟨S.B.kb, 0, none⟩)] 36)); have c0 : w1.cell? ⟨w.heap.size, 0, none⟩ = some (.pointer (some ⟨S.B.kb, 0, none⟩)) := has_cell 0 bx rfl; have hr72 := k1.tpr; have HB1 := Lib.hid (((Below.refl w.heap.size w).alloc (Nat.le_refl _) (.cells #[.pointer (some ⟨S.B.kb, 0, none⟩)] 36)).trans (b1.mono (by simp))); clear b1 cj k0)
    | (refine wpList_load_mid rfl 72 (.tmp 27) rfl S.B.kb 10 rfl S.tps _ hr72 Tryz.underlying72 rfl (by kernel_rfl) ?_))
  rw [World.size_alloc] at x1
  clear hr72 c0 c00
  have H1 : GrW w w1 S f (w.heap.size + 1) 0 := ⟨HB1.out, bx, Inh.newG S.B.n, x1, Inh.newG_ok n1 n16, rfl, fun p t hp => absurd hp (Nat.not_lt_zero _), rfl, rfl⟩
  clear x1 z1 k1 bx HB1
  have hsz : w.heap.size + 1 < w1.heap.size := by obtain ⟨G, hG, _⟩ := H1.g; exact has_lt hG
  go_loopw [29] (fun i wr => ∃ j : Nat, i = .int .i64 j ∧ j ≤ 16 ∧ GrW w wr S f (w.heap.size + 1) j) (fun i _ => 16 - (intOf i).toNat)
  case atStart => exact ⟨0, rfl, by omega, H1⟩
  case round =>
    clear H1
    obtain ⟨j, rfl, hj, GW⟩ := hrel
    by_cases hlt : j < 16
    · have hix := run_index_72 S.tps j _ rfl hlt (S.tps_get hlt) wr
      have htp := HP.out.tp j hlt
      cases hth : S.th j with
      | none =>
        rw [hth, Option.map_none] at htp
        rw [htp] at hix
        have HG := Lib.hid GW
        have HTH := Lib.hid hth
        clear htp hth GW
        go_wp2_with fail
        go_roundw
        case rel => exact ⟨j + 1, by go_num, by omega, HG.out.below, HG.out.box, by
          obtain ⟨G, g1, g2, g3, g4, g5⟩ := HG.out.g
          exact ⟨G, g1, g2, g3, fun p t hp hp16 ht he => by
            by_cases e : p = j
            · subst e; rw [HTH.out] at ht; cases ht
            · exact g4 p t (by omega) hp16 ht he, g5⟩⟩
        case measure => simp [intOf]; omega
      | some t =>
        rw [hth, Option.map_some] at htp
        rw [htp] at hix
        have hT : wr.heap[t.b]? = some (thO j t) := (HK.out.reads GW.below).getTh hlt hth
        have c20 := tc20 hT
        cases hen : t.en with
        | true =>
          rw [hen] at c20
          have HG := Lib.hid GW
          have HTH := Lib.hid hth
          have HEN := Lib.hid hen
          clear htp hth GW hen hT
          go_wp2_with fail
          go_roundw
          case rel => exact ⟨j + 1, by go_num, by omega, HG.out.below, HG.out.box, by
            obtain ⟨G, g1, g2, g3, g4, g5⟩ := HG.out.g
            exact ⟨G, g1, g2, g3, fun p x hp hp16 hx he => by
              by_cases e : p = j
              · subst e; rw [HTH.out] at hx; cases hx; rw [HEN.out] at he; cases he
              · exact g4 p x (by omega) hp16 hx he, g5⟩⟩
          case measure => simp [intOf]; omega
        | false =>
          rw [hen] at c20
          obtain ⟨G, g1, g2, g3, g4, g5, g6⟩ := GW.g
          have A := hf wr j t (HK.out.reads GW.below) hlt hth hen
          have jn := HP.out.thn j t hth
          have hfr := hr j t hlt hth hen
          have Bc := fun (W : World) (hW : W.heap[w.heap.size + 1]? = some (Inh.gO G)) => Inh.base_c W (w.heap.size + 1) G j (f j) hW g2 (by rw [g3]; exact jn) hfr
          have HG1 := Lib.hid g1
          have d : (t.wt.kind == 2) = false := by simpa using hk j t hth
          have j0 : (0 : Int) ≤ j := by omega
          have j1 : (j : Int) < 16 := by omega
          have HG := Lib.hid GW
          have HTH := Lib.hid hth
          have HJN := Lib.hid jn
          have HFR := Lib.hid hfr
          have HG2 := Lib.hid g2
          have HG3 := Lib.hid g3
          have HG4 := Lib.hid g4
          have HG5 := Lib.hid g5
          have HG6 := Lib.hid g6
          clear htp hth GW hen hT jn hfr g1 g2 g3 g4 g5 g6
          go_wp2_with (first
            | (go_at_call 49; refine A.mono ?_; rintro e wq ⟨rfl, bq⟩; have HGQ := Lib.hid (HG.out.reads bq); have HG1Q := Lib.hid (below_has bq HG1.out); clear bq A)
            | (go_at_call 112; refine (Bc _ HG1Q.out).mono ?_; rintro e w2 ⟨rfl, u2⟩; have B2 := HGQ.out.below.trans (u2.below (B := w.heap.size) (by omega) HGQ.out.below.size); have c23 := tc23 ((HK.out.reads B2).getTh hlt HTH.out); have HU := Lib.hid u2; have HB2 := Lib.hid B2; clear u2 B2))
          go_roundw
          case rel =>
            refine ⟨j + 1, by go_num, by omega, HB2.out, HU.out.other HGQ.out.box (by omega), { G with ba := Inh.upd G.ba j (f j) }, HU.out.1, ?_, HG3.out, fun p x hp hp16 hx he => ?_, HG5.out, HG6.out⟩
            · have k := HG2.out
              exact ⟨k.n1, k.n2, fun i hi => by
                show 0 ≤ (if i = j then f j else G.ba i) ∧ (if i = j then f j else G.ba i) ≤ 31
                split
                · exact HFR.out
                · exact k.ba i hi, k.ce, k.wt, fun i h1 h2 => by
                have q := k.out i h1 h2
                have hij : i ≠ j := by
                  have h1' : G.n ≤ i := h1
                  rw [HG3.out] at h1'
                  have := HJN.out
                  omega
                exact ⟨by show (if i = j then f j else G.ba i) = 0; rw [if_neg hij]; exact q.1, q.2⟩⟩
            · show (if p = j then f j else G.ba p) = f p
              by_cases e : p = j
              · rw [if_pos e, e]
              · rw [if_neg e]
                exact HG4.out p x (by omega) hp16 hx he
          case measure => simp [intOf]; omega
    · obtain rfl : j = 16 := by omega
      obtain ⟨G, g1, g2, g3, g4, g5, g6⟩ := GW.g
      have hbx := GW.box
      have B1 := GW.below
      have szr : w.heap.size + 1 < wr.heap.size := has_lt g1
      go_upto_region 13 with fail
      refine world_wp (fun W => GrE w W S (w.heap.size + 1) wr.heap.size G ∧ wr.heap.size < W.heap.size) ⟨⟨B1.alloc B1.size _, below_alloc_has hbx, below_alloc_has g1, heap_alloc_new wr _⟩, by simp⟩ ?_
      rintro wa ⟨GE, sza⟩
      obtain ⟨cb, hcb⟩ : ∃ cb, cb = wr.heap.size := ⟨_, rfl⟩
      rw [← hcb] at GE sza szr ⊢
      clear hcb
      have ka := HK.out.reads GE.below
      have ca : wa.cell? ⟨w.heap.size, 0, none⟩ = some (.pointer (some ⟨S.B.kb, 0, none⟩)) := has_cell 0 GE.box rfl
      have c63 := kc63 (B := S.B) ka rfl
      have cmt : wa.cell? ⟨S.B.mu, 0, none⟩ = some (.pointer (some ⟨S.B.mub, 0, none⟩)) := has_cell 0 (ka.has 9 rfl) rfl
      have HE := Lib.hid GE
      have HG2 := Lib.hid g2
      have HG3 := Lib.hid g3
      have HG4 := Lib.hid g4
      have HG5 := Lib.hid g5
      have HG6 := Lib.hid g6
      clear GE GW g1 g2 g3 g4 g5 g6 hbx B1 hr hk hf hlt hj
      go_wp2_with (go_at_call 109; refine (Tab.all_c _ _).mono ?_; rintro e w6 ⟨rfl, x6, b6⟩; have k6 := ka.reads b6; have G6 : GrE w w6 S (w.heap.size + 1) cb G := ⟨HE.out.below.trans (b6.mono HE.out.below.size), below_has b6 HE.out.box, below_has b6 HE.out.g, below_has b6 HE.out.cs⟩; clear ka ca c63 cmt b6)
      have sz6 : wa.heap.size < w6.heap.size := has_lt x6
      refine (wpIn_wide (n := 4)).1 ?_
      refine named ?_
      intro fa hfa
      refine wpIn_rangeFunc_ownF rfl (by decide) (gf := 178) (lb := #[.pointer (some ⟨wa.heap.size, 0, none⟩)]) (by rw [hfa]; rfl) trivial Tab.enters178
        (Tab.all_free 3 (by decide) S.B.mub wa.heap.size S.muT w6 (k6.has 10 rfl) x6 HP.out.mu1 HP.out.mu2 (fun i => ⟨(HP.out.mug i).1, by have := (HP.out.mug i).2; omega⟩) hm) (fun _ _ => trivial) (fun _ _ _ _ _ _ _ _ => trivial) (Below.refl _ _) (fun _ => rfl)
        (fun (_ : List (Nat × Int)) W => GrE w W S (w.heap.size + 1) cb G) (fun _ _ _ => False)
        (fun _ X Y row hs hg hr => ⟨ownFrom_below (β := Unit) (n₀ := w.heap.size) (B := w6.heap.size) (w₀ := w) (Nat.le_refl _) (by omega) () X Y row hs.below hg hr, Tab.own_has (β := Unit) (B := w6.heap.size) (by omega) (fun _ => _) () X Y row hs.box hg hr, Tab.own_has (β := Unit) (B := w6.heap.size) (by omega) (fun _ => _) () X Y row hs.g hg hr, Tab.own_has (β := Unit) (B := w6.heap.size) (by omega) (fun _ => _) () X Y row hs.cs hg hr⟩) (fun _ => Tab.own_pure _) G6
        (fun x => { tmps := ((fa.tmps.setIfInBounds 83 (.int .i64 x.1)).setIfInBounds 84 (.int .i64 x.2)).setIfInBounds 11 (.int .i64 x.2), defers := [] })
        ?assign ?body ?done ?stop
      case assign =>
        intro l x W K hK
        subst hfa
        simp only [Tab.encH, Tab.zip2, Tab.fold2, List.setIfInBounds_toArray, List.set_cons_succ, List.set_cons_zero] at hK ⊢
        gi_wp2
        exact hK
      case body =>
        intro l pre x W _ hlen
        exact absurd hlen (Nat.not_lt_zero _)
      case stop =>
        rintro D c pre W _ h _ _
        exact h.elim
      case done =>
        rintro D ys W hD rfl hS hK
        subst hfa
        have kW := HK.out.reads hS.below
        have cW : W.cell? ⟨w.heap.size, 0, none⟩ = some (.pointer (some ⟨S.B.kb, 0, none⟩)) := has_cell 0 hS.box rfl
        have cj := kc0 (B := S.B) kW rfl
        rw [HP.out.n] at cj
        have HS := Lib.hid hS
        have HM := Lib.hid hK
        clear hS hK kW hm
        go_wp2_with fail
        clear cW cj
        go_loopw [119] (fun i wl => ∃ j : Nat, i = .int .i64 j ∧ j ≤ S.B.n ∧ GrE w wl S (w.heap.size + 1) cb G ∧ wl.heap[D]? = some (.deferred (some []))) (fun i _ => S.B.n - (intOf i).toNat)
        case atStart => exact ⟨0, rfl, by omega, HS.out, HM.out⟩
        case round =>
          obtain ⟨j, rfl, hj, E1, M1⟩ := hrel
          by_cases hlt : j < S.B.n
          · have cc : wr.cell? ⟨cb, j, none⟩ = some (.int .i64 0) := has_cell j E1.cs (by rw [List.getElem?_toArray, List.getElem?_replicate, if_pos (by omega)])
            have A := Inh.ceil_c wr (w.heap.size + 1) G j 0 E1.g HG2.out (by rw [HG3.out]; exact hlt) ⟨by omega, by omega⟩
            rw [show ({ G with ce := Inh.upd G.ce j 0 } : Inh.Gs) = G by
              have e : Inh.upd G.ce j 0 = G.ce := by
                rw [HG6.out]
                funext k
                unfold Inh.upd
                split <;> rfl
              rw [e]] at A
            have j0 : (0 : Int) ≤ j := by omega
            have j1 : (j : Int) < 16 := by omega
            have HE1 := Lib.hid E1
            have HM1 := Lib.hid M1
            clear E1 M1
            go_wp2_with (go_at_call 117; refine A.mono ?_; rintro e w2 ⟨rfl, u2⟩; have HU := Lib.hid u2; clear u2)
            go_roundw
            case rel => exact ⟨j + 1, by go_num, by omega, ⟨HE1.out.below.trans (HU.out.below (B := w.heap.size) (by omega) HE1.out.below.size), HU.out.other HE1.out.box (by omega), HU.out.1, HU.out.other HE1.out.cs (by omega)⟩, HU.out.other HM1.out (by omega)⟩
            case measure => simp [intOf]; omega
          · obtain rfl : j = S.B.n := by omega
            have HE1 := Lib.hid E1
            have HM1 := Lib.hid M1
            clear E1 M1
            go_wp2_with fail
            refine ⟨by simp, .inl ⟨_, _, rfl, run_takeDeferred HM1.out, ?_⟩⟩
            refine ⟨_, results_tmp rfl _ _ _, w.heap.size + 1, rfl, Nat.le_succ _, ?_⟩
            have Bm := Tab.below_mark HE1.out.below (by omega) HM1.out (.deferred none)
            exact ⟨Bm, (World.putObj_heap_other (by omega)).trans HE1.out.box, G, (World.putObj_heap_other (by omega)).trans HE1.out.g, HG2.out, HG3.out, HG4.out, HG5.out, HG6.out⟩
set_option maxRecDepth 100000 in
set_option maxHeartbeats 1000000 in
theorem settleB_c (w : World) (S : KS) {B : KB} (hB : S.B = B) (h : KW w S) (P : KP S) (f : Nat → Int) (hf : PrioB S f) (hr : ∀ p t, p < 16 → S.th p = some t → t.en = false → 0 ≤ f p ∧ f p ≤ 31) (hk : ∀ p t, S.th p = some t → t.wt.kind ≠ 2) (hm : ∀ i, Tab.tk S.muT i = false) (he : ∀ p t, p < 16 → S.th p = some t → t.en = false → f p = t.eff) :
    Calls Tryz.prog 42 #[.pointer (some ⟨B.kb, 0, none⟩)] w fun e w' => e = .returned (.tuple #[]) ∧ Below w.heap.size w w' := by
  subst hB
  have A := graphB_c w S rfl h P f hf hr hk hm
  have HK := Lib.hid h
  have HP := Lib.hid P
  clear h P hf hr hk hm
  go_enter Tryz.func42, Tryz.ntmps42
  go_wp2_with fail
  go_step3
  go_wp2_with fail
  go_step3
  go_wp2_with fail
  refine wp_loop_rounds 1 ?_
  rw [rounds_succ]
  go_wp2_with (first | (go_at_call 69; refine A.mono ?_; rintro e w2 ⟨g, rfl, hgl, GW⟩; have hr72 := (HK.out.reads GW.below).tpr; have HG := Lib.hid GW; clear GW) | (refine wpList_load_mid rfl 72 (.tmp 12) rfl S.B.kb 10 rfl S.tps _ hr72 Tryz.underlying72 rfl (by kernel_rfl) ?_))
  clear hr72 A
  go_loopw [3, 14] (fun c i wr => ∃ j : Nat, c = .bool false ∧ i = .int .i64 j ∧ j ≤ 16 ∧ GrW w wr S f g 16) (fun _ i _ => 16 - (intOf i).toNat)
  case atStart => exact ⟨0, rfl, rfl, by omega, HG.out⟩
  case round =>
    clear HG
    obtain ⟨j, rfl, rfl, hj, GW⟩ := hrel
    by_cases hlt : j < 16
    · have hix := run_index_72 S.tps j _ rfl hlt (S.tps_get hlt) wr
      have htp := HP.out.tp j hlt
      have HG := Lib.hid GW
      cases hth : S.th j with
      | none =>
        rw [hth, Option.map_none] at htp
        rw [htp] at hix
        clear htp hth GW he
        go_wp2_with fail
        go_roundw
        case rel => exact ⟨j + 1, rfl, by go_num, by omega, HG.out⟩
        case measure => simp [intOf]; omega
      | some t =>
        rw [hth, Option.map_some] at htp
        rw [htp] at hix
        have hT : wr.heap[t.b]? = some (thO j t) := (HK.out.reads GW.below).getTh hlt hth
        have c20 := tc20 hT
        cases hen : t.en with
        | true =>
          rw [hen] at c20
          clear htp hth GW hen hT he
          go_wp2_with fail
          go_roundw
          case rel => exact ⟨j + 1, rfl, by go_num, by omega, HG.out⟩
          case measure => simp [intOf]; omega
        | false =>
          rw [hen] at c20
          obtain ⟨G, g1, g2, g3, g4, g5, g6⟩ := GW.g
          have jn := HP.out.thn j t hth
          have O := Inh.of_c wr g G j g1 g2 (by rw [g3]; exact jn)
          have hown : ∀ out, Inh.Least G.n G.own G.wt out → out j = t.eff := fun out hl => by
            rw [g5] at hl
            rw [least_alone hl j (by rw [g3]; exact jn)]
            show max (G.ba j) (G.ce j) = t.eff
            have q := (g2.ba j hlt).1
            rw [g6, g4 j t hlt hlt hth hen] at *
            rw [he j t hlt hth hen] at *
            exact Int.max_eq_left q
          have HO := Lib.hid hown
          have HTH := Lib.hid hth
          have j0 : (0 : Int) ≤ j := by omega
          have j1 : (j : Int) < 16 := by omega
          clear htp hth GW hen hT he g1 g2 g3 g4 g5 g6 jn hown
          go_wp2_with (go_at_call 70; refine O.mono ?_; rintro e w3 ⟨out, rfl, hl, b3⟩; have ho := HO.out out hl; rw [ho]; have c17 := tc17 ((HK.out.reads (HG.out.below.trans (b3.mono HG.out.below.size))).getTh hlt HTH.out); have HB3 := Lib.hid b3; clear hl ho b3)
          go_roundw
          case rel => exact ⟨j + 1, rfl, by go_num, by omega, HG.out.reads HB3.out⟩
          case measure => simp [intOf]; omega
    · obtain rfl : j = 16 := by omega
      have HG := Lib.hid GW
      clear GW he
      go_wp2_with fail
      rw [Exit.noGoto_normal]
      exact bodyPost_end (results_none rfl _ _ _) rfl ⟨rfl, HG.out.below⟩
end Go.Proofs.YtagmlijhgncklaaGreatDoor.Ker
namespace Go.Proofs.YtagmlijhgncklaaGreatDoor.Ker
open Go.RowKit Go.Proofs.YtagmlijhgncklaaGreatDoor Go.Proofs.YtagmlijhgncklaaGreatDoor.Spo

/-- What starts makes of a server. -/
def startF (s : Sv) (mo : Int) : Sv := if highF s && !s.ac then { s with ac := true, si := mo, us := 0 } else s
theorem starts_idle (w : World) (p sv k : Nat) (t : Th) (s : Sv) (h : w.heap[t.b]? = some (thO p t)) (hp : t.pol = 2) (hs : t.srv = some ⟨sv, 0, none⟩) (hv : w.heap[sv]? = some (svO s)) (hb : 0 < s.bu) {x : Option Addr} {cap : Nat} (he : s.pv = .slice x s.ps.length cap) (hh : highF s = false) :
    Calls Tryz.prog 87 #[.pointer (some ⟨k, 0, none⟩), .pointer (some ⟨t.b, 0, none⟩)] w fun e w' => e = .returned (.tuple #[]) ∧ Below w.heap.size w w' := by
  have c12 := tc12 h
  have c16 := tc16 h
  rw [hs] at c16
  rw [hp] at c12
  have A := high_c w sv s hv hb he hh
  clear h he hh hv hs hp
  go_enter Tryz.func87, Tryz.ntmps87
  go_wp2_with (go_at_call 81; refine A.mono ?_; rintro e w1 ⟨rfl, b1⟩; have HB := Lib.hid b1; clear b1 A)
  exact bodyPost_end (results_none rfl _ _ _) rfl ⟨rfl, HB.out⟩
set_option maxRecDepth 100000 in
theorem starts_sv (w : World) (S : KS) {B : KB} (hB : S.B = B) (h : KW w S) (P : KP S) (p sv : Nat) (t : Th) (s : Sv) (hp16 : p < 16) (ht : S.th p = some t) (hp : t.pol = 2) (hs : t.srv = some ⟨sv, 0, none⟩) (H : HasSv S sv s) :
    Calls Tryz.prog 87 #[.pointer (some ⟨B.kb, 0, none⟩), .pointer (some ⟨t.b, 0, none⟩)] w fun e w' => e = .returned (.tuple #[]) ∧ SvTo w sv s (startF s S.mo) w' := by
  subst hB
  have hT := h.getTh hp16 ht
  have hv := (H.has h).1
  have pc := H.pcw h
  have ap := H.apart h
  obtain ⟨x, cap, he⟩ := pc.slice
  cases hh : highF s with
  | false =>
    refine (starts_idle w p sv S.B.kb t s hT hp hs hv H.bu he hh).mono ?_
    rintro e w' ⟨rfl, b⟩
    refine ⟨rfl, ?_⟩
    have q : startF s S.mo = s := by unfold startF; rw [hh]; rfl
    rw [q]
    exact ⟨b.os, b.tape, b.output, b.size, below_has b hv, owns_kept pc fun g hg => b.block g (pc_lt pc hg), fun k hk _ _ => b.block k hk, .inl rfl⟩
  | true =>
    have c12 := tc12 hT
    have c16 := tc16 hT
    rw [hs] at c16
    rw [hp] at c12
    have A := high_c w sv s hv H.bu he hh
    have HK := Lib.hid h
    have HV := Lib.hid hv
    have HT := Lib.hid hT
    have HPC := Lib.hid pc
    have HAP := Lib.hid ap
    have MO := fun W (hW : KW W S) => mono_c W S rfl hW
    have hmo := P.mo
    have hbu := H.bu
    have HS := Lib.hid hs
    cases hac : s.ac with
    | true =>
      have ST := fun W (hW : W.heap[sv]? = some (svO s)) => start_already W sv s hW hbu hac S.mo hmo.1 hmo.2
      have q : startF s S.mo = s := by unfold startF; rw [hh, hac]; rfl
      rw [q]
      clear h hT hv pc ap he hh P H hs hp
      go_enter Tryz.func87, Tryz.ntmps87
      go_wp2_with (go_at_call 81; refine A.mono ?_; rintro e w1 ⟨rfl, b1⟩; have e16 := tc16 (below_has b1 HT.out); rw [HS.out] at e16; have HB := Lib.hid b1; clear b1 A)
      have HB2 := Lib.hid HB.out.drew
      go_region_law (first
        | (go_simp; go_at_call 86; refine (MO _ (HK.out.reads HB2.out)).mono ?_; rintro e w' ⟨rfl, rfl⟩)
        | (go_simp; go_at_call 159; refine (ST _ (below_has HB2.out HV.out)).mono ?_; rintro e w' ⟨rfl, rfl⟩))
      all_goals refine bodyPost_end (results_none rfl _ _ _) rfl ⟨rfl, ?_⟩
      all_goals have b := HB2.out
      all_goals exact ⟨b.os, b.tape, b.output, b.size, below_has b HV.out, owns_kept HPC.out fun g hg => b.block g (pc_lt HPC.out hg), fun k hk _ _ => b.block k hk, .inl rfl⟩
    | false =>
      have ST := fun W (hW : W.heap[sv]? = some (svO s)) => start_c W sv s hW hbu hac S.mo hmo.1 hmo.2
      have q : startF s S.mo = { s with ac := true, si := S.mo, us := 0 } := by unfold startF; rw [hh, hac]; rfl
      rw [q]
      clear h hT hv pc ap he hh P H hs hp
      go_enter Tryz.func87, Tryz.ntmps87
      go_wp2_with (go_at_call 81; refine A.mono ?_; rintro e w1 ⟨rfl, b1⟩; have e16 := tc16 (below_has b1 HT.out); rw [HS.out] at e16; have HB := Lib.hid b1; clear b1 A)
      have HB2 := Lib.hid HB.out.drew
      go_region_law (first
        | (go_simp; go_at_call 86; refine (MO _ (HK.out.reads HB2.out)).mono ?_; rintro e w' ⟨rfl, rfl⟩)
        | (go_simp; go_at_call 159; refine (ST _ (below_has HB2.out HV.out)).mono ?_; rintro e w2 ⟨rfl, u2⟩; have HU := Lib.hid u2; clear u2))
      all_goals exact bodyPost_end (results_none rfl _ _ _) rfl ⟨rfl, SvTo.own (s' := { s with ac := true, si := S.mo, us := 0 }) HPC.out HAP.out rfl rfl (Upd.after HB2.out HU.out)⟩
end Go.Proofs.YtagmlijhgncklaaGreatDoor.Ker
namespace Go.Proofs.YtagmlijhgncklaaGreatDoor.Ker
open Go.RowKit Go.Proofs.YtagmlijhgncklaaGreatDoor Go.Proofs.YtagmlijhgncklaaGreatDoor.Code Go.Proofs.YtagmlijhgncklaaGreatDoor.Spo

/-- A server's numbers are small. -/
structure SvR (s : Sv) : Prop where
  b0 : 0 < s.bu
  pe : s.bu ≤ s.pe
  p1 : s.pe ≤ 1000
  l0 : 0 ≤ s.lf
  l1 : s.lf ≤ 1000
  u0 : 0 ≤ s.us
  u1 : s.us ≤ 1000
  s0 : 0 ≤ s.si
  s1 : s.si ≤ 1000000
  ps : s.ps.length ≤ 1
  pb : ∀ p ∈ s.ps, 0 ≤ p.2 ∧ p.2 ≤ 1000
def useF (s : Sv) : Sv := if 1 < s.lf then { s with lf := s.lf - 1, us := s.us + 1 } else { s with lf := 0, ac := false, si := 0, us := 0, ps := s.ps ++ [(s.si + s.pe, s.us + 1)] }
theorem use_c (w : World) (b : Nat) (s : Sv) (h : w.heap[b]? = some (svO s)) (hp : PcW w s) (ha : Apart b s) (R : SvR s) (hac : s.ac = true) (hh : highF s = true) :
    Calls Tryz.prog 82 #[.pointer (some ⟨b, 0, none⟩)] w fun e w' => ∃ pv r, e = .returned (.tuple #[.bool r, .int .i64 0]) ∧ SvTo w b s { useF s with pv := pv } w' := by
  have hl : 0 < s.lf := by
    unfold highF at hh
    simp only [Bool.and_eq_true, decide_eq_true_eq] at hh
    exact hh.1
  have r1 := R.l1
  have r2 := R.u1
  have r3 := R.s1
  have r4 := R.p1
  have r5 := R.pe
  have r6 := R.b0
  unfold useF
  by_cases h1 : 1 < s.lf
  · rw [if_pos h1]
    refine (use_left w b s h hp ha R.b0 hac hh h1 (by omega) R.u0 (by omega)).mono ?_
    rintro e w' ⟨rfl, T⟩
    exact ⟨s.pv, false, rfl, T⟩
  · rw [if_neg h1]
    refine (use_last w b s h hp ha R.b0 hac hh (by omega) R.u0 (by omega) R.s0 (by omega) (by omega) (by omega)).mono ?_
    rintro e w' ⟨pv, rfl, T⟩
    exact ⟨pv, true, rfl, T⟩
def dueF (s : Sv) (now : Int) : Sv := match s.ps with
  | [(a, m)] => if a ≤ now then { s with ps := [], lf := s.lf + m } else s
  | _ => s
theorem due_sv (w : World) (b : Nat) (s : Sv) (h : w.heap[b]? = some (svO s)) (hp : PcW w s) (R : SvR s) (now : Int) :
    Calls Tryz.prog 85 #[.pointer (some ⟨b, 0, none⟩), .int .i64 now] w fun e w' => ∃ pv n, e = .returned (.int .i64 n) ∧ SvTo w b s { dueF s now with pv := pv } w' := by
  have r1 := R.l1
  have none : (∀ p ∈ s.ps, now < p.1) → dueF s now = s → Calls Tryz.prog 85 #[.pointer (some ⟨b, 0, none⟩), .int .i64 now] w fun e w' => ∃ pv n, e = .returned (.int .i64 n) ∧ SvTo w b s { dueF s now with pv := pv } w' := fun hn e => by
    rw [e]
    refine (due_none w b s h hp R.b0 R.ps now hn R.l0 (by omega)).mono ?_
    rintro e w' ⟨pv, rfl, T⟩
    exact ⟨pv, 0, rfl, T⟩
  match hps : s.ps with
  | [] => exact none (by rw [hps]; intro p hp; cases hp) (by unfold dueF; rw [hps])
  | [(a, m)] =>
    by_cases hl : a ≤ now
    · have q : dueF s now = { s with ps := [], lf := s.lf + m } := by unfold dueF; rw [hps]; exact if_pos hl
      have mb := R.pb (a, m) (by rw [hps]; simp)
      rw [q]
      refine (due_back w b s a m h hp R.b0 hps now hl R.l0 R.l1 mb.1 mb.2).mono ?_
      rintro e w' ⟨pv, rfl, T⟩
      exact ⟨pv, m, rfl, T⟩
    · refine none (by rw [hps]; intro p hp; simp at hp; subst hp; show now < a; omega) (by unfold dueF; rw [hps]; exact if_neg hl)
  | _ :: _ :: _ => exact absurd R.ps (by rw [hps]; simp)
theorem high_pv (s : Sv) (v : Value) : highF { s with pv := v } = highF s := rfl
theorem start_pv (s : Sv) (v : Value) (mo : Int) : startF { s with pv := v } mo = { startF s mo with pv := v } := by
  unfold startF
  rw [high_pv]
  show (if highF s && !s.ac then _ else _) = _
  split <;> rfl
end Go.Proofs.YtagmlijhgncklaaGreatDoor.Ker
namespace Go.Proofs.YtagmlijhgncklaaGreatDoor.Ker
open Go.RowKit Go.Proofs.YtagmlijhgncklaaGreatDoor Go.Proofs.YtagmlijhgncklaaGreatDoor.Code Go.Proofs.YtagmlijhgncklaaGreatDoor.Spo

/-- Two kernels are alike but for the server's blocks and labels. -/
structure Like (S S' : KS) : Prop where
  B : S'.B = S.B
  tp : S'.tp = S.tp
  th : S'.th = S.th
  T : S'.T = S.T
  L : S'.L = S.L
  R : S'.R = S.R
  st : S'.st = S.st
  re : S'.re = S.re
  mo : S'.mo = S.mo
  W0 : S'.W0 = S.W0
  W1 : S'.W1 = S.W1
  kx : S'.kx = S.kx
  muT : S'.muT = S.muT
  muL : S'.muL = S.muL
  seT : S'.seT = S.seT
  seL : S'.seL = S.seL
  cst : S'.lo.cst = S.lo.cst
  lv : S'.lo.lv = S.lo.lv
  ln : S'.lo.ln = S.lo.ln
  nv : S'.lo.nv = S.lo.nv
  notes : S'.lo.notes = S.lo.notes
  av : S'.lo.av = S.lo.av
  an : S'.lo.an = S.lo.an
theorem Like.refl (S : KS) : Like S S := ⟨rfl, rfl, rfl, rfl, rfl, rfl, rfl, rfl, rfl, rfl, rfl, rfl, rfl, rfl, rfl, rfl, rfl, rfl, rfl, rfl, rfl, rfl, rfl⟩
theorem Like.trans {S S1 S2 : KS} (h : Like S S1) (k : Like S1 S2) : Like S S2 :=
  ⟨k.B.trans h.B, k.tp.trans h.tp, k.th.trans h.th, k.T.trans h.T, k.L.trans h.L, k.R.trans h.R, k.st.trans h.st, k.re.trans h.re, k.mo.trans h.mo, k.W0.trans h.W0, k.W1.trans h.W1, k.kx.trans h.kx, k.muT.trans h.muT, k.muL.trans h.muL, k.seT.trans h.seT, k.seL.trans h.seL, k.cst.trans h.cst, k.lv.trans h.lv, k.ln.trans h.ln, k.nv.trans h.nv, k.notes.trans h.notes, k.av.trans h.av, k.an.trans h.an⟩
theorem Like.withSv (S : KS) (w : World) (sv : Nat) (s : Sv) : Like S (S.withSv w sv s) := ⟨rfl, rfl, rfl, rfl, rfl, rfl, rfl, rfl, rfl, rfl, rfl, rfl, rfl, rfl, rfl, rfl, rfl, rfl, rfl, rfl, rfl, rfl, rfl⟩
theorem Like.KP {S S' : KS} (h : Like S S') (P : KP S) : KP S' := by
  obtain ⟨B, tp, th, T, L, R, st, re, mo, W0, W1, kx, muT, muL, seT, seL, cst, lv, ln, nv, notes, av, an⟩ := h
  obtain ⟨B', tp', th', T', L', R', st', re', mo', W0', W1', kx', muT', muL', seT', seL', ext', lo'⟩ := S'
  obtain ⟨lab', cst', lv', ln', nv', notes', av', an'⟩ := lo'
  simp only at B tp th T L R st re mo W0 W1 kx muT muL seT seL cst lv ln nv notes av an
  subst B tp th T L R st re mo W0 W1 kx muT muL seT seL cst lv ln nv notes av an
  exact { P with }
/-- A kernel, with what its server stands at. -/
def Svd (S : KS) (sv : Nat) (s : Sv) (w : World) (S0 : KS) (W : World) : Prop := ∃ S' pv, Like S S' ∧ KW W S' ∧ Fr S0 S' w W ∧ HasSv S' sv { s with pv := pv }
theorem Svd.reads {S S0 : KS} {sv : Nat} {s : Sv} {w W W' : World} (h : Svd S sv s w S0 W) (b : Below W.heap.size W W') : Svd S sv s w S0 W' := by
  obtain ⟨S', pv, L, k, f, H⟩ := h
  exact ⟨S', pv, L, k.reads b, f.trans (Fr.reads S' b), H⟩
/-- The server turns. -/
theorem Svd.turn {S S0 S' : KS} {sv : Nat} {s' : Sv} {s : Sv} {w W W' : World} (L : Like S S') (k : KW W S') (f : Fr S0 S' w W) (H : HasSv S' sv s) (T : SvTo W sv s s' W') (hb : 0 < s'.bu) : Svd S sv s' w S0 W' := by
  obtain ⟨k2, f2, H2⟩ := k.server H T hb
  exact ⟨S'.withSv W' sv s', s'.pv, L.trans (Like.withSv _ _ _ _), k2, f.trans f2, H2⟩
end Go.Proofs.YtagmlijhgncklaaGreatDoor.Ker
namespace Go.Proofs.YtagmlijhgncklaaGreatDoor.Ker
open Go.RowKit Go.Proofs.YtagmlijhgncklaaGreatDoor Go.Proofs.YtagmlijhgncklaaGreatDoor.Code Go.Proofs.YtagmlijhgncklaaGreatDoor.Spo

theorem due_pv (s : Sv) (v v' : Value) (now : Int) : Sv.mk (dueF { s with pv := v } now).bu (dueF { s with pv := v } now).pe (dueF { s with pv := v } now).lf (dueF { s with pv := v } now).ac (dueF { s with pv := v } now).si (dueF { s with pv := v } now).us v' (dueF { s with pv := v } now).ps = { dueF s now with pv := v' } := by
  obtain ⟨bu, pe, lf, ac, si, us, pv, ps⟩ := s
  match ps with
  | [] => rfl
  | [(a, m)] =>
    by_cases h : a ≤ now
    · simp only [dueF, if_pos h]
    · simp only [dueF, if_neg h]
  | _ :: _ :: _ => rfl
theorem SvR.pv {s : Sv} (R : SvR s) (v : Value) : SvR { s with pv := v } := ⟨R.b0, R.pe, R.p1, R.l0, R.l1, R.u0, R.u1, R.s0, R.s1, R.ps, R.pb⟩
theorem due_bu (s : Sv) (now : Int) : (dueF s now).bu = s.bu := by
  unfold dueF
  split
  · split <;> rfl
  · rfl
theorem start_bu (s : Sv) (mo : Int) : (startF s mo).bu = s.bu := by unfold startF; split <;> rfl
/-- What a tick's use makes of the server. -/
def tickF (s : Sv) (runs : Bool) : Sv := if runs && (s.ac && highF s) then useF s else s
/-- One thread is sporadic. -/
structure OneSp (S : KS) (p1 sv : Nat) (t1 : Th) : Prop where
  p16 : p1 < 16
  th : S.th p1 = some t1
  en : t1.en = false
  pol : t1.pol = 2
  srv : t1.srv = some ⟨sv, 0, none⟩
  wt : t1.wt.kind = 0
  no : ∀ q x, q ≠ p1 → S.th q = some x → x.pol ≠ 2
set_option maxRecDepth 100000 in
set_option maxHeartbeats 2000000 in
theorem tick_sv (w : World) (S : KS) {B : KB} (hB : S.B = B) (h : KW w S) (P : KP S) (p : Nat) (t : Th) (Rn : Running S p t) (p1 sv : Nat) (t1 : Th) (s : Sv) (O : OneSp S p1 sv t1) (H : HasSv S sv s) (R0 : SvR s) (R1 : SvR (tickF s (decide (p = p1)))) (q0 : Quiet S.W0) (q1 : Quiet S.W1) (hrob : (S.L.getD p Hs.no).rob = false) :
    Calls Tryz.prog 45 #[.pointer (some ⟨B.kb, 0, none⟩)] w fun e w' => e = .returned (.tuple #[]) ∧ Svd { S with st := S.st + 2, re := Clk.upF S.re, mo := Clk.upF S.mo } sv (startF (dueF (tickF s (decide (p = p1))) (Clk.upF S.mo)) (Clk.upF S.mo)) w S w' := by
  subst hB
  have hp := Rn.p16
  have c26 := kc26 h rfl
  have AR := turns_runs w S.B.tb S.B.rb S.B.J.q S.L S.R S.st (h.tn P.L P.R) Rn.b1 Rn.b2 Rn.sm Rn.s0 (by have := Rn.s1; omega)
  rw [Rn.first] at AR
  obtain ⟨S1, hS1⟩ : ∃ S1 : KS, S1 = { S with st := S.st + 1 } := ⟨_, rfl⟩
  have hB1 : S1.B = S.B := by rw [hS1]
  have ht1 : S1.th p = some t := by rw [hS1]; exact Rn.th
  have H1 : HasSv S1 sv s := H.same (by rw [hS1])
  have K1 : ∀ W, Upd w S.B.rb (rdO S.R (S.st + 1)) W → KW W S1 ∧ Fr S S1 w W := fun W u => by rw [hS1]; exact h.rdy u
  have tp1 : S1.tp p = some ⟨t.b, 0, none⟩ := by rw [show S1.tp = S.tp by rw [hS1], P.tp p hp, Rn.th]; rfl
  have i0 : (0 : Int) ≤ p := by omega
  have i1 : (p : Int) < 16 := by omega
  have HB1 := Lib.hid hB1
  have HT1 := Lib.hid ht1
  have HTP := Lib.hid tp1
  have HH1 := Lib.hid H1
  have HR0 := Lib.hid R0
  have HO := Lib.hid O
  have HP := Lib.hid P
  have hcase : (p ≠ p1 ∧ t.pol ≠ 2 ∧ tickF s (decide (p = p1)) = s) ∨ (t.pol = 2 ∧ t.srv = some ⟨sv, 0, none⟩ ∧ s.ac = true ∧ highF s = true ∧ tickF s (decide (p = p1)) = useF s) ∨ (t.pol = 2 ∧ t.srv = some ⟨sv, 0, none⟩ ∧ s.ac = false ∧ tickF s (decide (p = p1)) = s) ∨ (t.pol = 2 ∧ t.srv = some ⟨sv, 0, none⟩ ∧ s.ac = true ∧ highF s = false ∧ tickF s (decide (p = p1)) = s) := by
    by_cases e : p = p1
    · subst e
      have et : t = t1 := by have := Rn.th; rw [O.th] at this; cases this; rfl
      subst et
      cases ha : s.ac with
      | false => exact .inr (.inr (.inl ⟨O.pol, O.srv, rfl, by unfold tickF; rw [ha]; simp⟩))
      | true =>
        cases hh : highF s with
        | true => exact .inr (.inl ⟨O.pol, O.srv, rfl, rfl, by unfold tickF; rw [ha, hh]; simp⟩)
        | false => exact .inr (.inr (.inr ⟨O.pol, O.srv, rfl, rfl, by unfold tickF; rw [ha, hh]; simp⟩))
    · exact .inl ⟨e, O.no p t e Rn.th, by unfold tickF; simp [e]⟩
  obtain ⟨sT, hsT⟩ : ∃ sT, sT = tickF s (decide (p = p1)) := ⟨_, rfl⟩
  rw [← hsT] at hcase R1 ⊢
  have HR1 := Lib.hid R1
  have HS1 := Lib.hid hS1
  clear hS1 hB1 ht1 H1 tp1 O R0 hsT R1
  rcases hcase with ⟨_, hc, hq⟩ | ⟨hc, hs, ha, hh, hq⟩ | ⟨hc, hs, ha, hq⟩ | ⟨hc, hs, ha, hh, hq⟩
  all_goals have HQ := Lib.hid hq
  all_goals clear hq
  case' inl =>
    have dp : (t.pol == 2) = false := by simpa using hc
    clear hc
    go_enter Tryz.func45, Tryz.ntmps45
    go_upto_region 7 with (first
      | (go_at_call 48; refine AR.mono ?_; rintro e w1 ⟨rfl, -, u1⟩; obtain ⟨k1, f1⟩ := K1 w1 u1
         have ct := k1.tpc hp
         rw [HB1.out, HTP.out] at ct
         have hT1 := k1.getTh hp HT1.out
         have c12 := tc12 hT1
         have c16 := tc16 hT1
         have HK1 := Lib.hid k1; have HF1 := Lib.hid f1; clear u1 k1 f1 AR K1 hT1))
    refine world_wp (fun W => Svd S1 sv sT w S W) (by rw [HQ.out]; exact ⟨S1, _, Like.refl S1, HK1.out, HF1.out, HH1.out⟩) ?_
    clear HK1 HF1 ct c12 c16 w1
  case' inr.inl =>
    have HC := Lib.hid hc
    have HSV := Lib.hid hs
    have HA := Lib.hid ha
    have HHI := Lib.hid hh
    clear hc hs ha hh
    go_enter Tryz.func45, Tryz.ntmps45
    go_upto_region 7 with (first
      | (go_at_call 48; refine AR.mono ?_; rintro e w1 ⟨rfl, -, u1⟩; obtain ⟨k1, f1⟩ := K1 w1 u1
         have ct := k1.tpc hp
         rw [HB1.out, HTP.out] at ct
         have hT1 := k1.getTh hp HT1.out
         have c12 := tc12 hT1
         have c16 := tc16 hT1
         rw [HC.out] at c12
         rw [HSV.out] at c16
         have HK1 := Lib.hid k1; have HF1 := Lib.hid f1; have hv1 := (HH1.out.has k1).1; have pc1 := HH1.out.pcw k1; have ap1 := HH1.out.apart k1; have HV1 := Lib.hid hv1; have HPC1 := Lib.hid pc1; have HAP1 := Lib.hid ap1; clear u1 k1 f1 AR K1 hT1 hv1 pc1 ap1)
      | (go_at_call 80; refine (active_yes w1 sv s HV1.out HH1.out.bu HA.out).mono ?_; rintro e w2 ⟨rfl, b2⟩; have HB2 := Lib.hid b2; have d16 := tc16 (below_has b2 (HK1.out.getTh hp HT1.out)); rw [HSV.out] at d16; clear b2)
      | (go_at_call 81
         have hv2 := below_has HB2.out HV1.out
         obtain ⟨xx, cc, he⟩ := HPC1.out.slice
         refine (high_c w2 sv s hv2 HH1.out.bu he HHI.out).mono ?_; rintro e w3 ⟨rfl, b3⟩
         have HB3 := Lib.hid (HB2.out.trans (b3.mono HB2.out.size))
         have e16 := tc16 (below_has HB3.out (HK1.out.getTh hp HT1.out)); rw [HSV.out] at e16; clear b3 hv2 he)
      | (go_at_call 82
         have hv3 := below_has HB3.out HV1.out
         have pc3 : PcW w3 s := owns_kept HPC1.out fun g hg => HB3.out.block g (pc_lt HPC1.out hg)
         refine (use_c w3 sv s hv3 pc3 HAP1.out HR0.out HA.out HHI.out).mono ?_; rintro e w4 ⟨pv, r, rfl, T4⟩
         have HT4 := Lib.hid T4; clear T4 hv3 pc3))
    refine world_wp (fun W => Svd S1 sv sT w S W) (by
      rw [HQ.out]
      obtain ⟨S4, pv4, L4, k4, f4, H4⟩ := Svd.turn (Like.refl S1) (HK1.out.reads HB3.out) (HF1.out.trans (Fr.reads S1 HB3.out)) HH1.out HT4.out (by show 0 < (useF s).bu; unfold useF; split <;> exact HH1.out.bu)
      exact ⟨S4, pv4, L4, k4, f4, H4⟩) ?_
    clear HB3 HK1 HF1 HT4 HB2 HV1 HPC1 HAP1 ct c12 c16 d16 e16 w4 w3 w2 w1
  case' inr.inr.inl =>
    have HC := Lib.hid hc
    have HSV := Lib.hid hs
    have HA := Lib.hid ha
    clear hc hs ha
    go_enter Tryz.func45, Tryz.ntmps45
    go_upto_region 7 with (first
      | (go_at_call 48; refine AR.mono ?_; rintro e w1 ⟨rfl, -, u1⟩; obtain ⟨k1, f1⟩ := K1 w1 u1
         have ct := k1.tpc hp
         rw [HB1.out, HTP.out] at ct
         have hT1 := k1.getTh hp HT1.out
         have c12 := tc12 hT1
         have c16 := tc16 hT1
         rw [HC.out] at c12
         rw [HSV.out] at c16
         have HK1 := Lib.hid k1; have HF1 := Lib.hid f1; have hv1 := (HH1.out.has k1).1; have pc1 := HH1.out.pcw k1; have ap1 := HH1.out.apart k1; have HV1 := Lib.hid hv1; have HPC1 := Lib.hid pc1; have HAP1 := Lib.hid ap1; clear u1 k1 f1 AR K1 hT1 hv1 pc1 ap1)
      | (go_at_call 80; refine (active_no w1 sv s HV1.out HH1.out.bu HA.out).mono ?_; rintro e w2 ⟨rfl, rfl⟩))
    refine world_wp (fun W => Svd S1 sv sT w S W) (by rw [HQ.out]; exact ⟨S1, _, Like.refl S1, HK1.out, HF1.out, HH1.out⟩) ?_
    clear HK1 HF1 HV1 HPC1 HAP1 ct c12 c16 w1
  case' inr.inr.inr =>
    have HC := Lib.hid hc
    have HSV := Lib.hid hs
    have HA := Lib.hid ha
    have HHI := Lib.hid hh
    clear hc hs ha hh
    go_enter Tryz.func45, Tryz.ntmps45
    go_upto_region 7 with (first
      | (go_at_call 48; refine AR.mono ?_; rintro e w1 ⟨rfl, -, u1⟩; obtain ⟨k1, f1⟩ := K1 w1 u1
         have ct := k1.tpc hp
         rw [HB1.out, HTP.out] at ct
         have hT1 := k1.getTh hp HT1.out
         have c12 := tc12 hT1
         have c16 := tc16 hT1
         rw [HC.out] at c12
         rw [HSV.out] at c16
         have HK1 := Lib.hid k1; have HF1 := Lib.hid f1; have hv1 := (HH1.out.has k1).1; have pc1 := HH1.out.pcw k1; have ap1 := HH1.out.apart k1; have HV1 := Lib.hid hv1; have HPC1 := Lib.hid pc1; have HAP1 := Lib.hid ap1; clear u1 k1 f1 AR K1 hT1 hv1 pc1 ap1)
      | (go_at_call 80; refine (active_yes w1 sv s HV1.out HH1.out.bu HA.out).mono ?_; rintro e w2 ⟨rfl, b2⟩; have HB2 := Lib.hid b2; have d16 := tc16 (below_has b2 (HK1.out.getTh hp HT1.out)); rw [HSV.out] at d16; clear b2)
      | (go_at_call 81
         have hv2 := below_has HB2.out HV1.out
         obtain ⟨xx, cc, he⟩ := HPC1.out.slice
         refine (high_c w2 sv s hv2 HH1.out.bu he HHI.out).mono ?_; rintro e w3 ⟨rfl, b3⟩
         have HB3 := Lib.hid (HB2.out.trans (b3.mono HB2.out.size))
         have e16 := tc16 (below_has HB3.out (HK1.out.getTh hp HT1.out)); rw [HSV.out] at e16; clear b3 hv2 he))
    refine world_wp (fun W => Svd S1 sv sT w S W) (by rw [HQ.out]; exact ⟨S1, _, Like.refl S1, HK1.out.reads HB3.out, HF1.out.trans (Fr.reads S1 HB3.out), HH1.out⟩) ?_
    clear HB3 HK1 HF1 HB2 HV1 HPC1 HAP1 ct c12 c16 d16 e16 w3 w2 w1
  all_goals clear HQ HH1 HR0 HB1 HT1 HTP
  all_goals try clear HC HSV HA
  all_goals try clear HHI
  all_goals try clear HHI
  all_goals (
    rintro W7 ⟨S7, pv7, L7, k7, f7, H7⟩
    have hB7 : S7.B = S.B := by rw [L7.B, HS1.out]
    have hL7 : S7.L = S.L := by rw [L7.L, HS1.out]
    have hR7 : S7.R = S.R := by rw [L7.R, HS1.out]
    have hst7 : S7.st = S.st + 1 := by rw [L7.st, HS1.out]
    have P7 : KP S7 := L7.KP (by rw [HS1.out]; exact { HP.out with })
    have c26' := kc26 (B := S.B) k7 hB7
    have TK := tick_fifo W7 S7.B.tb S7.B.rb S7.B.J.q S7.L S7.R S7.st p (k7.tn P7.L P7.R) (by rw [hR7]; exact Rn.first) hp (by rw [hL7]; exact hrob) (by rw [hR7]; exact Rn.b1) (by rw [hR7]; exact Rn.b2) (by rw [hR7]; exact Rn.sm) (by rw [hst7]; have := Rn.s0; omega) (by rw [hst7]; have := Rn.s1; omega)
    rw [show S7.B.tb = S.B.tb by rw [hB7]] at TK
    obtain ⟨S8, hS8⟩ : ∃ S8 : KS, S8 = { S7 with st := S7.st + 1 } := ⟨_, rfl⟩
    have K8 : ∀ W, Tn W S.B.tb S7.B.rb S7.B.J.q S7.L S7.R (S7.st + 1) → Upd2 W7 S.B.tb S7.B.rb W → KW W S8 ∧ Fr S7 S8 W7 W := fun W T U => by
      rw [hS8]
      exact k7.turns (by rw [hB7]; rw [hB7] at T; exact T) (by rw [hB7]; rw [hB7] at U; exact U)
    have H8 : HasSv S8 sv { sT with pv := pv7 } := H7.same (by rw [hS8])
    have P8 : KP S8 := by rw [hS8]; exact { P7 with }
    have hB8 : S8.B = S.B := by rw [hS8]; exact hB7
    obtain ⟨S9, hS9⟩ : ∃ S9 : KS, S9 = { S8 with re := Clk.upF S.re, mo := Clk.upF S.mo } := ⟨_, rfl⟩
    have hre : S8.re = S.re := by rw [hS8]; show S7.re = _; rw [L7.re, HS1.out]
    have hmo : S8.mo = S.mo := by rw [hS8]; show S7.mo = _; rw [L7.mo, HS1.out]
    have CK : ∀ W, KW W S8 → Calls Tryz.prog 84 #[.pointer (some ⟨S.B.cb, 0, none⟩)] W fun e w' => e = .returned (.int .i64 0) ∧ Upd W S.B.cb (Clk.clkO true (Clk.upF S.re) (Clk.upF S.mo)) w' := fun W hW => by
      have q := hW.has 4 rfl
      rw [hB8, hre, hmo] at q
      exact Clk.tick_c W S.B.cb S.re S.mo q HP.out.re HP.out.mo
    have K9 : ∀ W W', KW W S8 → Upd W S.B.cb (Clk.clkO true (Clk.upF S.re) (Clk.upF S.mo)) W' → KW W' S9 ∧ Fr S8 S9 W W' := fun W W' hW u => by
      rw [hS9]
      exact hW.clock (by rw [hB8]; exact u)
    have H9 : HasSv S9 sv { sT with pv := pv7 } := H8.same (by rw [hS9])
    have hreb : 0 ≤ Clk.upF S.re ∧ Clk.upF S.re ≤ 1099511627776 := by have := HP.out.re; unfold Clk.upF; split <;> omega
    have hmob : 0 ≤ Clk.upF S.mo ∧ Clk.upF S.mo ≤ 1099511627776 := by have := HP.out.mo; unfold Clk.upF; split <;> omega
    have P9 : KP S9 := by rw [hS9]; exact { P8 with re := hreb, mo := hmob }
    have hB9 : S9.B = S.B := by rw [hS9]; exact hB8
    have hth9 : S9.th = S.th := by rw [hS9]; show S8.th = _; rw [hS8]; show S7.th = _; rw [L7.th, HS1.out]
    have L9 : Like { S with st := S.st + 2, re := Clk.upF S.re, mo := Clk.upF S.mo } S9 := by
      have h := L7
      rw [HS1.out] at h
      rw [hS9, hS8]
      exact ⟨h.B, h.tp, h.th, h.T, h.L, h.R, by show S7.st + 1 = S.st + 2; rw [hst7]; omega, rfl, rfl, h.W0, h.W1, h.kx, h.muT, h.muL, h.seT, h.seL, h.cst, h.lv, h.ln, h.nv, h.notes, h.av, h.an⟩
    have HK7 := Lib.hid k7
    have HF7 := Lib.hid f7
    have H9' := Lib.hid H9
    have HP9 := Lib.hid P9
    have HB9 := Lib.hid hB9
    have HTH9 := Lib.hid hth9
    have HL9 := Lib.hid L9
    have HB8 := Lib.hid hB8
    have HMO9 := Lib.hid (show S9.mo = Clk.upF S.mo by rw [hS9])
    clear L7 k7 f7 H7 hB7 hL7 hR7 hst7 P7 hS8 H8 P8 hB8 hS9 hre hmo H9 hreb hmob P9 hB9 hth9 L9
    go_wp2_with (first
      | (go_at_call 83; refine TK.mono ?_; rintro e w8 ⟨rfl, T8, u8⟩; obtain ⟨k8, f8⟩ := K8 w8 T8 u8; have e27 := kc27 (B := S.B) k8 HB8.out; have HK8 := Lib.hid k8; have HF8 := Lib.hid (HF7.out.trans f8); clear T8 u8 k8 f8 TK K8)
      | (go_at_call 84; refine (CK _ HK8.out).mono ?_; rintro e w9 ⟨rfl, u9⟩; obtain ⟨k9, f9⟩ := K9 w8 w9 HK8.out u9; have hr72 := k9.tpr; rw [HB9.out] at hr72; have HK9 := Lib.hid k9; have HF9 := Lib.hid (HF8.out.trans f9); clear u9 k9 f9 CK K9)
      | (refine wpList_load_mid rfl 72 (.tmp 64) rfl S.B.kb 10 rfl S9.tps _ hr72 Tryz.underlying72 rfl (by kernel_rfl) ?_))
    have HQ0 := Lib.hid q0
    have HQ1 := Lib.hid q1
    clear hr72
    go_loopw [66] (fun i wr => ∃ j : Nat, i = .int .i64 j ∧ j ≤ 16 ∧ Svd S9 sv (if p1 < j then startF (dueF sT (Clk.upF S.mo)) (Clk.upF S.mo) else sT) w S wr) (fun i _ => 16 - (intOf i).toNat)
    case atStart => exact ⟨0, rfl, by omega, by rw [if_neg (by omega)]; exact ⟨S9, pv7, Like.refl S9, HK9.out, HF9.out, H9'.out⟩⟩
    case round =>
      obtain ⟨j, rfl, hj, hD⟩ := hrel
      have HD := Lib.hid hD
      clear hD
      by_cases hlt : j < 16
      · have hix := run_index_72 S9.tps j _ rfl hlt (S9.tps_get hlt) wr
        have htp := HP9.out.tp j hlt
        obtain ⟨Sj, pvj, Lj, kj, fj, Hj⟩ := HD.out
        cases hth : S9.th j with
        | none =>
          rw [hth, Option.map_none] at htp
          rw [htp] at hix
          have hne : j ≠ p1 := fun e => by
            have := HO.out.th
            rw [← HTH9.out, ← e, hth] at this
            cases this
          clear htp hth Lj kj fj Hj
          go_wp2_with fail
          go_roundw
          case rel => exact ⟨j + 1, by go_num, by omega, by
            have q := HD.out
            by_cases c : p1 < j
            · rw [if_pos c] at q; rw [if_pos (by omega)]; exact q
            · rw [if_neg c] at q; rw [if_neg (by omega)]; exact q⟩
          case measure => simp [intOf]; omega
        | some x =>
          rw [hth, Option.map_some] at htp
          rw [htp] at hix
          have hxj : Sj.th j = some x := by rw [Lj.th]; exact hth
          have hT := kj.getTh hlt hxj
          have c20 := tc20 hT
          have c5' := tc12 hT
          by_cases hne : j = p1
          · subst hne
            have ex : x = t1 := by
              have := HO.out.th
              rw [← HTH9.out, hth] at this
              cases this; rfl
            subst ex
            rw [HO.out.en] at c20
            rw [HO.out.pol] at c5'
            have c16' := tc16 hT
            rw [HO.out.srv] at c16'
            have c23 := tc23 hT
            rw [HO.out.wt] at c23
            have hBj : Sj.B = S.B := by rw [Lj.B]; exact HB9.out
            have hmoj : Sj.mo = Clk.upF S.mo := by rw [Lj.mo]; exact HMO9.out
            have MOD := mono_c wr.drew Sj hBj (kj.keeps (Nat.le_refl _) (fun _ _ _ => rfl))
            rw [hmoj] at MOD
            have q : (if j < j then startF (dueF sT (Clk.upF S.mo)) (Clk.upF S.mo) else sT) = sT := if_neg (by omega)
            rw [q] at Hj
            have DUD := due_sv wr.drew sv { sT with pv := pvj } (Hj.has kj).1 (owns_kept (Hj.pcw kj) fun _ _ => rfl) (HR1.out.pv pvj) (Clk.upF S.mo)
            have Pj : KP Sj := Lj.KP HP9.out
            have START : ∀ W pv, SvTo wr.drew sv { sT with pv := pvj } { dueF { sT with pv := pvj } (Clk.upF S.mo) with pv := pv } W → Calls Tryz.prog 87 #[.pointer (some ⟨S.B.kb, 0, none⟩), .pointer (some ⟨x.b, 0, none⟩)] W fun e w' => e = .returned (.tuple #[]) ∧ Svd S9 sv (startF (dueF sT (Clk.upF S.mo)) (Clk.upF S.mo)) w S w' := fun W pv T => by
              rw [due_pv] at T
              have T : SvTo wr sv _ _ W := ⟨T.os, T.tape, T.output, T.size, T.has, T.pc, T.keep, T.blk⟩
              obtain ⟨kk, fk, Hk⟩ := kj.server Hj T (by show 0 < (dueF _ _).bu; rw [due_bu]; exact HR1.out.b0)
              refine (starts_sv W (Sj.withSv W sv _) (B := S.B) hBj kk ((Like.withSv Sj W sv _).KP Pj) j sv x { dueF sT (Clk.upF S.mo) with pv := pv } hlt hxj HO.out.pol HO.out.srv Hk).mono ?_
              rintro e w' ⟨rfl, T2⟩
              refine ⟨rfl, ?_⟩
              rw [show (Sj.withSv W sv _).mo = Clk.upF S.mo from hmoj, start_pv] at T2
              obtain ⟨S4, pv4, L4, k4, f4, H4⟩ := Svd.turn (Lj.trans (Like.withSv Sj W sv _)) kk (fj.trans fk) Hk T2 (by show 0 < (startF _ _).bu; rw [start_bu, due_bu]; exact HR1.out.b0)
              exact ⟨S4, pv4, L4, k4, f4, H4⟩
            have HST := Lib.hid START
            have HTJ := Lib.hid hT
            have hxs : x.b ≠ sv ∧ pvj.ownBlock ≠ some x.b := by
              have l1 := (kj.ob (13 + 2 * j) x.b _ (obj_th hlt hxj)).2
              refine ⟨fun e => ?_, fun e => ?_⟩
              · have l2 := (Hj.has kj).2
                rw [← e, l1] at l2
                omega
              · obtain ⟨o, ho⟩ := Hj.e1 x.b e
                have l2 := (kj.ob 46 x.b o ((obj_ext 1).trans ho)).2
                rw [l1] at l2
                omega
            have HXS := Lib.hid hxs
            clear hxs
            clear htp hth Lj kj fj Hj hxj Pj START q hBj hmoj hT
            go_wp2_with fail
            go_region_law (first
              | (go_simp; go_at_call 86; refine MOD.mono ?_; rintro e w' ⟨rfl, rfl⟩)
              | (go_simp; go_at_call 85; refine DUD.mono ?_; rintro e wd ⟨pvd, nd, rfl, Td⟩
                 have hTd : wd.heap[x.b]? = some (thO j x) := (Td.keep x.b (has_lt HTJ.out) HXS.out.1 HXS.out.2).trans HTJ.out
                 have g23 := tc23 hTd
                 rw [HO.out.wt] at g23
                 have HTD := Lib.hid Td; clear Td hTd))
            go_wp2_with (go_at_call 87; refine (HST.out wd pvd HTD.out).mono ?_; rintro e we ⟨rfl, De⟩; have HDe := Lib.hid De; clear De)
            go_roundw
            case rel => exact ⟨j + 1, by go_num, by omega, by rw [if_pos (by omega)]; exact HDe.out⟩
            case measure => simp [intOf]; omega
            all_goals exact ⟨⟨j + 1, by go_num, by omega, by rw [if_pos (by omega)]; exact HDe.out⟩, by simp [intOf]; omega⟩
          · have dx : (x.pol == 2) = false := by
              have := HO.out.no j x hne (by rw [← HTH9.out]; exact hth)
              simpa using this
            clear htp hth hT Lj kj fj Hj hxj
            cases hen : x.en <;> rw [hen] at c20 <;> (
              clear hen
              go_wp2_with fail
              go_roundw
              case rel => exact ⟨j + 1, by go_num, by omega, by
                have q := HD.out
                by_cases c : p1 < j
                · rw [if_pos c] at q; rw [if_pos (by omega)]; exact q
                · rw [if_neg c] at q; rw [if_neg (by omega)]; exact q⟩
              case measure => simp [intOf]; omega)
      · obtain rfl : j = 16 := by omega
        have q := HD.out
        rw [if_pos HO.out.p16] at q
        obtain ⟨Sj, pvj, Lj, kj, fj, Hj⟩ := q
        have hBj : Sj.B = S.B := by rw [Lj.B]; exact HB9.out
        have D := fun W (hW : KW W Sj) c hc => due_c W Sj (B := S.B) hBj hW (Lj.KP HP9.out) (by rw [Lj.W0, HL9.out.W0]; exact HQ0.out) (by rw [Lj.W1, HL9.out.W1]; exact HQ1.out) c hc
        have HKj := Lib.hid kj
        have HFj := Lib.hid fj
        have HHj := Lib.hid Hj
        have HLj := Lib.hid (HL9.out.trans Lj)
        have HDD := Lib.hid D
        clear Lj kj fj Hj hBj D HD
        go_wp2_with (first
          | (go_at_call 88; first
            | (refine (HDD.out _ HK4.out 1 (.inr rfl)).mono ?_; rintro e w5 ⟨rfl, b5⟩; have HK5 := Lib.hid (HK4.out.reads b5); have HF5 := Lib.hid (HF4.out.trans (Fr.reads Sj b5)); clear b5)
            | (refine (HDD.out _ HKj.out 0 (.inl rfl)).mono ?_; rintro e w4 ⟨rfl, b4⟩; have HK4 := Lib.hid (HKj.out.reads b4); have HF4 := Lib.hid (HFj.out.trans (Fr.reads Sj b4)); clear b4)))
        exact bodyPost_end (results_none rfl _ _ _) rfl ⟨rfl, Sj, pvj, HLj.out, HK5.out, HF5.out, HHj.out⟩)
end Go.Proofs.YtagmlijhgncklaaGreatDoor.Ker
