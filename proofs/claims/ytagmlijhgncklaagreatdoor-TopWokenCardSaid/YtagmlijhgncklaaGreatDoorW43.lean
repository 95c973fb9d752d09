/-
  A wheel with one sleeper: its row is looked through, copied, emptied (Clone, IndexFunc, DeleteFunc), over the translation of this seat. Conditions: the blocks that are named hold what is said.
  A wheel's cells; somebody's deadline is set (Set), over the translation of this seat. Conditions: the blocks that are named hold what is said.
  A wheel of which one is due: remove, order, Due, Cancel, over the translation of this seat. Conditions: the blocks that are named hold what is said.
  A wheel of which one is due: order, Due, over the translation of this seat. Conditions: the blocks that are named hold what is said.
  A thread blocks (block), a moment after now (after), over the translation of this seat. Conditions: the blocks that are named hold what is said.
  A thread waits until a moment (waits), over the translation of this seat. Conditions: the blocks that are named hold what is said.
  One who slept wakes (leave, unblock, wake, late), over the translation of this seat. Conditions: the blocks that are named hold what is said.
  One who slept wakes (wake, late), what is due on the second clock (due), over the translation of this seat. Conditions: the blocks that are named hold what is said.
-/
import Derived.Test.YtagmlijhgncklaaGreatDoorW37
import Derived.Test.YtagmlijhgncklaaGreatDoorW42
import Derived.Test.YtagmlijhgncklaaGreatDoorW29
set_option linter.unusedVariables false
namespace Go.Proofs
open Go.Shelf
end Go.Proofs
namespace Go.Proofs.YtagmlijhgncklaaGreatDoor
open Go.RowKit Go.Proofs.YtagmlijhgncklaaGreatDoor

/-- One who sleeps: who, until when, which it was. -/
def oneV (n at' q : Int) : List Value := [.int .i64 n, .int .i64 at', .int .i64 q]
end Go.Proofs.YtagmlijhgncklaaGreatDoor
namespace Go.Proofs.YtagmlijhgncklaaGreatDoor
open Go.RowKit Go.Proofs.YtagmlijhgncklaaGreatDoor

theorem wh_wh {s : Wh} (ok : WhOk s) {n : Nat} (hn : n < 64) : (whC s)[65 + n]? = some (.int .i64 (s.wh.getD n 0)) := by
  rw [show 65 + n = (64 + n) + 1 by omega, whC, List.getElem?_cons_succ, List.getElem?_append_right (by rw [ok.rings]; omega), ok.rings, Nat.add_sub_cancel_left, List.getElem?_append_left (by rw [ints_length, ok.wh]; exact hn), ints_get (by rw [ok.wh]; exact hn)]
theorem id_c (w : World) (n : Nat) (hn : n < 64) : Calls Tryz.prog 455 #[.int .i64 n] w fun e w' => e = .returned (.bool true) ∧ w = w' := by
  have h0 : (0 : Int) ≤ n := by omega
  have h1 : (n : Int) < 64 := by omega
  go_enter Tryz.func455, Tryz.ntmps455
  go_wp2
  go_ret
  exact ⟨rfl, rfl⟩
/-- The wheel behind a deadline that was set for the first. -/
def Wh.setF (s : Wh) (k : Nat) (v : Value) : Wh := { s with rings := s.rings.set k v, wh := s.wh.set 0 (k + 1), st := s.st + 1, n := s.n + 1 }
end Go.Proofs.YtagmlijhgncklaaGreatDoor
namespace Go.Proofs.YtagmlijhgncklaaGreatDoor
open Go.RowKit Go.Proofs.YtagmlijhgncklaaGreatDoor

/-- The wheel behind the first's deadline was taken out of its ring. -/
def Wh.remF (s : Wh) (k : Nat) (v : Value) : Wh := { s with rings := s.rings.set k v, wh := s.wh.set 0 0, n := s.n - 1 }
theorem one_row {w : World} {B : Nat} {v : Value} {n a q : Int} (h : w.ownsRow B 422 3 v 1 (oneV n a q)) : ∃ g cap cur, v = .slice (some ⟨g, 0, none⟩) 1 cap ∧ B ≤ g ∧ w.heap[g]? = some (.cells cur 422 (0, 0)) ∧ 1 ≤ cap ∧ cap ≤ maxLen ∧ cur.size = cap * 3 ∧ cur[0]? = some (.int .i64 n) ∧ cur[1]? = some (.int .i64 a) ∧ cur[2]? = some (.int .i64 q) := by
  rcases h.2 with ⟨_, e⟩ | ⟨g, cap, cur, e, hb, hg, hc, hm, hs, ht⟩
  · omega
  · have at' : ∀ (i : Nat) (u : Value), i < 3 → (oneV n a q)[i]? = some u → cur[i]? = some u := fun i u hi hu => by
      rw [← ht, List.getElem?_take_of_lt (by omega)] at hu
      simpa using hu
    exact ⟨g, cap, cur, e, hb, hg, hc, hm, hs, at' 0 _ (by decide) rfl, at' 1 _ (by decide) rfl, at' 2 _ (by decide) rfl⟩
/-- A one-piece row in a block. -/
structure OneW (w : World) (g cap : Nat) (a q : Int) : Prop where
  row : w.ownsRow 0 422 3 (.slice (some ⟨g, 0, none⟩) 1 cap) 1 (oneV 0 a q)
theorem OneW.lt {w : World} {g cap : Nat} {a q : Int} (h : OneW w g cap a q) : g < w.heap.size := by
  obtain ⟨g', c', cur, e, _, hg, _⟩ := one_row h.row
  cases e
  exact has_lt hg
theorem OneW.kept {w w' : World} {g cap : Nat} {a q : Int} (h : OneW w g cap a q) (k : w'.heap[g]? = w.heap[g]?) : OneW w' g cap a q :=
  ⟨Ker.owns_kept h.row fun z hz => by cases hz; exact k⟩
structure RemW (w W : World) (y : Nat) : Prop where
  below : Below w.heap.size w W
  hy : W.heap[y]? = some (.cells #[.int .i64 0] 3 (0, 0))
  yw : w.heap.size ≤ y
theorem RemW.reads {w W W' : World} {y : Nat} (h : RemW w W y) (k : Below W.heap.size W W') : RemW w W' y :=
  ⟨h.below.trans (k.mono h.below.size), below_has k h.hy, h.yw⟩
end Go.Proofs.YtagmlijhgncklaaGreatDoor
namespace Go.Proofs.YtagmlijhgncklaaGreatDoor
open Go.RowKit Go.Proofs.YtagmlijhgncklaaGreatDoor

theorem OneW.of {w : World} {B : Nat} {v : Value} {a q : Int} (h : w.ownsRow B 422 3 v 1 (oneV 0 a q)) : ∃ g c, v = .slice (some ⟨g, 0, none⟩) 1 c ∧ B ≤ g ∧ OneW w g c a q := by
  obtain ⟨h0, (⟨_, e⟩ | ⟨g, cap, cur, e, hb, hg, hc, hm, hs, ht⟩)⟩ := h
  · omega
  · subst e
    exact ⟨g, cap, rfl, hb, ⟨h0, .inr ⟨g, cap, cur, rfl, Nat.zero_le _, hg, hc, hm, hs, ht⟩⟩⟩
end Go.Proofs.YtagmlijhgncklaaGreatDoor
namespace Go.Proofs.YtagmlijhgncklaaGreatDoor.Ker
open Go.RowKit Go.Proofs.YtagmlijhgncklaaGreatDoor

def wtV (x : Wt) : Value := .agg #[.int .i64 x.kind, .int .i64 x.on, .int .i64 x.call, .int .i64 x.mx, .int .u32 x.set, .int .i64 x.owed, .bool x.unw, .bool x.timed, .int .i64 x.clk]
theorem info137 : (Tryz.prog.info? 137).map (·.size) = some 9 := by kernel_rfl
def wtL (x : Wt) : List Value := [.int .i64 x.kind, .int .i64 x.on, .int .i64 x.call, .int .i64 x.mx, .int .u32 x.set, .int .i64 x.owed, .bool x.unw, .bool x.timed, .int .i64 x.clk]
theorem ts_wt (p : Nat) (t : Th) (x : Wt) : spl (thC p t) 23 [.int .i64 x.kind, .int .i64 x.on, .int .i64 x.call, .int .i64 x.mx, .int .u32 x.set, .int .i64 x.owed, .bool x.unw, .bool x.timed, .int .i64 x.clk] = thC p { t with wt := x } := by
  simp only [spl, thC, List.setIfInBounds_toArray, List.set_cons_succ, List.set_cons_zero]
/-- What a thread waits in is stored. -/
theorem store_wt {ops : Array Oper} {rest : List Oper} {op : Oper} {a : Act} {w : World} {Q : Exit → Act → World → Prop} (hgd : op.guard = none) (x y : Operand) (ho : op.op = .store 137 x y)
    (p : Nat) (t : Th) (X : Wt) (hx : a.eval x = .pointer (some ⟨t.b, 23, none⟩)) (hy : a.eval y = wtV X) (hT : w.heap[t.b]? = some (thO p t))
    (h : ∀ W, Upd w t.b (thO p { t with wt := X }) W → wpList Tryz.prog ops Q rest (a.put op.dst undef) W) : wpList Tryz.prog ops Q (op :: rest) a w := by
  refine wpList_store_mid hgd 137 x y ho t.b 23 (wtL X).toArray hx hy ?_ ?_ ?_ ?_
  · exact has_there hT 23 9 (by have hs : (thC p t).size = 33 := rfl; rw [hs]; show 23 + 9 ≤ 33; decide)
  · exact info137
  · rw [Array.all_eq_true_iff_forall_mem]
    intro v hv
    simp [wtL] at hv
    rcases hv with rfl | rfl | rfl | rfl | rfl | rfl | rfl | rfl | rfl <;> rfl
  · refine h _ ?_
    have h' : Obj.cells (spl (thC p t) 23 (wtL X)) 140 (0, 0) = thO p { t with wt := X } := by unfold thO wtL; rw [ts_wt]
    have U := Upd.setCells (fz := (0, 0)) (t := 140) (wtL X) 23 (thC p t) w (Upd.refl hT)
    refine h' ▸ U
/-- A thread is blocked: it waits, and has left its sequences. -/
def KS.blocked (S : KS) (p : Nat) (t : Th) (x : Wt) : KS := { S with th := put S.th p (some { t with wt := x }), L := S.L.set p Hs.no, R := S.R.remF p, st := S.st + 2 }
set_option maxRecDepth 100000 in
set_option maxHeartbeats 1000000 in
theorem block_c (w : World) (S : KS) {B : KB} (hB : S.B = B) (h : KW w S) (P : KP S) (p p0 : Nat) (t : Th) (x : Wt) (hp : p < 16) (ht : S.th p = some t) (hpol : t.pol ≠ 2) (I : InSeq S p p0) :
    Calls Tryz.prog 488 #[.pointer (some ⟨B.kb, 0, none⟩), .pointer (some ⟨t.b, 0, none⟩), wtV x] w fun e w' => e = .returned (.tuple #[]) ∧ KW w' (S.blocked p t x) ∧ Fr S (S.blocked p t x) w w' := by
  subst hB
  have b1 := (Below.refl w.heap.size w).alloc (Nat.le_refl _) (.cells #[.int .i64 x.kind, .int .i64 x.on, .int .i64 x.call, .int .i64 x.mx, .int .u32 x.set, .int .i64 x.owed, .bool x.unw, .bool x.timed, .int .i64 x.clk] 137)
  have k1 := h.reads b1
  have hT := k1.getTh hp ht
  have x0 := heap_alloc_new w (.cells #[.int .i64 x.kind, .int .i64 x.on, .int .i64 x.call, .int .i64 x.mx, .int .u32 x.set, .int .i64 x.owed, .bool x.unw, .bool x.timed, .int .i64 x.clk] 137)
  have fz := has_free hT
  have HP := Lib.hid P
  have HT := Lib.hid ht
  have HI := Lib.hid I
  have HPOL := Lib.hid hpol
  have HK1 := Lib.hid k1
  have HB1 := Lib.hid b1
  have HTT := Lib.hid hT
  clear h P ht I hpol k1 hT fz x0 b1
  go_enter Tryz.func488, Tryz.ntmps488
  unfold wtV
  go_upto_region 2 with (refine store_wt rfl (.tmp 9) (.tmp 7) rfl p t x rfl rfl HTT.out ?_; intro W1 U1; have HU1 := Lib.hid U1; clear U1)
  have q1 := HK1.out.thr (t' := { t with wt := x }) hp HT.out HU1.out rfl rfl rfl
  obtain ⟨S1, hS1⟩ : ∃ S1 : KS, S1 = { S with th := put S.th p (some { t with wt := x }) } := ⟨_, rfl⟩
  rw [← hS1] at q1
  have hB1 : S1.B = S.B := by rw [hS1]
  have ht1 : S1.th p = some { t with wt := x } := by rw [hS1]; exact put_self _ _ _
  have P1 : KP S1 := by
    have q := HP.out.setTh (t' := { t with wt := x }) HT.out rfl (HP.out.can p t HT.out)
    rw [hS1]
    exact { q with }
  have kd : KW W1.drew S1 := q1.1.keeps (Nat.le_refl _) (fun _ _ _ => rfl)
  have hT := q1.1.getTh hp ht1
  have c0 : W1.cell? ⟨t.b, 0, none⟩ = some (.int .i64 p) := tc0 (t := { t with wt := x }) hT
  have c26 := kc26 (B := S.B) q1.1 hB1
  have A := turns_leave W1.drew S.B.tb S.B.rb S.B.J.q S.L S.R S.st p p0 (by have q := kd.tn P1.L P1.R; rw [hS1] at q; exact q) hp HI.out.isIn HI.out.q1 HI.out.q32 HI.out.pr HI.out.pv HI.out.nx HI.out.s0 (by have := HI.out.s1; omega)
  have K1 : ∀ W, Tn W S.B.tb S.B.rb S.B.J.q (S.L.set p Hs.no) (S.R.remF p) (S.st + 2) → Upd2 W1.drew S.B.tb S.B.rb W → KW W (S.blocked p t x) ∧ Fr S1 (S.blocked p t x) W1.drew W := fun W T u => by
    have q := kd.turns (L := S.L.set p Hs.no) (R := S.R.remF p) (st := S.st + 2) (by rw [hB1]; exact T) (by rw [hB1]; exact u)
    rw [hS1] at q ⊢
    exact q
  have hT9 := fun W (hW : KW W (S.blocked p t x)) => hW.getTh (t := { t with wt := x }) hp (put_self _ _ _)
  have HF1 := Lib.hid (((Fr.reads S HB1.out).trans q1.2).drew)
  have HK := Lib.hid K1
  clear hS1 q1 P1 kd hT ht1 hB1 K1
  go_wp2_with fail
  refine still_tail 8 (by kernel_rfl) (by kernel_rfl) ?_
  simp only [List.take_succ_cons, List.take_zero, List.drop_succ_cons, List.drop_zero]
  repeat still_step
  refine wpStill_nil ?_
  go_wp2_with (first
    | (go_at_call 340; refine A.mono ?_; rintro e w2 ⟨rfl, T2, u2⟩; have k2 := HK.out w2 T2 u2; have hT2 := hT9 w2 k2.1; have HK2 := Lib.hid k2; clear T2 u2 A c0 c26)
    | (go_at_call 341; refine (stops_c _ p { t with wt := x } _ hT2 HPOL.out).mono ?_; rintro e w' ⟨rfl, rfl⟩))
  exact bodyPost_end (results_none rfl _ _ _) rfl ⟨rfl, HK2.out.1, HF1.out.trans HK2.out.2⟩
end Go.Proofs.YtagmlijhgncklaaGreatDoor.Ker
namespace Go.Proofs.YtagmlijhgncklaaGreatDoor.Ker
open Go.RowKit Go.Proofs.YtagmlijhgncklaaGreatDoor

/-- A row of one who sleeps. -/
structure Row1 (cur : Array Value) (cap : Nat) (a q : Int) : Prop where
  row : ∀ w g, (World.heap w)[g]? = some (.cells cur 422 (0, 0)) → OneW w g cap a q
theorem Row1.of {w : World} {B g cap : Nat} {cur : Array Value} {a q : Int} (h : w.heap[g]? = some (.cells cur 422 (0, 0))) (ow : w.ownsRow B 422 3 (.slice (some ⟨g, 0, none⟩) 1 cap) 1 (oneV 0 a q)) : Row1 cur cap a q := by
  obtain ⟨h0, (⟨e, _⟩ | ⟨g', cap', cur', e, hb, hg, hc, hm, hs, ht⟩)⟩ := ow
  · cases e
  · cases e
    rw [h] at hg
    cases hg
    exact ⟨fun w2 g2 h2 => ⟨h0, .inr ⟨g2, cap, cur, rfl, Nat.zero_le _, h2, hc, hm, hs, ht⟩⟩⟩
def sleepW : Wt := { Wt.no with kind := 11, call := 62 }
/-- A thread sleeps until k. -/
def KS.slept (S : KS) (p : Nat) (t : Th) (x : Wt) (k g cap : Nat) (cur : Array Value) : KS :=
  ((({ ({ S with th := put S.th p (some { t with wt := x }) } : KS) with W1 := S.W1.setF k (.slice (some ⟨g, 0, none⟩) 1 cap) } : KS).mark 5 g (.cells cur 422 (0, 0))).blocked p { t with wt := x } x)
end Go.Proofs.YtagmlijhgncklaaGreatDoor.Ker
namespace Go.Proofs.YtagmlijhgncklaaGreatDoor.Ker
open Go.RowKit Go.Proofs.YtagmlijhgncklaaGreatDoor

theorem sleep_cells {W : World} {p : Nat} {t : Th} (h : W.heap[t.b]? = some (thO p t)) (hw : t.wt = sleepW) : W.cell? ⟨t.b, 0, none⟩ = some (.int .i64 p) ∧ W.cell? ⟨t.b, 23, none⟩ = some (.int .i64 11) ∧ W.cell? ⟨t.b, 24, none⟩ = some (.int .i64 0) ∧ W.cell? ⟨t.b, 25, none⟩ = some (.int .i64 62) ∧ W.cell? ⟨t.b, 26, none⟩ = some (.int .i64 0) ∧ W.cell? ⟨t.b, 27, none⟩ = some (.int .u32 0) ∧ W.cell? ⟨t.b, 28, none⟩ = some (.int .i64 0) ∧ W.cell? ⟨t.b, 29, none⟩ = some (.bool false) ∧ W.cell? ⟨t.b, 30, none⟩ = some (.bool false) ∧ W.cell? ⟨t.b, 31, none⟩ = some (.int .i64 0) := by
  have e : thO p t = thO p { t with wt := sleepW } := by rw [← hw]
  rw [e] at h
  exact ⟨has_cell 0 h rfl, has_cell 23 h rfl, has_cell 24 h rfl, has_cell 25 h rfl, has_cell 26 h rfl, has_cell 27 h rfl, has_cell 28 h rfl, has_cell 29 h rfl, has_cell 30 h rfl, has_cell 31 h rfl⟩
set_option maxRecDepth 100000 in
set_option maxHeartbeats 1000000 in
theorem leave_c (w : World) (p : Nat) (t : Th) (k : Nat) (hT : w.heap[t.b]? = some (thO p t)) (hw : t.wt = sleepW) :
    Calls Tryz.prog 312 #[.pointer (some ⟨k, 0, none⟩), .pointer (some ⟨t.b, 0, none⟩)] w fun e w' => e = .returned (.tuple #[]) ∧ Below w.heap.size w w' := by
  obtain ⟨c0, c1, c2, c3, c4, c5, c6, c7, c8, c9⟩ := sleep_cells hT hw
  have F : ∀ o, _ := fun o => sleep_cells (below_alloc_has (o := o) hT) hw
  clear hT hw
  go_enter Tryz.func312, Tryz.ntmps312
  go_upto_region 0 with fail
  go_region_held3 (fun W => W.cell? ⟨t.b, 0, none⟩ = some (.int .i64 p) ∧ W.cell? ⟨t.b, 23, none⟩ = some (.int .i64 11) ∧ W.cell? ⟨t.b, 24, none⟩ = some (.int .i64 0) ∧ W.cell? ⟨t.b, 25, none⟩ = some (.int .i64 62) ∧ W.cell? ⟨t.b, 26, none⟩ = some (.int .i64 0) ∧ W.cell? ⟨t.b, 27, none⟩ = some (.int .u32 0) ∧ W.cell? ⟨t.b, 28, none⟩ = some (.int .i64 0) ∧ W.cell? ⟨t.b, 29, none⟩ = some (.bool false) ∧ W.cell? ⟨t.b, 30, none⟩ = some (.bool false) ∧ W.cell? ⟨t.b, 31, none⟩ = some (.int .i64 0)) (first | exact ⟨c0, c1, c2, c3, c4, c5, c6, c7, c8, c9⟩ | exact F _) (fail)
  go_wp2_with fail
  exact bodyPost_end (results_none rfl _ _ _) rfl ⟨rfl, ((Below.refl _ _).alloc (Nat.le_refl _) _).drew⟩
/-- The kernel behind the waking of the thread 0. -/
def KS.unbl (S : KS) (t : Th) (pr : Nat) : KS := { S with th := put S.th 0 (some { t with wt := Wt.no }), L := S.L.set 0 ⟨true, decide (t.pol = 1), pr, S.B.J.q⟩, R := S.R.tailF pr 0, st := S.st + 4 }
end Go.Proofs.YtagmlijhgncklaaGreatDoor.Ker
namespace Go.Proofs.YtagmlijhgncklaaGreatDoor.Ker
open Go.RowKit Go.Proofs.YtagmlijhgncklaaGreatDoor

/-- The kernel behind the waking of the thread 0, which is answered 0. -/
def KS.woken (S : KS) (t : Th) (pr : Nat) (v : Value) : KS := (S.unbl t pr).ans 0 (({ t with wt := Wt.no } : Th).ans 0 0) v
/-- What the waking of the thread 0 asks for. -/
structure CanWake (S : KS) (t : Th) (pr : Nat) : Prop where
  th : S.th 0 = some t
  wt : t.wt = sleepW
  pol : t.pol ≠ 2
  eff : t.eff = pr
  h1 : 1 ≤ pr
  h32 : pr < 32
  isIn : (S.L.getD 0 Hs.no).isIn = false
  z : S.R.pr.getD 0 0 = 0
  l : Lk (S.R.tl.getD pr 0)
  s0 : 0 ≤ S.st
  s1 : S.st ≤ 800000000
  q0 : S.W0.wh.getD 0 0 = 0
  q1 : S.W1.wh.getD 0 0 = 0
  an : S.lo.an ≤ 100000
theorem CanWake.reads {S : KS} {t : Th} {pr : Nat} (C : CanWake S t pr) : CanWake S t pr := C
end Go.Proofs.YtagmlijhgncklaaGreatDoor.Ker
