/-
  A thread waits for a semaphore (waits, semWait, callSemWait), over the translation of this seat. Conditions: the blocks that are named hold what is said.
  A thread waits for a semaphore (semWait, callSemWait), over the translation of this seat. Conditions: the blocks that are named hold what is said.
  One who waits for a semaphore wakes (unblock, wake), a post (post, callPost), over the translation of this seat. Conditions: the blocks that are named hold what is said.
  A thread asks who it is, yields, and takes another priority (callSelf, callYield, callSetPrio), over the translation of this seat. Conditions: the blocks that are named hold what is said.
  How a kernel with one semaphore stands between events, and what a step, a note, a making, an end make of it. Conditions: those said.
  Do of a call that is answered, or that leaves (a wait); a kernel stays calm. Conditions: those said.
  The calls of a kernel with a semaphore, ready for use: who one is, yield, another priority, wait, post. Conditions: those said.
-/
import Derived.Test.YtagmlijhgncklaaGreatDoorW38
import Derived.Test.YtagmlijhgncklaaGreatDoorW43
import Derived.Test.YtagmlijhgncklaaGreatDoorW14
import Derived.Test.YtagmlijhgncklaaGreatDoorW42
import Derived.Test.YtagmlijhgncklaaGreatDoorW41
set_option linter.unusedVariables false
namespace Go.Proofs.YtagmlijhgncklaaGreatDoor.Ker
open Go.RowKit Go.Proofs.YtagmlijhgncklaaGreatDoor

theorem blocked_blocked (S : KS) (p : Nat) (t : Th) (x : Wt) : ({ S with th := put S.th p (some { t with wt := x }) } : KS).blocked p { t with wt := x } x = S.blocked p t x := by
  unfold KS.blocked
  show ({ S with th := put (put S.th p _) p _, L := _, R := _, st := _ } : KS) = _
  rw [put_put]
set_option maxRecDepth 100000 in
set_option maxHeartbeats 1000000 in
/-- A thread waits without end. -/
theorem waitsNow_c (w : World) (S : KS) {B : KB} (hB : S.B = B) (h : KW w S) (P : KP S) (p p0 : Nat) (t : Th) (x : Wt) (hp : p < 16) (ht : S.th p = some t) (hpol : t.pol ≠ 2) (I : InSeq S p p0) :
    Calls Tryz.prog 352 #[.pointer (some ⟨B.kb, 0, none⟩), .pointer (some ⟨t.b, 0, none⟩), wtV x, .agg #[.bool false, .int .i64 0, .int .i64 0]] w fun e w' => e = .panicked [{ v := .iface 326 (.agg #[]), recovered := false }] ∧ KW w' (S.blocked p t x) ∧ Fr S (S.blocked p t x) w w' := by
  subst hB
  obtain ⟨w0, hw0⟩ : ∃ w0, w0 = (w.alloc (.cells (wtL x).toArray 137)).alloc (.cells #[.bool false, .int .i64 0, .int .i64 0] 465) := ⟨_, rfl⟩
  have b0 : Below w.heap.size w w0 := by rw [hw0]; exact ((Below.refl _ _).alloc (Nat.le_refl _) _).alloc (by simp) _
  have x1 : w0.heap[w.heap.size + 1]? = some (.cells #[.bool false, .int .i64 0, .int .i64 0] 465 (0, 0)) := by
    rw [hw0]
    have q := heap_alloc_new (w.alloc (.cells (wtL x).toArray 137)) (.cells #[.bool false, .int .i64 0, .int .i64 0] 465)
    rw [World.size_alloc] at q
    exact q
  have x0 : w0.heap[w.heap.size]? = some (.cells (wtL x).toArray 137 (0, 0)) := by rw [hw0]; exact below_alloc_has (heap_alloc_new w _)
  have k0 := h.reads b0
  have hT := k0.getTh hp ht
  obtain ⟨n0, hn0⟩ : ∃ n0, n0 = w.heap.size := ⟨_, rfl⟩
  obtain ⟨S1, hS1⟩ : ∃ S1 : KS, S1 = { S with th := put S.th p (some { t with wt := x }) } := ⟨_, rfl⟩
  have l0 : S.lo.lab n0 = 0 := h.fresh _ (by rw [hn0]; omega)
  have l1 : S.lo.lab (n0 + 1) = 0 := h.fresh _ (by rw [hn0]; omega)
  have ne0 : n0 ≠ t.b := fun e => by have h2 := (k0.ob _ _ _ (obj_th hp ht)).2; rw [← e, l0] at h2; omega
  have ne1 : n0 + 1 ≠ t.b := fun e => by have h2 := (k0.ob _ _ _ (obj_th hp ht)).2; rw [← e, l1] at h2; omega
  have K1 : ∀ W, Upd w0 t.b (thO p { t with wt := x }) W → KW W S1 ∧ Fr S S1 w W ∧ W.heap[n0]? = some (.cells (wtL x).toArray 137 (0, 0)) ∧ W.heap[n0 + 1]? = some (.cells #[.bool false, .int .i64 0, .int .i64 0] 465 (0, 0)) := fun W u => by
    have q := k0.thr (t' := { t with wt := x }) hp ht u rfl rfl rfl
    rw [← hS1] at q
    exact ⟨q.1, (Fr.reads S b0).trans q.2, u.other (by rw [hn0]; exact x0) ne0, u.other (by rw [hn0]; exact x1) ne1⟩
  have ht1 : S1.th p = some { t with wt := x } := by rw [hS1]; exact put_self S.th p _
  have P1 : KP S1 := by
    have q := P.setTh (t' := { t with wt := x }) ht rfl (P.can p t ht)
    rw [hS1]
    exact { q with }
  have I1 : InSeq S1 p p0 := by rw [hS1]; exact ⟨I.isIn, I.q1, I.q32, I.pr, I.pv, I.nx, I.s0, I.s1⟩
  have BL := fun W (hW : KW W S1) => block_c W S1 (B := S.B) (by rw [hS1]) hW P1 p p0 { t with wt := x } x hp ht1 hpol I1
  have HE : S1.blocked p { t with wt := x } x = S.blocked p t x := by rw [hS1]; exact blocked_blocked S p t x
  have r0 : w0.rangeAt n0 0 (wtL x) := has_range (by rw [hn0]; exact x0) (wtL x) 0 (by simp)
  have HW0 := Lib.hid hw0
  have HN0 := Lib.hid hn0
  have HTT := Lib.hid hT
  have HK1 := Lib.hid K1
  have HBL := Lib.hid BL
  have HHE := Lib.hid HE
  clear h P ht hpol I hw0 b0 x0 x1 k0 hT hn0 hS1 l0 l1 ne0 ne1 K1 ht1 P1 I1 BL HE
  go_enter Tryz.func352, Tryz.ntmps352
  unfold wtV
  go_upto_region 1 with fail
  rw [show (#[.int .i64 x.kind, .int .i64 x.on, .int .i64 x.call, .int .i64 x.mx, .int .u32 x.set, .int .i64 x.owed, .bool x.unw, .bool x.timed, .int .i64 x.clk] : Array Value) = (wtL x).toArray from rfl]
  rw [← HW0.out, ← HN0.out]
  go_upto_region 10 with (first
    | (refine wpList_load_mid rfl 137 (.tmp 6) rfl n0 0 rfl (wtL x) _ r0 Tryz.underlying137 rfl (by kernel_rfl) ?_)
    | (refine store_wt rfl (.tmp 11) (.tmp 9) rfl p t x rfl rfl HTT.out ?_; intro W1 U1; have K := HK1.out W1 U1; have b1 : W1.cell? ⟨n0 + 1, 0, none⟩ = some (.bool false) := has_cell 0 K.2.2.2 rfl; have HK := Lib.hid K; clear U1 K r0))
  have r1 : W1.rangeAt n0 0 (wtL x) := has_range HK.out.2.2.1 (wtL x) 0 (by simp)
  have B1 := HBL.out W1 HK.out.1
  unfold wtV at B1
  go_wp2_with (first
    | (refine wpList_load_mid rfl 137 (.tmp 6) rfl n0 0 rfl (wtL x) _ r1 Tryz.underlying137 rfl (by kernel_rfl) ?_)
    | (go_at_call 488; refine Calls.mono (show Calls Tryz.prog 488 _ W1 _ from B1) ?_; rintro e w2 ⟨rfl, k2, f2⟩; have HK2 := Lib.hid (And.intro k2 f2); clear k2 f2 B1))
  rw [HHE.out] at HK2
  exact ⟨rfl, rfl, HK2.out.1, HK.out.2.1.trans HK2.out.2⟩
end Go.Proofs.YtagmlijhgncklaaGreatDoor.Ker
namespace Go.Proofs.YtagmlijhgncklaaGreatDoor.Ker
open Go.RowKit Go.Proofs.YtagmlijhgncklaaGreatDoor

def semW : Wt := { Wt.no with kind := 4, on := 16, call := 27 }
/-- The kernel behind a wait for the semaphore. -/
def KS.semBl (S : KS) (p : Nat) (t : Th) (q g : Nat) (last : Int) (og : Obj) : KS := (S.withSe q g (last + 1 + 1) og).blocked p t semW
theorem seCells {S : KS} {p : Nat} {t : Th} (hp : p < 16) (ht : S.th p = some t) (h2 : t.r 2 = 16) : ∀ V S', S'.th = S.th → KW V S' → V.cell? ⟨t.b, 6, none⟩ = some (.int .i64 16) ∧ V.cell? ⟨t.b, 0, none⟩ = some (.int .i64 p) ∧ V.cell? ⟨t.b, 17, none⟩ = some (.int .i64 t.eff) := fun V S' e k => by
  have y := k.getTh hp (by rw [e]; exact ht)
  have x := tc6 y
  rw [h2] at x
  exact ⟨x, tc0 y, tc17 y⟩
set_option maxRecDepth 100000 in
set_option maxHeartbeats 2000000 in
theorem semWait_c (w : World) (S : KS) {B : KB} (hB : S.B = B) (h : KW w S) (P : KP S) (p p0 : Nat) (t : Th) (hp : p < 16) (ht : S.th p = some t) (h2 : t.r 2 = 16) (hpol : t.pol ≠ 2) (I : InSeq S p p0) (e1 : 1 ≤ t.eff) (e2 : t.eff ≤ 31) {b q g : Nat} {last : Int} {E : WEs} (H : HasSe S b q g last E) (K : EsOk E last) (hE : ∀ x ∈ E, x.1 ≠ p) :
    Calls Tryz.prog 385 #[.pointer (some ⟨B.kb, 0, none⟩), .pointer (some ⟨t.b, 0, none⟩), .int .i64 27, .agg #[.bool false, .int .i64 0, .int .i64 0]] w fun e w' => ∃ og, e = .panicked [{ v := .iface 326 (.agg #[]), recovered := false }] ∧ KW w' (S.semBl p t q g last og) ∧ Fr S (S.semBl p t q g last og) w w' ∧ HasSe (S.semBl p t q g last og) b q g (last + 1 + 1) (E ++ [(p, t.eff, last + 1 + 1)]) := by
  subst hB
  have k0 := h.reads ((Below.refl w.heap.size w).alloc (Nat.le_refl _) (.cells #[.bool false, .int .i64 0, .int .i64 0] 465))
  have x0 := heap_alloc_new w (.cells #[.bool false, .int .i64 0, .int .i64 0] 465)
  have o0 : Out (w.alloc (.cells #[.bool false, .int .i64 0, .int .i64 0] 465)) S w.heap.size (.cells #[.bool false, .int .i64 0, .int .i64 0] 465 (0, 0)) := ⟨x0, h.fresh _ (Nat.le_refl _)⟩
  have f0' : Fr S S w (w.alloc (.cells #[.bool false, .int .i64 0, .int .i64 0] 465)) := Fr.reads S ((Below.refl w.heap.size w).alloc (Nat.le_refl _) _)
  have FC := seCells hp ht h2
  have SW := fun W (hW : KW W S) => semWait1_c W b q g last E (H.w hW) K p t.eff hp e1 e2 hE
  have WN := fun og W (hW : KW W (S.withSe q g (last + 1 + 1) og)) => waitsNow_c W (S.withSe q g (last + 1 + 1) og) (B := S.B) rfl hW { P with } p p0 t semW hp ht hpol ⟨I.isIn, I.q1, I.q32, I.pr, I.pv, I.nx, I.s0, I.s1⟩
  have MC := fun W (hW : KW W S) => sem_c W S rfl hW H
  have HFC := Lib.hid FC
  have HSW := Lib.hid SW
  have HWN := Lib.hid WN
  have HMC := Lib.hid MC
  have HH := Lib.hid H
  have HK0 := Lib.hid k0
  have HO0 := Lib.hid o0
  have HF0 := Lib.hid f0'
  clear h P ht h2 hpol I e1 e2 H K hE FC SW WN MC k0 x0 o0 f0'
  go_enter Tryz.func385, Tryz.ntmps385
  go_upto_region 1 with fail
  obtain ⟨n0, hn0⟩ : ∃ n0, n0 = w.heap.size := ⟨_, rfl⟩
  rw [← hn0] at HO0 ⊢
  refine world_wp (fun W => KW W S ∧ Fr S S w W ∧ Out W S n0 (.cells #[.bool false, .int .i64 0, .int .i64 0] 465 (0, 0))) ⟨HK0.out, HF0.out, HO0.out⟩ ?_
  clear HK0 HF0 HO0 hn0
  rintro W0 ⟨k0, f0, o0⟩
  obtain ⟨d6, d0, d17⟩ := HFC.out W0 S rfl k0
  have kd : KW W0.drew S := k0.keeps (Nat.le_refl _) (fun _ _ _ => rfl)
  have HKD := Lib.hid kd
  have HF0 := Lib.hid f0.drew
  have HO0 := Lib.hid (show Out W0.drew S n0 _ from o0)
  clear k0 f0 o0 kd
  go_region_held3 (fun W' => W'.cell? ⟨t.b, 6, none⟩ = some (.int .i64 16) ∧ W'.cell? ⟨t.b, 0, none⟩ = some (.int .i64 p) ∧ W'.cell? ⟨t.b, 17, none⟩ = some (.int .i64 t.eff)) (first | exact ⟨d6, d0, d17⟩ | exact ⟨by assumption, by assumption, by assumption⟩) (first
    | (go_at_call 382; refine (HMC.out _ HKD.out).mono ?_; rintro e w2 ⟨rfl, b2⟩; have k2 := HKD.out.reads b2; obtain ⟨g6, g0, g17⟩ := HFC.out w2 S rfl k2; have HK2 := Lib.hid k2; have HF2 := Lib.hid (HF0.out.trans (Fr.reads S b2)); have HO2 := Lib.hid (HO0.out.fr (Fr.reads S b2)); clear k2 b2)
    | (go_at_call 505; refine (HSW.out _ HK2.out).mono ?_; rintro e w3 ⟨rfl, s3, u3⟩; obtain ⟨og, k3, f3, h3⟩ := HK2.out.semq HH.out s3.w u3; obtain ⟨i6, i0, i17⟩ := HFC.out w3 (S.withSe q g (last + 1 + 1) og) rfl k3; have HK3 := Lib.hid k3; have HF3 := Lib.hid (HF2.out.trans f3); have HO3 := Lib.hid (HO2.out.fr f3); have HH3 := Lib.hid h3; clear s3 u3 k3 f3 h3))
  go_upto_region 3 with fail
  refine world_wp (fun W => KW W (S.withSe q g (last + 1 + 1) og) ∧ Fr S (S.withSe q g (last + 1 + 1) og) w W ∧ Out W (S.withSe q g (last + 1 + 1) og) n0 (.cells #[.bool false, .int .i64 0, .int .i64 0] 465 (0, 0))) (by first | exact ⟨HK3.out, HF3.out, HO3.out⟩ | exact ⟨HK3.out.keeps (Nat.le_refl _) (fun _ _ _ => rfl), HF3.out.drew, HO3.out⟩) ?_
  clear HK3 HF3 HO3 HK2 HF2 HO2 HKD HF0 HO0 d6 d0 d17 g6 g0 g17 i6 i0 i17
  rintro W4 ⟨k4, f4, o4⟩
  obtain ⟨j6, _, _⟩ := HFC.out W4 (S.withSe q g (last + 1 + 1) og) rfl k4
  have f6 : ∀ d os, (Go.Sort.grow (redrawn W4 d) os).cell? ⟨t.b, 6, none⟩ = some (.int .i64 16) := fun d os => cell_regrown j6 d os
  have g0 : ∀ d os, (Go.Sort.grow (redrawn W4 d) os).cell? ⟨n0, 0, none⟩ = some (.bool false) := fun d os => cell_regrown (has_cell 0 o4.1 rfl) d os
  have g1 : ∀ d os, (Go.Sort.grow (redrawn W4 d) os).cell? ⟨n0, 1, none⟩ = some (.int .i64 0) := fun d os => cell_regrown (has_cell 1 o4.1 rfl) d os
  have g2 : ∀ d os, (Go.Sort.grow (redrawn W4 d) os).cell? ⟨n0, 2, none⟩ = some (.int .i64 0) := fun d os => cell_regrown (has_cell 2 o4.1 rfl) d os
  have HK4 := Lib.hid k4
  have HF4 := Lib.hid f4
  clear k4 f4 o4 j6
  refine quiet_tail_below 10 (by kernel_rfl) (by kernel_rfl) ?_
  simp only [List.take_succ_cons, List.take_zero, List.drop_succ_cons, List.drop_zero]
  repeat (quiet_step (fail))
  refine wpQuiet_nil ?_
  rintro _ ⟨⟨dq, osq⟩, rfl⟩
  have b5 := below_regrown W4 dq osq
  obtain ⟨W5, hW5⟩ : ∃ W5, W5 = Go.Sort.grow (redrawn W4 dq) osq := ⟨_, rfl⟩
  rw [← hW5] at b5 ⊢
  have C5 := HWN.out og W5 (HK4.out.reads b5)
  have HB5 := Lib.hid b5
  clear b5 hW5 f6 g0 g1 g2
  unfold wtV semW Wt.no at C5
  go_wp2_with (go_at_call 352; refine Calls.mono (show Calls Tryz.prog 352 _ W5 _ from C5) ?_; rintro e w6 ⟨rfl, k6, f6⟩)
  exact ⟨rfl, og, rfl, k6, (HF4.out.trans (Fr.reads _ HB5.out)).trans f6, HH3.out.same rfl rfl rfl⟩
set_option maxRecDepth 100000 in
theorem callSemWait_c (w : World) (S : KS) {B : KB} (hB : S.B = B) (h : KW w S) (P : KP S) (p p0 : Nat) (t : Th) (hp : p < 16) (ht : S.th p = some t) (h2 : t.r 2 = 16) (hpol : t.pol ≠ 2) (I : InSeq S p p0) (e1 : 1 ≤ t.eff) (e2 : t.eff ≤ 31) {b q g : Nat} {last : Int} {E : WEs} (H : HasSe S b q g last E) (K : EsOk E last) (hE : ∀ x ∈ E, x.1 ≠ p) :
    Calls Tryz.prog 234 #[.pointer (some ⟨B.kb, 0, none⟩), .pointer (some ⟨t.b, 0, none⟩)] w fun e w' => ∃ og, e = .panicked [{ v := .iface 326 (.agg #[]), recovered := false }] ∧ KW w' (S.semBl p t q g last og) ∧ Fr S (S.semBl p t q g last og) w w' ∧ HasSe (S.semBl p t q g last og) b q g (last + 1 + 1) (E ++ [(p, t.eff, last + 1 + 1)]) := by
  have A := semWait_c w S hB h P p p0 t hp ht h2 hpol I e1 e2 H K hE
  clear h P ht h2 hpol I e1 e2 H K hE hB
  go_enter Tryz.func234, Tryz.ntmps234
  go_wp2_with (go_at_call 385; refine A.mono ?_; rintro e w2 ⟨og, rfl, k2, f2, h2⟩)
  exact ⟨rfl, og, rfl, k2, f2, h2⟩
end Go.Proofs.YtagmlijhgncklaaGreatDoor.Ker
namespace Go.Proofs.YtagmlijhgncklaaGreatDoor
open Go.RowKit
theorem cancelP_not (w : World) (b p : Nat) (hp : p < 16) (s : Wh) (h : w.heap[b]? = some (whO s)) (ok : WhOk s) (hw : s.wh.getD p 0 = 0) : Calls Tryz.prog 469 #[.pointer (some ⟨b, 0, none⟩), .int .i64 p] w fun e w' => (∃ z, e = .returned z) ∧ w = w' := by
  have IS := whis_c w b s h
  have ID : Calls Tryz.prog 455 #[.int .i64 p] w fun e w' => e = .returned (.bool true) ∧ w = w' := id_c w p (by omega)
  have c65 : w.cell? ⟨b, 65 + p, none⟩ = some (.int .i64 0) := by
    have q := wh_wh ok (n := p) (by omega)
    rw [hw] at q
    exact has_cell (65 + p) h (by rw [List.getElem?_toArray]; exact q)
  have i0 : (0 : Int) ≤ p := by omega
  have i1 : (p : Int) < 64 := by omega
  clear h
  go_enter Tryz.func469, Tryz.ntmps469
  go_wp2_with (first | (go_at_call 314; refine IS.mono ?_; rintro e w' ⟨rfl, rfl⟩) | (go_at_call 455; refine ID.mono ?_; rintro e w' ⟨rfl, rfl⟩))
  go_ret
  exact ⟨⟨_, rfl⟩, rfl⟩
end Go.Proofs.YtagmlijhgncklaaGreatDoor
namespace Go.Proofs.YtagmlijhgncklaaGreatDoor.Ker
open Go.RowKit Go.Proofs.YtagmlijhgncklaaGreatDoor

theorem sem_cells {W : World} {p : Nat} {t : Th} (h : W.heap[t.b]? = some (thO p t)) (hw : t.wt = semW) : W.cell? ⟨t.b, 0, none⟩ = some (.int .i64 p) ∧ W.cell? ⟨t.b, 23, none⟩ = some (.int .i64 4) ∧ W.cell? ⟨t.b, 24, none⟩ = some (.int .i64 16) ∧ W.cell? ⟨t.b, 25, none⟩ = some (.int .i64 27) ∧ W.cell? ⟨t.b, 26, none⟩ = some (.int .i64 0) ∧ W.cell? ⟨t.b, 27, none⟩ = some (.int .u32 0) ∧ W.cell? ⟨t.b, 28, none⟩ = some (.int .i64 0) ∧ W.cell? ⟨t.b, 29, none⟩ = some (.bool false) ∧ W.cell? ⟨t.b, 30, none⟩ = some (.bool false) ∧ W.cell? ⟨t.b, 31, none⟩ = some (.int .i64 0) := by
  have e : thO p t = thO p { t with wt := semW } := by rw [← hw]
  rw [e] at h
  exact ⟨has_cell 0 h rfl, has_cell 23 h rfl, has_cell 24 h rfl, has_cell 25 h rfl, has_cell 26 h rfl, has_cell 27 h rfl, has_cell 28 h rfl, has_cell 29 h rfl, has_cell 30 h rfl, has_cell 31 h rfl⟩
/-- The kernel behind the waking of the thread 0. -/
def KS.unblS (S : KS) (p : Nat) (t : Th) (pr : Nat) : KS := { S with th := put S.th p (some { t with wt := Wt.no }), L := S.L.set p ⟨true, decide (t.pol = 1), pr, S.B.J.q⟩, R := S.R.tailF pr p, st := S.st + 4 }
structure UnS (w W : World) (S S1 : KS) (n0 : Nat) : Prop where
  kw : KW W S1
  fr : Fr S S1 w W
  b0 : Out W S1 n0 (.cells (wtL Wt.no).toArray 137 (0, 0))
  b1 : Out W S1 (n0 + 1) (.cells (wtL semW).toArray 137 (0, 0))
set_option maxRecDepth 100000 in
set_option maxHeartbeats 2000000 in
theorem unblockS_c (w : World) (S : KS) {B : KB} (hB : S.B = B) (h : KW w S) (P : KP S) (p : Nat) (hp : p < 16) (t : Th) (pr : Nat) (ht : S.th p = some t) (hw : t.wt = semW) (hpol : t.pol ≠ 2) (he : t.eff = pr) (h1 : 1 ≤ pr) (h32 : pr < 32) (hin : (S.L.getD p Hs.no).isIn = false) (hz : S.R.pr.getD p 0 = 0) (hl : Lk (S.R.tl.getD pr 0)) (hs0 : 0 ≤ S.st) (hs1 : S.st ≤ 800000000) (q0 : S.W0.wh.getD p 0 = 0) (q1 : S.W1.wh.getD p 0 = 0) :
    Calls Tryz.prog 320 #[.pointer (some ⟨B.kb, 0, none⟩), .pointer (some ⟨t.b, 0, none⟩)] w fun e w' => e = .returned (wtV semW) ∧ KW w' (S.unblS p t pr) ∧ Fr S (S.unblS p t pr) w w' := by
  subst hB
  obtain ⟨w0, hw0⟩ : ∃ w0, w0 = (w.alloc (.cells #[.int .i64 0, .int .i64 0, .int .i64 0, .int .i64 0, .int .u32 0, .int .i64 0, .bool false, .bool false, .int .i64 0] 137)).alloc (.cells #[.int .i64 4, .int .i64 16, .int .i64 27, .int .i64 0, .int .u32 0, .int .i64 0, .bool false, .bool false, .int .i64 0] 137) := ⟨_, rfl⟩
  have b0 : Below w.heap.size w w0 := by rw [hw0]; exact ((Below.refl _ _).alloc (Nat.le_refl _) _).alloc (by simp) _
  have x1 : w0.heap[w.heap.size + 1]? = some (.cells (wtL semW).toArray 137 (0, 0)) := by
    rw [hw0]
    have q := heap_alloc_new (w.alloc (.cells #[.int .i64 0, .int .i64 0, .int .i64 0, .int .i64 0, .int .u32 0, .int .i64 0, .bool false, .bool false, .int .i64 0] 137)) (.cells #[.int .i64 4, .int .i64 16, .int .i64 27, .int .i64 0, .int .u32 0, .int .i64 0, .bool false, .bool false, .int .i64 0] 137)
    rw [World.size_alloc] at q
    exact q
  have x0 : w0.heap[w.heap.size]? = some (.cells (wtL Wt.no).toArray 137 (0, 0)) := by rw [hw0]; exact below_alloc_has (heap_alloc_new w _)
  have kA := h.reads ((Below.refl w.heap.size w).alloc (Nat.le_refl _) (.cells #[.int .i64 0, .int .i64 0, .int .i64 0, .int .i64 0, .int .u32 0, .int .i64 0, .bool false, .bool false, .int .i64 0] 137))
  obtain ⟨c0, c1, c2, c3, c4, c5, c6, c7, c8, c9⟩ := sem_cells (kA.getTh hp ht) hw
  have k0 := h.reads b0
  have hT := k0.getTh hp ht
  have HW0 := Lib.hid hw0
  have HTT := Lib.hid hT
  obtain ⟨S1, hS1⟩ : ∃ S1 : KS, S1 = { S with th := put S.th p (some { t with wt := Wt.no }) } := ⟨_, rfl⟩
  obtain ⟨n0, hn0⟩ : ∃ n0, n0 = w.heap.size := ⟨_, rfl⟩
  have K1 : ∀ W, Upd w0 t.b (thO p { t with wt := Wt.no }) W → UnS w W S S1 n0 := fun W u => by
    have q := k0.thr (t' := { t with wt := Wt.no }) hp ht u rfl rfl rfl
    rw [← hS1] at q
    have y0 : Out w0 S n0 (.cells (wtL Wt.no).toArray 137 (0, 0)) := ⟨by rw [hn0]; exact x0, h.fresh _ (by omega)⟩
    have y1 : Out w0 S (n0 + 1) (.cells (wtL semW).toArray 137 (0, 0)) := ⟨by rw [hn0]; exact x1, h.fresh _ (by omega)⟩
    exact ⟨q.1, (Fr.reads S b0).trans q.2, y0.fr q.2, y1.fr q.2⟩
  have ht1 : S1.th p = some { t with wt := Wt.no } := by rw [hS1]; exact put_self S.th p _
  have P1 : KP S1 := by
    have q := P.setTh (t' := { t with wt := Wt.no }) ht rfl (P.can p t ht)
    rw [hS1]
    exact { q with }
  have hB1 : S1.B = S.B := by rw [hS1]
  have RD := fun W (hW : KW W S1) => ready_c W S1 hB1 hW P1 p pr { t with wt := Wt.no } hp ht1 hpol he h1 h32 (by rw [hS1]; exact hin) (by rw [hS1]; exact hz) (by rw [hS1]; exact hl) (by rw [hS1]; exact hs0) (by rw [hS1]; exact hs1)
  have CA0 := fun W (hW : KW W S1) => cancelP_not W S.B.w0 p hp S.W0 (by have q := hW.has 5 rfl; rw [hB1, hS1] at q; exact q) P.W0 q0
  have CA1 := fun W (hW : KW W S1) => cancelP_not W S.B.w1 p hp S.W1 (by have q := hW.has 6 rfl; rw [hB1, hS1] at q; exact q) P.W1 q1
  have HE : S.unblS p t pr = { S1 with L := S1.L.set p ⟨true, decide (({ t with wt := Wt.no } : Th).pol = 1), pr, S1.B.J.q⟩, R := S1.R.tailF pr p, st := S1.st + 4 } := by rw [hS1]; rfl
  have HE := Lib.hid HE
  have HK1 := Lib.hid K1
  have HRD := Lib.hid RD
  have HCA0 := Lib.hid CA0
  have HCA1 := Lib.hid CA1
  have HB1 := Lib.hid hB1
  have HT1 := Lib.hid ht1
  have HN := Lib.hid hn0
  have ix0 : ∀ W, (Instr.index 76 (.agg #[.pointer (some ⟨S.B.w0, 0, none⟩), .pointer (some ⟨S.B.w1, 0, none⟩)]) (.int .i64 0)).run Tryz.prog W = .ok (.pointer (some ⟨S.B.w0, 0, none⟩)) W := fun _ => by kernel_rfl
  have ix1 : ∀ W, (Instr.index 76 (.agg #[.pointer (some ⟨S.B.w0, 0, none⟩), .pointer (some ⟨S.B.w1, 0, none⟩)]) (.int .i64 1)).run Tryz.prog W = .ok (.pointer (some ⟨S.B.w1, 0, none⟩)) W := fun _ => by kernel_rfl
  clear h P ht hw hpol he h1 h32 hin hz hl hs0 hs1 q0 q1 hw0 b0 x1 x0 kA k0 hT hS1 K1 ht1 P1 RD CA0 CA1 hB1 hn0
  go_enter Tryz.func320, Tryz.ntmps320
  go_wp2_with (refine store_wt rfl (.tmp 15) (.tmp 13) rfl p t Wt.no rfl rfl (by rw [← HW0.out]; exact HTT.out) ?_; intro W1 U1; have K := HK1.out W1 (by rw [HW0.out]; exact U1); have c28 := kc28 (B := S.B) K.kw HB1.out; have c29 := kc29 (B := S.B) K.kw HB1.out; have cp := tc0 (t := { t with wt := Wt.no }) (K.kw.getTh hp HT1.out); have HK := Lib.hid K; clear U1 K c0 c1 c2 c3 c4 c5 c6 c7 c8 c9)
  rw [← HN.out]
  refine wp_loop_rounds 3 ?_
  rw [rounds_succ]
  go_wp2_with (go_at_call 469; refine (HCA0.out _ HK.out.kw).mono ?_; rintro e w' ⟨⟨z0, rfl⟩, rfl⟩)
  rw [rounds_succ]
  go_wp2_with (go_at_call 469; refine (HCA1.out _ HK.out.kw).mono ?_; rintro e w' ⟨⟨z1, rfl⟩, rfl⟩)
  rw [rounds_succ]
  clear ix0 ix1 c28 c29 cp
  go_wp2_with (first
    | (go_at_call 68; refine (HRD.out _ HK.out.kw).mono ?_; rintro e w2 ⟨rfl, k2, f2⟩; have o0 := HK.out.b0.fr f2; have o1 := HK.out.b1.fr f2; have r1 : w2.rangeAt (n0 + 1) 0 (wtL semW) := has_range o1.1 (wtL semW) 0 (by simp); have HQ := Lib.hid (And.intro k2 (HK.out.fr.trans f2)); have HO := Lib.hid o0; clear k2 f2 o0 o1)
    | (refine wpList_load_mid rfl 137 (.tmp 5) rfl (n0 + 1) 0 rfl (wtL semW) _ r1 Tryz.underlying137 rfl (by kernel_rfl) ?_)
    | (refine store_whole rfl 137 (.tmp 4) (.tmp 33) rfl n0 _ (wtL semW) rfl rfl (n := 9) rfl (by intro v hv; simp [wtL] at hv; rcases hv with rfl | rfl | rfl | rfl | rfl | rfl | rfl | rfl | rfl <;> rfl) HO.out.1 rfl info137 ?_; intro w3 U3; have HU3 := Lib.hid U3; clear U3))
  have hload := run_loadVar_mid (P := Tryz.prog) _ _ _ 137 _ _ (has_range HU3.out.1 (wtL semW) 0 (by simp)) Tryz.underlying137 rfl (by kernel_rfl)
  refine bodyPost_ret (v := wtV semW) ?_ rfl ?_
  · simp [results, Tryz.f320, hload, asAddr, Act.put]
    rfl
  · refine ⟨rfl, ?_⟩
    rw [HE.out]
    have q := HQ.out.1.keeps (w' := w3) HU3.out.size (fun b hb hl => HU3.out.2.block b hb (by intro e; cases e; exact hl HO.out.2))
    have f : Fr S { S1 with L := S1.L.set p ⟨true, decide (({ t with wt := Wt.no } : Th).pol = 1), pr, S1.B.J.q⟩, R := S1.R.tailF pr p, st := S1.st + 4 } w w3 := ⟨HU3.out.2.os.trans HQ.out.2.os, HU3.out.2.tape.trans HQ.out.2.tape, HU3.out.2.output.trans HQ.out.2.output, Nat.le_trans HQ.out.2.size HU3.out.size, fun b hb hl => (HU3.out.2.block b (Nat.lt_of_lt_of_le hb HQ.out.2.size) (by intro e; cases e; have := HN.out; omega)).trans (HQ.out.2.block b hb hl), HQ.out.2.lab⟩
    exact ⟨q, f⟩
/-- The kernel behind the waking of the thread 0, which is answered 0. -/
def KS.wokenS (S : KS) (p : Nat) (t : Th) (pr : Nat) (v : Value) : KS := (S.unblS p t pr).ans p (({ t with wt := Wt.no } : Th).ans 0 0) v
/-- What the waking of the thread 0 asks for. -/
structure CanWakeS (S : KS) (p : Nat) (t : Th) (pr : Nat) : Prop where
  p16 : p < 16
  th : S.th p = some t
  wt : t.wt = semW
  pol : t.pol ≠ 2
  eff : t.eff = pr
  h1 : 1 ≤ pr
  h32 : pr < 32
  isIn : (S.L.getD p Hs.no).isIn = false
  z : S.R.pr.getD p 0 = 0
  l : Lk (S.R.tl.getD pr 0)
  s0 : 0 ≤ S.st
  s1 : S.st ≤ 800000000
  q0 : S.W0.wh.getD p 0 = 0
  q1 : S.W1.wh.getD p 0 = 0
  an : S.lo.an ≤ 100000
set_option maxRecDepth 100000 in
set_option maxHeartbeats 1000000 in
theorem wakeS_c (w : World) (S : KS) {B : KB} (hB : S.B = B) (h : KW w S) (P : KP S) (p : Nat) (t : Th) (pr : Nat) (C : CanWakeS S p t pr) :
    Calls Tryz.prog 168 #[.pointer (some ⟨B.kb, 0, none⟩), .pointer (some ⟨t.b, 0, none⟩), .int .i64 0, .int .i64 0] w fun e w' => ∃ v, e = .returned (.tuple #[]) ∧ KW w' (S.wokenS p t pr v) ∧ Fr S (S.wokenS p t pr v) w w' := by
  subst hB
  have U := unblockS_c w S rfl h P p C.p16 t pr C.th C.wt C.pol C.eff C.h1 C.h32 C.isIn C.z C.l C.s0 C.s1 C.q0 C.q1
  have AN := fun W (hW : KW W (S.unblS p t pr)) => answer_c W (S.unblS p t pr) (B := S.B) rfl hW p { t with wt := Wt.no } C.p16 (put_self S.th p _) 27 0 0 C.an
  have HAN := Lib.hid AN
  clear h P C AN
  go_enter Tryz.func168, Tryz.ntmps168
  go_wp2_with (first
    | (go_at_call 320; refine U.mono ?_; rintro e w1 ⟨rfl, k1, f1⟩; unfold wtV; have ka := k1.reads ((Below.refl w1.heap.size w1).alloc (Nat.le_refl _) (.cells #[.int .i64 4, .int .i64 16, .int .i64 27, .int .i64 0, .int .u32 0, .int .i64 0, .bool false, .bool false, .int .i64 0] 137)); have fa := f1.trans (Fr.reads _ ((Below.refl w1.heap.size w1).alloc (Nat.le_refl _) (.cells #[.int .i64 4, .int .i64 16, .int .i64 27, .int .i64 0, .int .u32 0, .int .i64 0, .bool false, .bool false, .int .i64 0] 137))); have HKA := Lib.hid ka; have HFA := Lib.hid fa; clear k1 f1 ka fa U)
    | (go_at_call 144; refine (HAN.out _ HKA.out).mono ?_; rintro e w2 ⟨v, rfl, k2, f2⟩))
  exact bodyPost_end (results_none rfl _ _ _) rfl ⟨v, rfl, k2, HFA.out.trans f2⟩
/-- The kernel behind a post that wakes p. -/
def KS.posted (S : KS) (p : Nat) (t : Th) (pr : Nat) (q g : Nat) (last : Int) (og : Obj) (v : Value) : KS := (S.withSe q g last og).wokenS p t pr v
set_option maxRecDepth 100000 in
set_option maxHeartbeats 1000000 in
theorem post_c (w : World) (S : KS) {B : KB} (hB : S.B = B) (h : KW w S) (P : KP S) (p : Nat) (t : Th) (pr : Nat) (C : CanWakeS S p t pr) {b q g : Nat} {last c : Int} {E : WEs} (H : HasSe S b q g last ((p, (pr : Int), c) :: E)) (K : EsOk ((p, (pr : Int), c) :: E) last) :
    Calls Tryz.prog 90 #[.pointer (some ⟨B.kb, 0, none⟩), .pointer (some ⟨b, 0, none⟩)] w fun e w' => ∃ og v, e = .returned (.int .i64 0) ∧ KW w' (S.posted p t pr q g last og v) ∧ Fr S (S.posted p t pr q g last og v) w w' ∧ HasSe (S.posted p t pr q g last og v) b q g last E := by
  subst hB
  have PO := semPost_c w b q g last (p, (pr : Int), c) E (H.w h) K
  have KQ := fun W (s : SeW W b q g last E) (u : Upd2 w q g W) => h.semq H s.w u
  have WK := fun og W (hW : KW W (S.withSe q g last og)) => wakeS_c W (S.withSe q g last og) (B := S.B) rfl hW { P with } p t pr ⟨C.p16, C.th, C.wt, C.pol, C.eff, C.h1, C.h32, C.isIn, C.z, C.l, C.s0, C.s1, C.q0, C.q1, C.an⟩
  have hp := C.p16
  have htp : S.tp p = some ⟨t.b, 0, none⟩ := by rw [P.tp p hp, C.th]; rfl
  have TP : ∀ og W, KW W (S.withSe q g last og) → W.cell? ⟨S.B.kb, 10 + p, none⟩ = some (.pointer (some ⟨t.b, 0, none⟩)) := fun og W hW => by
    have x : W.cell? ⟨S.B.kb, 10 + p, none⟩ = some (.pointer (S.tp p)) := hW.tpc hp
    rw [htp] at x
    exact x
  have i0 : (0 : Int) ≤ p := by omega
  have i1 : (p : Int) < 16 := by omega
  have HKQ := Lib.hid KQ
  have HWK := Lib.hid WK
  have HTP := Lib.hid TP
  clear h P C H K KQ WK TP htp
  go_enter Tryz.func90, Tryz.ntmps90
  go_wp2_with (first
    | (go_at_call 167; refine PO.mono ?_; rintro e w1 ⟨rfl, s1, u1⟩; obtain ⟨og, k1, f1, h1⟩ := HKQ.out w1 s1 u1; have ct := HTP.out og w1 k1; have WK1 := HWK.out og w1 k1; have HF1 := Lib.hid f1; have HH1 := Lib.hid h1; clear s1 u1 k1 f1 h1 PO)
    | (go_at_call 168; refine Calls.mono (show Calls Tryz.prog 168 _ w1 _ from WK1) ?_; rintro e w2 ⟨v, rfl, k2, f2⟩; have HK2 := Lib.hid (And.intro k2 f2); clear k2 f2 WK1))
  go_ret
  exact ⟨og, v, rfl, HK2.out.1, HF1.out.trans HK2.out.2, HH1.out.same rfl rfl rfl⟩
set_option maxRecDepth 100000 in
set_option maxHeartbeats 1000000 in
theorem callPost_c (w : World) (S : KS) {B : KB} (hB : S.B = B) (h : KW w S) (P : KP S) (r : Nat) (tr : Th) (hr : r < 16) (htr : S.th r = some tr) (h2 : tr.r 2 = 16) (p : Nat) (t : Th) (pr : Nat) (C : CanWakeS S p t pr) {b q g : Nat} {last c : Int} {E : WEs} (H : HasSe S b q g last ((p, (pr : Int), c) :: E)) (K : EsOk ((p, (pr : Int), c) :: E) last) :
    Calls Tryz.prog 237 #[.pointer (some ⟨B.kb, 0, none⟩), .pointer (some ⟨tr.b, 0, none⟩)] w fun e w' => ∃ og v, e = .returned (.int .i64 0) ∧ KW w' (S.posted p t pr q g last og v) ∧ Fr S (S.posted p t pr q g last og v) w w' ∧ HasSe (S.posted p t pr q g last og v) b q g last E := by
  subst hB
  have c6 := tc6 (h.getTh hr htr)
  rw [h2] at c6
  have SC := sem_c w S rfl h H
  have PC := fun W (k : Below w.heap.size w W) => post_c W S rfl (h.reads k) P p t pr C H K
  have HPC := Lib.hid PC
  clear h P htr h2 C H K PC
  go_enter Tryz.func237, Tryz.ntmps237
  go_wp2_with (first
    | (go_at_call 382; refine SC.mono ?_; rintro e w1 ⟨rfl, b1⟩; have PC1 := HPC.out w1 b1; have HB1 := Lib.hid b1; clear b1 SC)
    | (go_at_call 90; refine Calls.mono (show Calls Tryz.prog 90 _ w1 _ from PC1) ?_; rintro e w2 ⟨og, v, rfl, k2, f2, h2⟩; have HK2 := Lib.hid (And.intro k2 (And.intro f2 h2)); clear k2 f2 h2 PC1)
    | (go_at_call 366; refine (went_ok _).mono ?_; rintro e w' ⟨rfl, rfl⟩))
  go_ret
  exact ⟨og, v, rfl, HK2.out.1, (Fr.reads S HB1.out).trans HK2.out.2.1, HK2.out.2.2⟩
end Go.Proofs.YtagmlijhgncklaaGreatDoor.Ker
namespace Go.Proofs.YtagmlijhgncklaaGreatDoor.Ker
open Go.RowKit Go.Proofs.YtagmlijhgncklaaGreatDoor

theorem callSelf_c (w : World) (k p : Nat) (t : Th) (hT : w.heap[t.b]? = some (thO p t)) : Calls Tryz.prog 212 #[.pointer (some ⟨k, 0, none⟩), .pointer (some ⟨t.b, 0, none⟩)] w fun e w' => e = .returned (.int .i64 t.hd) ∧ w = w' := by
  have c1 := tc1 hT
  clear hT
  go_enter Tryz.func212, Tryz.ntmps212
  go_wp2_with fail
  go_ret
  exact ⟨rfl, rfl⟩
/-- A thread goes to the tail of its own sequence. -/
def KS.yielded (S : KS) (p p0 : Nat) : KS := { S with L := S.L.set p { S.L.getD p Hs.no with pr := p0 }, R := (S.R.remF p).tailF p0 p, st := S.st + 6 }
structure CanYield (S : KS) (p p0 : Nat) : Prop where
  I : InSeq S p p0
  lp : (S.L.getD p Hs.no).pr = p0
  h : Lk ((S.R.remF p).tl.getD p0 0)
set_option maxRecDepth 100000 in
theorem callYield_c (w : World) (S : KS) {B : KB} (hB : S.B = B) (h : KW w S) (P : KP S) (p p0 : Nat) (t : Th) (hp : p < 16) (ht : S.th p = some t) (C : CanYield S p p0) :
    Calls Tryz.prog 213 #[.pointer (some ⟨B.kb, 0, none⟩), .pointer (some ⟨t.b, 0, none⟩)] w fun e w' => e = .returned (.int .i64 0) ∧ KW w' (S.yielded p p0) ∧ Fr S (S.yielded p p0) w w' := by
  subst hB
  have c0 := tc0 (h.getTh hp ht)
  have c26 := kc26 (B := S.B) h rfl
  have A := turns_yield w.drew S.B.tb S.B.rb S.B.J.q S.L S.R S.st p p0 ((h.tn P.L P.R).heap (fun _ _ => rfl)) hp C.I.isIn C.I.q1 C.I.q32 C.lp C.I.pr C.I.pv C.I.nx C.h C.I.s0 (by have := C.I.s1; omega)
  have HK := Lib.hid h
  clear h P ht C
  go_enter Tryz.func213, Tryz.ntmps213
  go_upto_region 1 with fail
  refine still_tail 8 (by kernel_rfl) (by kernel_rfl) ?_
  simp only [List.take_succ_cons, List.take_zero, List.drop_succ_cons, List.drop_zero]
  repeat still_step
  refine wpStill_nil ?_
  go_wp2_with (go_at_call 353; refine A.mono ?_; rintro e w3 ⟨rfl, T3, U3⟩; have HT3 := Lib.hid T3; have HU3 := Lib.hid U3; clear T3 U3 A)
  have q := HK.out.turns HT3.out ⟨HU3.out.os, HU3.out.tape, HU3.out.output, HU3.out.size, HU3.out.block⟩
  refine bodyPost_ret (v := .int .i64 0) (results_tmp (show Tryz.f213.results = #[.tmp 4] from rfl) _ _ _) rfl ?_
  exact ⟨rfl, q.1, q.2⟩
/-- A thread takes the priority v. -/
def Th.prio (t : Th) (v : Int) : Th := { t with base := v, high := v, low := v, eff := v }
def Th.bases (t : Th) (v : Int) : Th := { t with base := v, high := v, low := v }
def KS.prioed (S : KS) (p : Nat) (t : Th) (v : Nat) : KS := { S with th := put S.th p (some (t.prio v)), L := S.L.set p { S.L.getD p Hs.no with pr := v }, R := (S.R.remF p).headF v p, st := S.st + 6 }
structure CanPrio (S : KS) (p v p0 : Nat) : Prop where
  I : InSeq S p p0
  lp : (S.L.getD p Hs.no).pr = p0
  v1 : 1 ≤ v
  lt : v < p0
  h : Lk ((S.R.remF p).hd.getD v 0)
set_option maxRecDepth 100000 in
set_option maxHeartbeats 2000000 in
theorem callSetPrio_c (w : World) (S : KS) {B : KB} (hB : S.B = B) (h : KW w S) (P : KP S) (p v p0 : Nat) (t : Th) (hp : p < 16) (ht : S.th p = some t) (h2 : Tab.atF S.T (t.r 2) = some p) (h3 : t.r 3 = v) (hen : t.en = false) (hwk : t.wt.kind = 0) (C : CanPrio S p v p0) (hpol : ∀ p t, S.th p = some t → t.pol ≠ 2) (hkd : ∀ p t, S.th p = some t → t.wt.kind ≠ 2) (hba : ∀ p t, p < 16 → S.th p = some t → t.en = false → 0 ≤ t.base ∧ t.base ≤ 31) (hmu : ∀ i, Tab.tk S.muT i = false) :
    Calls Tryz.prog 214 #[.pointer (some ⟨B.kb, 0, none⟩), .pointer (some ⟨t.b, 0, none⟩)] w fun e w' => e = .returned (.int .i64 0) ∧ KW w' (S.prioed p t v) ∧ Fr S (S.prioed p t v) w w' := by
  subst hB
  have hT := h.getTh hp ht
  have c6 := tc6 hT
  have OC := other_c w S rfl h P (t.r 2) p t hp h2 ht hen
  have v1 := C.v1
  have v31 : v ≤ 31 := by have := C.lt; have := C.I.q32; omega
  have j1 : (1 : Int) ≤ v := by omega
  have j2 : (v : Int) ≤ 31 := by omega
  -- with the bases set
  have P2 : KP (S.setTh p (t.bases v)) := P.setTh (t' := t.bases v) ht rfl (P.can p t ht)
  have th2 : (S.setTh p (t.bases v)).th p = some (t.bases v) := put_self S.th p _
  have oth : ∀ r tr, (S.setTh p (t.bases v)).th r = some tr → tr = t.bases v ∨ S.th r = some tr := fun r tr hr => by
    by_cases e : r = p
    · subst e
      rw [th2] at hr
      exact .inl (Option.some.inj hr).symm
    · exact .inr ((put_ne S.th _ e).symm.trans hr)
  have FO := fun W (hW : KW W (S.setTh p (t.bases v))) => found_c W (S.setTh p (t.bases v)) (B := S.B) rfl hW P2 (S.setTh p (t.bases v)).baseF (PrioB.of (prioOk_base fun r tr hr => by
      rcases oth r tr hr with rfl | k
      · exact hpol p t ht
      · exact hpol r tr k)) (fun r tr hr16 hr hrn => by
      rw [show (S.setTh p (t.bases v)).baseF r = tr.base by simp [KS.baseF, hr]]
      rcases oth r tr hr with rfl | k
      · show (0 : Int) ≤ v ∧ (v : Int) ≤ 31
        omega
      · exact hba r tr hr16 k hrn) (fun r tr hr => by
      rcases oth r tr hr with rfl | k
      · exact hkd p t ht
      · exact hkd r tr k) hmu p (t.bases v) hp th2 hen
  have bf : (S.setTh p (t.bases v)).baseF p = v := by
    unfold KS.baseF
    rw [th2]
    rfl
  rw [bf] at FO
  have P3 : KP (S.setTh p (t.prio v)) := P.setTh (t' := t.prio v) ht rfl (P.can p t ht)
  have th3 : (S.setTh p (t.prio v)).th p = some (t.prio v) := put_self S.th p _
  have MV := fun W (T : Tn W S.B.tb S.B.rb S.B.J.q S.L S.R S.st) => turns_move W S.B.tb S.B.rb S.B.J.q S.L S.R S.st p v p0 T hp C.I.isIn v1 (by omega) C.I.q1 C.I.q32 C.lt C.lp C.I.pr C.I.pv C.I.nx C.h C.I.s0 (by have := C.I.s1; omega)
  have HK := Lib.hid h
  have HT := Lib.hid ht
  have H3 := Lib.hid h3
  have HWK := Lib.hid hwk
  have HFO := Lib.hid FO
  have HP3 := Lib.hid P3
  have HTH2 := Lib.hid th2
  have HTH3 := Lib.hid th3
  have HMV := Lib.hid MV
  clear h P ht h2 h3 hen hwk C hpol hkd hba hmu hT P2 th2 oth FO bf P3 th3 MV v1 v31
  go_enter Tryz.func214, Tryz.ntmps214
  go_upto_region 4 with (first
    | (go_at_call 354; refine OC.mono ?_; rintro e w1 ⟨rfl, b1⟩; have hT1 := (HK.out.reads b1).getTh hp HT.out; have c7 := tc7 hT1; rw [H3.out] at c7; have c13 := tc13 hT1; have fz := has_free hT1; have HB1 := Lib.hid b1; have HT1 := Lib.hid hT1; clear b1 hT1 OC)
    | (go_at_call 349; refine (priority_c _ _ j1 j2).mono ?_; rintro e w' ⟨rfl, rfl⟩))
  have U1 := ((Upd.refl HT1.out).setCell 13 (.int .i64 v)).to (o' := thO p { t with base := (v : Int) }) (by simp only [thO]; congr 1)
  have K1 := (HK.out.reads HB1.out).thr (t' := { t with base := (v : Int) }) hp HT.out U1 rfl rfl rfl
  refine world_wp (fun W => KW W (S.setTh p { t with base := (v : Int) }) ∧ Fr S (S.setTh p { t with base := (v : Int) }) w W) ⟨K1.1, (Fr.reads S HB1.out).trans K1.2⟩ ?_
  clear U1 K1 c6 c7 c13 fz HB1 HT1
  rintro W1 ⟨k1, f1⟩
  have hT1 : W1.heap[t.b]? = some (thO p { t with base := (v : Int) }) := k1.getTh hp (put_self S.th p _)
  have c13 : W1.cell? ⟨t.b, 13, none⟩ = some (.int .i64 v) := tc13 (t := { t with base := (v : Int) }) hT1
  have c14 : W1.cell? ⟨t.b, 14, none⟩ = some (.int .i64 t.high) := tc14 (t := { t with base := (v : Int) }) hT1
  have x14 : (W1.setCell ⟨t.b, 14, none⟩ (.int .i64 v)).heap[t.b]? = some (thO p { t with base := (v : Int), high := (v : Int) }) := (((Upd.refl hT1).setCell 14 (.int .i64 v)).to (o' := thO p { t with base := (v : Int), high := (v : Int) }) (by simp only [thO]; congr 1)).1
  have c15 : (W1.setCell ⟨t.b, 14, none⟩ (.int .i64 v)).cell? ⟨t.b, 15, none⟩ = some (.int .i64 t.low) := tc15 (t := { t with base := (v : Int), high := (v : Int) }) x14
  have z15 := has_free x14
  have fz := has_free hT1
  have HT1 := Lib.hid hT1
  have HK1 := Lib.hid k1
  have HF1 := Lib.hid f1
  clear k1 f1 hT1 x14
  go_region
  go_upto_region 5 with fail
  have U2 := (((Upd.refl HT1.out).setCell 14 (.int .i64 v)).setCell 15 (.int .i64 v)).to (o' := thO p (t.bases v)) (by simp only [thO]; congr 1)
  have K2 := HK1.out.thr (t' := t.bases v) hp (put_self S.th p _) U2 rfl rfl rfl
  have e2 : ({ (S.setTh p { t with base := (v : Int) }) with th := put (S.setTh p { t with base := (v : Int) }).th p (some (t.bases v)) } : KS) = S.setTh p (t.bases v) := by
    show ({ S with th := put (put S.th p _) p _ } : KS) = { S with th := put S.th p _ }
    rw [put_put]
  rw [e2] at K2
  have F2 := HF1.out.trans K2.2
  refine world_wp (fun W => KW W (S.setTh p (t.bases v)) ∧ Fr S (S.setTh p (t.bases v)) w W) (by first | exact ⟨K2.1, F2⟩ | exact ⟨K2.1.keeps (Nat.le_refl _) (fun _ _ _ => rfl), F2.drew⟩) ?_
  clear U2 K2 e2 F2 HT1 HK1 HF1 c13 c14 c15 z15 fz
  rintro W2 ⟨k2, f2⟩
  have c23 := tc23 (k2.getTh hp HTH2.out)
  rw [show (t.bases v).wt.kind = 0 from HWK.out] at c23
  have c23 : W2.cell? ⟨t.b, 23, none⟩ = some (.int .i64 0) := c23
  have FO := HFO.out W2 k2
  have FO : Calls Tryz.prog 355 #[.pointer (some ⟨S.B.kb, 0, none⟩), .pointer (some ⟨t.b, 0, none⟩)] W2 fun e w' => e = .returned (.int .i64 v) ∧ Below W2.heap.size W2 w' := FO
  have HK2 := Lib.hid k2
  have HF2 := Lib.hid f2
  clear k2 f2
  go_upto_region 7 with (go_at_call 355; refine FO.mono ?_; rintro e w3 ⟨rfl, b3⟩; have hT3 : w3.heap[t.b]? = some (thO p (t.bases v)) := (HK2.out.reads b3).getTh hp HTH2.out; have c17 : w3.cell? ⟨t.b, 17, none⟩ = some (.int .i64 t.eff) := tc17 (t := t.bases v) hT3; have fz := has_free hT3; have HB3 := Lib.hid b3; have HT3 := Lib.hid hT3; clear b3 hT3 FO c23)
  have U3 := ((Upd.refl HT3.out).setCell 17 (.int .i64 v)).to (o' := thO p (t.prio v)) (by simp only [thO]; congr 1)
  have K3 := (HK2.out.reads HB3.out).thr (t' := t.prio v) hp HTH2.out U3 rfl rfl rfl
  have e3 : ({ (S.setTh p (t.bases v)) with th := put (S.setTh p (t.bases v)).th p (some (t.prio v)) } : KS) = S.setTh p (t.prio v) := by
    show ({ S with th := put (put S.th p _) p _ } : KS) = { S with th := put S.th p _ }
    rw [put_put]
  rw [e3] at K3
  refine world_wp (fun W => KW W (S.setTh p (t.prio v)) ∧ Fr S (S.setTh p (t.prio v)) w W) ⟨K3.1, (HF2.out.trans (Fr.reads _ HB3.out)).trans K3.2⟩ ?_
  clear U3 K3 e3 HK2 HF2 HB3 HT3 c17 fz
  rintro W4 ⟨k4, f4⟩
  have hT4 : W4.heap[t.b]? = some (thO p (t.prio v)) := k4.getTh hp HTH3.out
  have c0 : W4.cell? ⟨t.b, 0, none⟩ = some (.int .i64 p) := tc0 (t := t.prio v) hT4
  have c17 : W4.cell? ⟨t.b, 17, none⟩ = some (.int .i64 v) := tc17 (t := t.prio v) hT4
  have c26 : W4.cell? ⟨S.B.kb, 26, none⟩ = some (.pointer (some ⟨S.B.tb, 0, none⟩)) := kc26 (B := S.B) k4 rfl
  have A := HMV.out W4.drew ((k4.tn HP3.out.L HP3.out.R).heap (fun _ _ => rfl))
  have HK4 := Lib.hid k4
  have HF4 := Lib.hid f4
  clear k4 f4 hT4
  refine still_tail 12 (by kernel_rfl) (by kernel_rfl) ?_
  simp only [List.take_succ_cons, List.take_zero, List.drop_succ_cons, List.drop_zero]
  repeat still_step
  refine wpStill_nil ?_
  go_wp2_with (go_at_call 356; refine A.mono ?_; rintro e w5 ⟨rfl, T5, U5⟩; have HT5 := Lib.hid T5; have HU5 := Lib.hid U5; clear T5 U5 A)
  have q := HK4.out.turns HT5.out ⟨HU5.out.os, HU5.out.tape, HU5.out.output, HU5.out.size, HU5.out.block⟩
  refine bodyPost_ret (v := .int .i64 0) (results_tmp (show Tryz.f214.results = #[.tmp 4] from rfl) _ _ _) rfl ?_
  exact ⟨rfl, q.1, HF4.out.trans q.2⟩
end Go.Proofs.YtagmlijhgncklaaGreatDoor.Ker
namespace Go.Proofs.YtagmlijhgncklaaGreatDoor.Ker
open Go.RowKit Go.Proofs.YtagmlijhgncklaaGreatDoor Go.Proofs.YtagmlijhgncklaaGreatDoor.Code

/-- There is a semaphore; nobody ever slept. -/
structure SeK (S : KS) (last : Int) (E : WEs) : Prop where
  W0 : S.W0 = Wh.new
  W1 : S.W1 = Wh.new
  H : ∃ b q g, HasSe S b q g last E
theorem SeK.same {S S' : KS} {last : Int} {E : WEs} (h : SeK S last E) (e0 : S'.W0 = S.W0) (e1 : S'.W1 = S.W1) (he : S'.ext = S.ext) (ht : S'.seT = S.seT) (hl : S'.seL = S.seL) : SeK S' last E := by
  obtain ⟨b, q, g, H⟩ := h.H
  exact ⟨e0.trans h.W0, e1.trans h.W1, b, q, g, H.same he ht hl⟩
structure NowV (S : KS) (B : KB) (x : Pl) (last : Int) (E : WEs) : Prop where
  N : Now S B x
  K : SeK S last E
theorem v_step {B : KB} {last : Int} {E : WEs} {x : Pl} {p : Nat} {t : Th} (T : Turn B x p t) (y : Code.Prg) (n : Nat) (hx : B.J.PS[n]? = some y) (hpr : t.prog = n) (k : Nat) (hpc : t.pc = k) (i : Code.Ins) (hi : y.L[k]? = some i) (hln : x.ln ≤ 100000)
    (pc' : Int) (r' : Nat → Int) (hop : i.op ≠ 0 ∧ i.op ≠ 7 ∧ i.op ≠ 8) (A : StepsTo i k t.r pc' r') : DoesTo B evRun (fun S => NowV S B x last E) (fun S => NowV S B (x.stepped p t pc' r') last E) := by
  intro W S ⟨N, K⟩ hW
  refine (do_step W S N.B hW N.calm p t (T.run N) y n (by rw [N.B]; exact hx) hpr k hpc i hi (by rw [N.ln]; exact hln) pc' r' hop A).mono ?_
  rintro e w' ⟨v, rfl, k1, f1⟩
  have ht : S.th p = some t := (T.run N).th
  refine ⟨(S.stepped p t pc' r').ev v, rfl, ⟨⟨N.B, N.T, N.L, N.R, ?_, ?_, ?_, N.an, N.notes, (N.calm.stepped ht T.p16 pc' r').ev v, N.q0, N.q1⟩, K.same rfl rfl rfl rfl rfl⟩, k1, f1⟩
  · show S.st + 1 = x.st + 1; rw [N.st]
  · show put S.th p _ = put x.th p _; rw [N.th]
  · show S.lo.ln + 1 = x.ln + 1; rw [N.ln]
theorem v_note {B : KB} {last : Int} {E : WEs} {x : Pl} {p : Nat} {t : Th} (T : Turn B x p t) (y : Code.Prg) (n : Nat) (hx : B.J.PS[n]? = some y) (hpr : t.prog = n) (k : Nat) (hpc : t.pc = k) (i : Code.Ins) (hi : y.L[k]? = some i) (hln : x.ln ≤ 100000)
    (a : Nat) (hop : i.op = 8) (hia : i.a = a) (ha8 : a < 8) (hk : k ≤ 1000) (hnn : x.notes.length ≤ 1000) : DoesTo B evRun (fun S => NowV S B x last E) (fun S => NowV S B (x.noted p t k a) last E) := by
  intro W S ⟨N, K⟩ hW
  refine (do_note W S N.B hW N.calm p t (T.run N) y n (by rw [N.B]; exact hx) hpr k hpc i hi (by rw [N.ln]; exact hln) a hop hia ha8 hk (by rw [N.notes]; exact hnn)).mono ?_
  rintro e w' ⟨u, v, rfl, k1, f1⟩
  have ht : S.th p = some t := (T.run N).th
  refine ⟨(S.noted p t k a u).ev v, rfl, ⟨⟨N.B, N.T, N.L, N.R, ?_, ?_, ?_, N.an, ?_, (N.calm.noted ht T.p16 k a u).ev v, N.q0, N.q1⟩, K.same rfl rfl rfl rfl rfl⟩, k1, f1⟩
  · show S.st + 1 = x.st + 1; rw [N.st]
  · show put S.th p _ = put x.th p _; rw [N.th]
  · show S.lo.ln + 1 = x.ln + 1; rw [N.ln]
  · show S.lo.notes ++ _ = x.notes ++ _; rw [N.notes]
theorem v_create {B : KB} {last : Int} {E : WEs} {x : Pl} {p : Nat} {t : Th} (T : Turn B x p t) (y : Code.Prg) (n : Nat) (hx : B.J.PS[n]? = some y) (hpr : t.prog = n) (k : Nat) (hpc : t.pc = k) (hi : y.L[k]? = some ⟨7, 0, 0, 0, 1⟩) (hk : k ≤ 1000) (hln : x.ln ≤ 100000) (han : x.an ≤ 100000)
    (i pr : Nat) (g prog pol jn : Int) (hr2 : t.r 2 = prog) (hr3 : t.r 3 = pr) (hr4 : t.r 4 = pol) (hr5 : t.r 5 = jn)
    (hg0 : 0 ≤ prog) (hg1 : prog < B.J.PS.length) (hg2 : B.J.PS.length ≤ 32) (hpl : pol = 0 ∨ pol = 1) (hj : jn = 0 ∨ jn = 1) (hf : Tab.freeF x.T = some i) (hg : g = Tab.gn x.T i + 1) (hg9 : g ≤ 900) (hn : x.th i = none) (hat : Tab.atF (x.T.set i (true, g)) (i + 16 * g) = some i)
    (h1 : 1 ≤ pr) (h32 : pr < 32) (hin : (x.L.getD i Hs.no).isIn = false) (hz : x.R.pr.getD i 0 = 0) (hl : Lk (x.R.tl.getD pr 0)) : DoesTo B evRun (fun S => NowV S B x last E) (fun S => ∃ b c, NowV S B (x.created B p t k i pr g prog pol (decide (jn = 0)) b c) last E) := by
  intro W S ⟨N, K⟩ hW
  have hT := N.T
  refine (do_create W S N.B hW N.calm p t (T.run N) y n (by rw [N.B]; exact hx) hpr k hpc hi hk (by rw [N.ln]; exact hln) (by rw [N.an]; exact han) i pr g prog pol jn hr2 hr3 hr4 hr5 hg0 (by rw [N.B]; exact hg1) (by rw [N.B]; exact hg2) hpl hj (by rw [hT]; exact hf) (by rw [hT]; exact hg) hg9 (by rw [N.th]; exact hn) (by rw [hT]; exact hat) h1 h32 (by rw [N.L]; exact hin) (by rw [N.R]; exact hz) (by rw [N.R]; exact hl)).mono ?_
  rintro e w' ⟨b, c, av, v, rfl, k1, f1⟩
  have ht : S.th p = some t := (T.run N).th
  have hip : p ≠ i := fun e => by have q := T.th; rw [e, hn] at q; cases q
  have hiB : i < S.B.n := by have q := (Tab.free_some hf).1; rw [← hT, N.calm.P.T] at q; exact q
  have g0 : 0 ≤ g := by have := (N.calm.P.gen i).1; rw [hT] at this; omega
  have hqB : B.J.q = S.B.J.q := by rw [N.B]
  refine ⟨(S.created p t k i pr g prog pol (decide (jn = 0)) b c av).ev v, rfl, ⟨b, c, ⟨⟨N.B, ?_, ?_, ?_, ?_, ?_, ?_, ?_, N.notes, (N.calm.created (k := k) (g := g) (prog := prog) (jn := decide (jn = 0)) (b := b) (c := c) (av := av) ht T.p16 hip hiB g0 hg9 (by omega) h32).ev v, N.q0, N.q1⟩, K.same rfl rfl rfl rfl rfl⟩⟩, k1, f1⟩
  · show S.T.set i _ = x.T.set i _; rw [N.T]
  · show S.L.set i _ = x.L.set i _; rw [N.L, hqB]; rfl
  · show S.R.tailF pr i = x.R.tailF pr i; rw [N.R]
  · show S.st + 1 + 4 = x.st + 5; rw [N.st]; omega
  · show put (put (put S.th p _) i _) p _ = put (put (put x.th p _) i _) p _; rw [N.th]
  · show S.lo.ln + 1 = x.ln + 1; rw [N.ln]
  · show S.lo.an + 1 = x.an + 1; rw [N.an]
theorem v_past {B : KB} {last : Int} {E : WEs} {x : Pl} {p p0 : Nat} {t : Th} (T : Turn B x p t) (y : Code.Prg) (n : Nat) (hx : B.J.PS[n]? = some y) (hpr : t.prog = n) (k : Nat) (hpc : t.pc = k) (hi : k = y.L.length) (hln : x.ln ≤ 100000)
    (hjn : t.jn = true) (hjr : t.jr < 0) (hun : t.can.un = false) (I : Leaves x p p0) : DoesTo B evRun (fun S => NowV S B x last E) (fun S => NowV S B (x.over p t (t.r 0)) last E) := by
  intro W S ⟨N, K⟩ hW
  have ht : S.th p = some t := (T.run N).th
  refine (do_past W S N.B hW N.calm p p0 t (T.run N) y n (by rw [N.B]; exact hx) hpr k hpc hi (by rw [N.ln]; exact hln) hjn hjr hun
    ⟨by show (S.L.getD p Hs.no).isIn = true; rw [N.L]; exact I.isIn, I.q1, I.q32, by show S.R.pr.getD p 0 = p0; rw [N.R]; exact I.pr, by show Lk (S.R.pv.getD p 0); rw [N.R]; exact I.pv, by show Lk (S.R.nx.getD p 0); rw [N.R]; exact I.nx, by show 0 ≤ S.st + 1; rw [N.st]; have := T.s0; omega, by show S.st + 1 ≤ 600000000; rw [N.st]; have := T.s1; omega⟩).mono ?_
  rintro e w' ⟨v, rfl, k1, f1⟩
  have ht0 : S.one.th p = some t := ht
  refine ⟨(S.one.over p t (t.r 0)).ev v, rfl, ⟨⟨N.B, N.T, ?_, ?_, ?_, ?_, ?_, N.an, N.notes, (N.calm.one.over ht0 T.p16 (t.r 0)).ev v, N.q0, N.q1⟩, K.same rfl rfl rfl rfl rfl⟩, k1, f1⟩
  · show S.L.set p _ = x.L.set p _; rw [N.L]
  · show S.R.remF p = x.R.remF p; rw [N.R]
  · show S.st + 1 + 2 = x.st + 3; rw [N.st]; omega
  · show put (put S.th p _) p _ = put (put (put x.th p _) p _) p _
    rw [N.th, put_put, put_put, put_put]
  · show S.lo.ln + 1 = x.ln + 1; rw [N.ln]
/-- A run while nobody is ready. -/
theorem v_nobody {B : KB} {x : Pl} {last : Int} {E : WEs} (hs : x.R.sm = 0) (hln : x.ln ≤ 100000) : DoesTo B evRun (fun S => NowV S B x last E) (fun S => NowV S B { x with ln := x.ln + 1 } last E) := by
  intro W S ⟨N, K⟩ hW
  refine (do_c W S N.B hW 1 0 (fun Sf => Sf = S) (by rintro Sf rfl; exact ⟨rfl, N.calm, by rw [N.ln]; exact hln⟩) (.inl ⟨rfl, fun W hW => (run_nobody W S N.B hW N.calm.P (by rw [N.R]; exact hs)).mono ?_⟩)).mono ?_
  · rintro e w' ⟨rfl, rfl⟩
    exact ⟨_, rfl, rfl, hW, Fr.refl _ _⟩
  · rintro e w' ⟨Sf, v, rfl, rfl, k1, f1⟩
    exact ⟨Sf.ev v, rfl, ⟨⟨N.B, N.T, N.L, N.R, N.st, N.th, by show Sf.lo.ln + 1 = x.ln + 1; rw [N.ln], N.an, N.notes, N.calm.ev v, N.q0, N.q1⟩, K.same rfl rfl rfl rfl rfl⟩, k1, f1⟩
end Go.Proofs.YtagmlijhgncklaaGreatDoor.Ker
namespace Go.Proofs.YtagmlijhgncklaaGreatDoor.Ker
open Go.RowKit Go.Proofs.YtagmlijhgncklaaGreatDoor Go.Proofs.YtagmlijhgncklaaGreatDoor.Code

theorem Calm.put {S : KS} (C : Calm S) {p : Nat} {t t' : Th} (ht : S.th p = some t) (hb : t'.b = t.b) (hc : t'.can = t.can) (h1 : t'.pol ≠ 2) (h2 : t'.wt.kind ≠ 2) (h3 : t'.en = false → 0 ≤ t'.base ∧ t'.base ≤ 31 ∧ t'.base = t'.eff) : Calm ({ S with th := put S.th p (some t') } : KS) where
  P := by
    have q := C.P.setTh (t' := t') ht hb (by rw [hc]; exact C.P.can p t ht)
    exact { q with }
  pol := fun q x h => by
    rcases put_some (S := S) h with ⟨_, rfl⟩ | ⟨_, h⟩
    · exact h1
    · exact C.pol q x h
  kd := fun q x h => by
    rcases put_some (S := S) h with ⟨_, rfl⟩ | ⟨_, h⟩
    · exact h2
    · exact C.kd q x h
  ba := fun q x hq h he => by
    rcases put_some (S := S) h with ⟨_, rfl⟩ | ⟨_, h⟩
    · exact h3 he
    · exact C.ba q x hq h he
  mu := C.mu
theorem Calm.seq {S : KS} (C : Calm S) {L : List Hs} {R : Rd} {st : Int} (hL : L.length = 16) (hR : RdOk R) : Calm ({ S with L := L, R := R, st := st } : KS) := ⟨{ C.P with L := hL, R := hR }, C.pol, C.kd, C.ba, C.mu⟩
theorem do_ret (w : World) (S : KS) {B : KB} (hB : S.B = B) (h : KW w S) (C : Calm S) (p : Nat) (t : Th) (Rn : Running S p t) (z : Code.Prg) (n : Nat) (hx : S.B.J.PS[n]? = some z) (hpr : t.prog = n) (k : Nat) (hpc : t.pc = k) (c : Int) (hi : z.L[k]? = some ⟨7, 0, 0, 0, c⟩) (hk : k ≤ 1000)
    (F : Nat) (v : Int) (t' : Th) (Good : KS → Prop) (hF : ∀ args w, (callFunc F args).run Tryz.prog w = .ok (.enter F args) w) (hn : ((callsE.map entV).find? fun x => x.1 == c) = some (c, .func (.func F) #[] #[]))
    (hpt : ∀ W, Calls Tryz.prog 147 #[.int .i64 c] W fun e w' => e = .returned (.bool false) ∧ W = w')
    (hG : ∀ S1, Good S1 → S1.B = S.B ∧ S1.th p = some t' ∧ t'.b = t.b ∧ S1.lo.an ≤ 100000 ∧ S1.lo.ln ≤ 100000 ∧ Calm S1)
    (A : ∀ W, KW W (S.stepped p t ((k : Int) + 1) t.r) → Calls Tryz.prog F #[.pointer (some ⟨B.kb, 0, none⟩), .pointer (some ⟨t.b, 0, none⟩)] W fun e w' => ∃ S1, e = .returned (.int .i64 v) ∧ Good S1 ∧ KW w' S1 ∧ Fr (S.stepped p t ((k : Int) + 1) t.r) S1 W w') :
    Calls Tryz.prog 13 #[.pointer (some ⟨B.kb, 0, none⟩), evRun] w fun e w' => ∃ S1 av v', e = .returned (.int .i64 0) ∧ Good S1 ∧ Calm ((S1.ans p (t'.ans v 0) av).ev v') ∧ KW w' ((S1.ans p (t'.ans v 0) av).ev v') ∧ Fr S ((S1.ans p (t'.ans v 0) av).ev v') w w' := by
  have hp := Rn.p16
  have C0 : Calm (S.stepped p t ((k : Int) + 1) t.r) := C.stepped Rn.th hp _ _
  have ht0 : (S.stepped p t ((k : Int) + 1) t.r).th p = some { t with pc := (k : Int) + 1, r := t.r } := put_self S.th p _
  have CA : ∀ S1 av, Good S1 → Calm (S1.ans p (t'.ans v 0) av) := fun S1 av g => by
    obtain ⟨_, g2, _, _, _, g6⟩ := hG S1 g
    exact g6.ans g2 hp v 0 av
  refine (do_c w S hB h 1 0 (fun Sf => ∃ S1 av, Good S1 ∧ Sf = S1.ans p (t'.ans v 0) av) ?_ (.inl ⟨rfl, fun W hW => run_call W S hB hW C.P p t Rn z n hx hpr k hpc ⟨7, 0, 0, 0, c⟩ hi _ rfl hk fun W1 hW1 => ?_⟩)).mono ?_
  · rintro Sf ⟨S1, av, g, rfl⟩
    obtain ⟨g1, _, _, _, g5, _⟩ := hG S1 g
    exact ⟨g1, CA S1 av g, g5⟩
  · refine (call_ret W1 (S.stepped p t ((k : Int) + 1) t.r) hB hW1 C0.P p { t with pc := (k : Int) + 1, r := t.r } hp ht0 c F v false (fun S2 t1 => t1 = t' ∧ Good S2) hF hn hpt (fun h => by cases h) ?_ ?_).mono ?_
    · rintro S2 t1 ⟨rfl, g⟩
      obtain ⟨g1, g2, g3, g4, _, _⟩ := hG S2 g
      exact ⟨g1, g2, g3, g4⟩
    · intro W2 hW2
      refine (A W2 hW2).mono ?_
      rintro e w' ⟨S1, rfl, g, k1, f1⟩
      exact ⟨S1, t', rfl, ⟨rfl, g⟩, k1, f1⟩
    · rintro e w' ⟨S2, t1, av, rfl, ⟨rfl, g⟩, k1, f1⟩
      exact ⟨_, rfl, ⟨S2, av, g, rfl⟩, k1, f1⟩
  · rintro e w' ⟨Sf, v', rfl, ⟨S1, av, g, rfl⟩, k1, f1⟩
    exact ⟨S1, av, v', rfl, g, (CA S1 av g).ev v', k1, f1⟩
theorem do_left (w : World) (S : KS) {B : KB} (hB : S.B = B) (h : KW w S) (C : Calm S) (p : Nat) (t : Th) (Rn : Running S p t) (z : Code.Prg) (n : Nat) (hx : S.B.J.PS[n]? = some z) (hpr : t.prog = n) (k : Nat) (hpc : t.pc = k) (c : Int) (hi : z.L[k]? = some ⟨7, 0, 0, 0, c⟩) (hk : k ≤ 1000)
    (F : Nat) (t' : Th) (Good : KS → Prop) (hF : ∀ args w, (callFunc F args).run Tryz.prog w = .ok (.enter F args) w) (hn : ((callsE.map entV).find? fun x => x.1 == c) = some (c, .func (.func F) #[] #[]))
    (hpt : ∀ W, Calls Tryz.prog 147 #[.int .i64 c] W fun e w' => e = .returned (.bool true) ∧ W = w') (hact : Can.actsF t.can true = false)
    (hG : ∀ S1, Good S1 → S1.B = S.B ∧ S1.th p = some t' ∧ t'.b = t.b ∧ S1.lo.an ≤ 100000 ∧ S1.lo.ln ≤ 100000 ∧ Calm S1)
    (A : ∀ W, KW W (S.stepped p t ((k : Int) + 1) t.r) → Calls Tryz.prog F #[.pointer (some ⟨B.kb, 0, none⟩), .pointer (some ⟨t.b, 0, none⟩)] W fun e w' => ∃ S1, e = .panicked [{ v := .iface 326 (.agg #[]), recovered := false }] ∧ Good S1 ∧ KW w' S1 ∧ Fr (S.stepped p t ((k : Int) + 1) t.r) S1 W w') :
    Calls Tryz.prog 13 #[.pointer (some ⟨B.kb, 0, none⟩), evRun] w fun e w' => ∃ S1 v', e = .returned (.int .i64 0) ∧ Good S1 ∧ Calm (S1.ev v') ∧ KW w' (S1.ev v') ∧ Fr S (S1.ev v') w w' := by
  have hp := Rn.p16
  have C0 : Calm (S.stepped p t ((k : Int) + 1) t.r) := C.stepped Rn.th hp _ _
  have ht0 : (S.stepped p t ((k : Int) + 1) t.r).th p = some { t with pc := (k : Int) + 1, r := t.r } := put_self S.th p _
  refine (do_c w S hB h 1 0 (fun Sf => Good Sf) ?_ (.inl ⟨rfl, fun W hW => run_call W S hB hW C.P p t Rn z n hx hpr k hpc ⟨7, 0, 0, 0, c⟩ hi _ rfl hk fun W1 hW1 => ?_⟩)).mono ?_
  · intro Sf g
    obtain ⟨g1, _, _, _, g5, g6⟩ := hG Sf g
    exact ⟨g1, g6, g5⟩
  · refine (call_left W1 (S.stepped p t ((k : Int) + 1) t.r) hB hW1 C0.P p { t with pc := (k : Int) + 1, r := t.r } hp ht0 c F true (fun S2 t1 => t1 = t' ∧ Good S2) hF hn hpt (fun _ => hact) ?_ ?_).mono ?_
    · rintro S2 t1 ⟨rfl, g⟩
      obtain ⟨g1, g2, g3, g4, _, _⟩ := hG S2 g
      exact ⟨g1, g2, g3, g4⟩
    · intro W2 hW2
      refine (A W2 hW2).mono ?_
      rintro e w' ⟨S1, rfl, g, k1, f1⟩
      exact ⟨S1, t', rfl, ⟨rfl, g⟩, k1, f1⟩
    · rintro e w' ⟨S2, t1, rfl, ⟨rfl, g⟩, k1, f1⟩
      exact ⟨_, rfl, g, k1, f1⟩
  · rintro e w' ⟨Sf, v', rfl, g, k1, f1⟩
    obtain ⟨_, _, _, _, _, g6⟩ := hG Sf g
    exact ⟨Sf, v', rfl, g, g6.ev v', k1, f1⟩
end Go.Proofs.YtagmlijhgncklaaGreatDoor.Ker
namespace Go.Proofs.YtagmlijhgncklaaGreatDoor.Ker
open Go.RowKit Go.Proofs.YtagmlijhgncklaaGreatDoor Go.Proofs.YtagmlijhgncklaaGreatDoor.Code

theorem kstep_eq (S : KS) (p : Nat) (t : Th) (k : Nat) : (S.stepped p t ((k : Int) + 1) t.r).th p = some { t with pc := (k : Int) + 1, r := t.r } := put_self S.th p _
/-- A thread has asked, and was answered v. -/
def Pl.called (x : Pl) (p : Nat) (t : Th) (k : Nat) (v : Int) : Pl := { x with st := x.st + 1, th := put x.th p (some (({ t with pc := (k : Int) + 1 } : Th).ans v 0)), ln := x.ln + 1, an := x.an + 1 }
theorem v_self {B : KB} {last : Int} {E : WEs} {x : Pl} {p : Nat} {t : Th} (T : Turn B x p t) (z : Code.Prg) (n : Nat) (hx : B.J.PS[n]? = some z) (hpr : t.prog = n) (k : Nat) (hpc : t.pc = k) (hi : z.L[k]? = some ⟨7, 0, 0, 0, 5⟩) (hk : k ≤ 1000) (hln : x.ln ≤ 100000) (han : x.an ≤ 100000) :
    DoesTo B evRun (fun S => NowV S B x last E) (fun S => NowV S B (x.called p t k t.hd) last E) := by
  intro W S ⟨N, K⟩ hW
  have Rn := T.run N
  have C0 : Calm (S.stepped p t ((k : Int) + 1) t.r) := N.calm.stepped Rn.th T.p16 _ _
  refine (do_ret W S N.B hW N.calm p t Rn z n (by rw [N.B]; exact hx) hpr k hpc 5 hi hk 212 t.hd { t with pc := (k : Int) + 1, r := t.r } (fun S1 => S1 = S.stepped p t ((k : Int) + 1) t.r) (enters_of Tryz.func212 (by kernel_rfl) rfl) rfl (fun W => points_no W 5 (by decide)) ?_ ?_).mono ?_
  · rintro S1 rfl
    exact ⟨rfl, kstep_eq S p t k, rfl, by show S.lo.an ≤ _; rw [N.an]; exact han, by show S.lo.ln ≤ _; rw [N.ln]; exact hln, C0⟩
  · intro W1 hW1
    refine (callSelf_c W1 B.kb p { t with pc := (k : Int) + 1, r := t.r } (hW1.getTh T.p16 (kstep_eq S p t k))).mono ?_
    rintro e w' ⟨rfl, rfl⟩
    exact ⟨_, rfl, rfl, hW1, Fr.refl _ _⟩
  · rintro e w' ⟨S1, av, v', rfl, rfl, c1, k1, f1⟩
    refine ⟨_, rfl, ?_, k1, f1⟩
    refine ⟨⟨N.B, N.T, N.L, N.R, ?_, ?_, ?_, ?_, N.notes, c1, N.q0, N.q1⟩, K.same rfl rfl rfl rfl rfl⟩
    · show S.st + 1 = x.st + 1; rw [N.st]
    · show put (put S.th p _) p _ = put x.th p _
      rw [put_put, N.th]
    · show S.lo.ln + 1 = x.ln + 1; rw [N.ln]
    · show S.lo.an + 1 = x.an + 1; rw [N.an]
/-- A thread has gone to the tail of its sequence. -/
def Pl.yielded (x : Pl) (p p0 : Nat) (t : Th) (k : Nat) : Pl := { x with L := x.L.set p { x.L.getD p Hs.no with pr := p0 }, R := (x.R.remF p).tailF p0 p, st := x.st + 7, th := put x.th p (some (({ t with pc := (k : Int) + 1 } : Th).ans 0 0)), ln := x.ln + 1, an := x.an + 1 }
theorem v_yield {B : KB} {last : Int} {E : WEs} {x : Pl} {p p0 : Nat} {t : Th} (T : Turn B x p t) (z : Code.Prg) (n : Nat) (hx : B.J.PS[n]? = some z) (hpr : t.prog = n) (k : Nat) (hpc : t.pc = k) (hi : z.L[k]? = some ⟨7, 0, 0, 0, 6⟩) (hk : k ≤ 1000) (hln : x.ln ≤ 100000) (han : x.an ≤ 100000)
    (I : Leaves x p p0) (hlp : (x.L.getD p Hs.no).pr = p0) (hlk : Lk ((x.R.remF p).tl.getD p0 0)) :
    DoesTo B evRun (fun S => NowV S B x last E) (fun S => NowV S B (x.yielded p p0 t k) last E) := by
  intro W S ⟨N, K⟩ hW
  have Rn := T.run N
  have C0 : Calm (S.stepped p t ((k : Int) + 1) t.r) := N.calm.stepped Rn.th T.p16 _ _
  have C1 : Calm ((S.stepped p t ((k : Int) + 1) t.r).yielded p p0) := C0.seq (by show (S.L.set p _).length = 16; rw [List.length_set]; exact N.calm.P.L) (RdOk.tailF (RdOk.remF N.calm.P.R p) I.q32 p)
  have CY : CanYield (S.stepped p t ((k : Int) + 1) t.r) p p0 := ⟨⟨by show (S.L.getD p Hs.no).isIn = true; rw [N.L]; exact I.isIn, I.q1, I.q32, by show S.R.pr.getD p 0 = p0; rw [N.R]; exact I.pr, by show Lk (S.R.pv.getD p 0); rw [N.R]; exact I.pv, by show Lk (S.R.nx.getD p 0); rw [N.R]; exact I.nx, by show 0 ≤ S.st + 1; rw [N.st]; have := T.s0; omega, by show S.st + 1 ≤ 600000000; rw [N.st]; have := T.s1; omega⟩, by show (S.L.getD p Hs.no).pr = p0; rw [N.L]; exact hlp, by show Lk ((S.R.remF p).tl.getD p0 0); rw [N.R]; exact hlk⟩
  refine (do_ret W S N.B hW N.calm p t Rn z n (by rw [N.B]; exact hx) hpr k hpc 6 hi hk 213 0 { t with pc := (k : Int) + 1, r := t.r } (fun S1 => S1 = (S.stepped p t ((k : Int) + 1) t.r).yielded p p0) (enters_of Tryz.func213 (by kernel_rfl) rfl) rfl (fun W => points_no W 6 (by decide)) ?_ ?_).mono ?_
  · rintro S1 rfl
    exact ⟨rfl, kstep_eq S p t k, rfl, by show S.lo.an ≤ _; rw [N.an]; exact han, by show S.lo.ln ≤ _; rw [N.ln]; exact hln, C1⟩
  · intro W1 hW1
    refine (callYield_c W1 (S.stepped p t ((k : Int) + 1) t.r) N.B hW1 C0.P p p0 { t with pc := (k : Int) + 1, r := t.r } T.p16 (kstep_eq S p t k) CY).mono ?_
    rintro e w' ⟨rfl, k1, f1⟩
    exact ⟨_, rfl, rfl, k1, f1⟩
  · rintro e w' ⟨S1, av, v', rfl, rfl, c1, k1, f1⟩
    refine ⟨_, rfl, ?_, k1, f1⟩
    refine ⟨⟨N.B, N.T, ?_, ?_, ?_, ?_, ?_, ?_, N.notes, c1, N.q0, N.q1⟩, K.same rfl rfl rfl rfl rfl⟩
    · show S.L.set p { S.L.getD p Hs.no with pr := p0 } = x.L.set p { x.L.getD p Hs.no with pr := p0 }; rw [N.L]
    · show (S.R.remF p).tailF p0 p = _; rw [N.R]; rfl
    · show S.st + 1 + 6 = x.st + 7; rw [N.st]; omega
    · show put (put S.th p _) p _ = put x.th p _
      rw [put_put, N.th]
    · show S.lo.ln + 1 = x.ln + 1; rw [N.ln]
    · show S.lo.an + 1 = x.an + 1; rw [N.an]
/-- A thread has taken the lesser priority v. -/
def Pl.prioed (x : Pl) (p v : Nat) (t : Th) (k : Nat) : Pl := { x with L := x.L.set p { x.L.getD p Hs.no with pr := v }, R := (x.R.remF p).headF v p, st := x.st + 7, th := put x.th p (some ((({ t with pc := (k : Int) + 1 } : Th).prio v).ans 0 0)), ln := x.ln + 1, an := x.an + 1 }
theorem v_setprio {B : KB} {last : Int} {E : WEs} {x : Pl} {p v p0 : Nat} {t : Th} (T : Turn B x p t) (z : Code.Prg) (n : Nat) (hx : B.J.PS[n]? = some z) (hpr : t.prog = n) (k : Nat) (hpc : t.pc = k) (hi : z.L[k]? = some ⟨7, 0, 0, 0, 7⟩) (hk : k ≤ 1000) (hln : x.ln ≤ 100000) (han : x.an ≤ 100000)
    (h2 : Tab.atF x.T (t.r 2) = some p) (h3 : t.r 3 = v) (hen : t.en = false) (hwk : t.wt.kind = 0) (I : Leaves x p p0) (hlp : (x.L.getD p Hs.no).pr = p0) (v1 : 1 ≤ v) (vlt : v < p0) (hlk : Lk ((x.R.remF p).hd.getD v 0)) :
    DoesTo B evRun (fun S => NowV S B x last E) (fun S => NowV S B (x.prioed p v t k) last E) := by
  intro W S ⟨N, K⟩ hW
  have Rn := T.run N
  have ht0 := kstep_eq S p t k
  have C0 : Calm (S.stepped p t ((k : Int) + 1) t.r) := N.calm.stepped Rn.th T.p16 _ _
  have q32 := I.q32
  have C1 : Calm ((S.stepped p t ((k : Int) + 1) t.r).prioed p { t with pc := (k : Int) + 1, r := t.r } v) := (C0.put (t' := ({ t with pc := (k : Int) + 1, r := t.r } : Th).prio v) ht0 rfl rfl (N.calm.pol p t Rn.th) (by show t.wt.kind ≠ 2; rw [hwk]; decide) (fun _ => ⟨by show (0 : Int) ≤ v; omega, by show (v : Int) ≤ 31; omega, rfl⟩)).seq (by show (S.L.set p _).length = 16; rw [List.length_set]; exact N.calm.P.L) (RdOk.headF (RdOk.remF N.calm.P.R p) (by omega) p)
  have CY : CanPrio (S.stepped p t ((k : Int) + 1) t.r) p v p0 := ⟨⟨by show (S.L.getD p Hs.no).isIn = true; rw [N.L]; exact I.isIn, I.q1, I.q32, by show S.R.pr.getD p 0 = p0; rw [N.R]; exact I.pr, by show Lk (S.R.pv.getD p 0); rw [N.R]; exact I.pv, by show Lk (S.R.nx.getD p 0); rw [N.R]; exact I.nx, by show 0 ≤ S.st + 1; rw [N.st]; have := T.s0; omega, by show S.st + 1 ≤ 600000000; rw [N.st]; have := T.s1; omega⟩, by show (S.L.getD p Hs.no).pr = p0; rw [N.L]; exact hlp, v1, vlt, by show Lk ((S.R.remF p).hd.getD v 0); rw [N.R]; exact hlk⟩
  refine (do_ret W S N.B hW N.calm p t Rn z n (by rw [N.B]; exact hx) hpr k hpc 7 hi hk 214 0 (({ t with pc := (k : Int) + 1, r := t.r } : Th).prio v) (fun S1 => S1 = (S.stepped p t ((k : Int) + 1) t.r).prioed p { t with pc := (k : Int) + 1, r := t.r } v) (enters_of Tryz.func214 (by kernel_rfl) rfl) rfl (fun W => points_no W 7 (by decide)) ?_ ?_).mono ?_
  · rintro S1 rfl
    exact ⟨rfl, put_self (S.stepped p t ((k : Int) + 1) t.r).th p _, rfl, by show S.lo.an ≤ _; rw [N.an]; exact han, by show S.lo.ln ≤ _; rw [N.ln]; exact hln, C1⟩
  · intro W1 hW1
    refine (callSetPrio_c W1 (S.stepped p t ((k : Int) + 1) t.r) N.B hW1 C0.P p v p0 { t with pc := (k : Int) + 1, r := t.r } T.p16 ht0 (by show Tab.atF S.T (t.r 2) = some p; rw [N.T]; exact h2) h3 hen hwk CY C0.pol C0.kd (fun q y hq hy he => ⟨(C0.ba q y hq hy he).1, (C0.ba q y hq hy he).2.1⟩) C0.mu).mono ?_
    rintro e w' ⟨rfl, k1, f1⟩
    exact ⟨_, rfl, rfl, k1, f1⟩
  · rintro e w' ⟨S1, av, v', rfl, rfl, c1, k1, f1⟩
    refine ⟨_, rfl, ?_, k1, f1⟩
    refine ⟨⟨N.B, N.T, ?_, ?_, ?_, ?_, ?_, ?_, N.notes, c1, N.q0, N.q1⟩, K.same rfl rfl rfl rfl rfl⟩
    · show S.L.set p { S.L.getD p Hs.no with pr := v } = x.L.set p { x.L.getD p Hs.no with pr := v }; rw [N.L]
    · show (S.R.remF p).headF v p = _; rw [N.R]; rfl
    · show S.st + 1 + 6 = x.st + 7; rw [N.st]; omega
    · show put (put (put S.th p _) p _) p _ = put x.th p _
      rw [put_put, put_put, N.th]
    · show S.lo.ln + 1 = x.ln + 1; rw [N.ln]
    · show S.lo.an + 1 = x.an + 1; rw [N.an]
/-- A thread waits for the semaphore. -/
def Pl.waits (x : Pl) (p : Nat) (t : Th) (k : Nat) : Pl := { x with L := x.L.set p Hs.no, R := x.R.remF p, st := x.st + 3, th := put x.th p (some { t with pc := (k : Int) + 1, wt := semW }), ln := x.ln + 1 }
theorem v_wait {B : KB} {last : Int} {E : WEs} {x : Pl} {p p0 : Nat} {t : Th} (T : Turn B x p t) (z : Code.Prg) (n : Nat) (hx : B.J.PS[n]? = some z) (hpr : t.prog = n) (k : Nat) (hpc : t.pc = k) (hi : z.L[k]? = some ⟨7, 0, 0, 0, 27⟩) (hk : k ≤ 1000) (hln : x.ln ≤ 100000) (han : x.an ≤ 100000)
    (h2 : t.r 2 = 16) (e1 : 1 ≤ t.eff) (e2 : t.eff ≤ 31) (hact : Can.actsF t.can true = false) (I : Leaves x p p0) (KE : EsOk E last) (hE : ∀ y ∈ E, y.1 ≠ p) :
    DoesTo B evRun (fun S => NowV S B x last E) (fun S => NowV S B (x.waits p t k) (last + 1 + 1) (E ++ [(p, t.eff, last + 1 + 1)])) := by
  intro W S ⟨N, K⟩ hW
  have Rn := T.run N
  have ht0 := kstep_eq S p t k
  have hpol : t.pol ≠ 2 := N.calm.pol p t Rn.th
  have C0 : Calm (S.stepped p t ((k : Int) + 1) t.r) := N.calm.stepped Rn.th T.p16 _ _
  obtain ⟨b, q, g, H⟩ := K.H
  have H0 : HasSe (S.stepped p t ((k : Int) + 1) t.r) b q g last E := H.same rfl rfl rfl
  have C1 : ∀ og, Calm ((S.stepped p t ((k : Int) + 1) t.r).semBl p { t with pc := (k : Int) + 1, r := t.r } q g last og) := fun og => by
    have CX : Calm ((S.stepped p t ((k : Int) + 1) t.r).withSe q g (last + 1 + 1) og) := ⟨{ C0.P with }, C0.pol, C0.kd, C0.ba, C0.mu⟩
    exact (CX.put (t' := { t with pc := (k : Int) + 1, r := t.r, wt := semW }) ht0 rfl rfl hpol (by show (4 : Int) ≠ 2; decide) (fun he => N.calm.ba p t T.p16 Rn.th he)).seq (by show (S.L.set p Hs.no).length = 16; rw [List.length_set]; exact N.calm.P.L) (RdOk.remF N.calm.P.R p)
  have I0 : InSeq (S.stepped p t ((k : Int) + 1) t.r) p p0 := ⟨by show (S.L.getD p Hs.no).isIn = true; rw [N.L]; exact I.isIn, I.q1, I.q32, by show S.R.pr.getD p 0 = p0; rw [N.R]; exact I.pr, by show Lk (S.R.pv.getD p 0); rw [N.R]; exact I.pv, by show Lk (S.R.nx.getD p 0); rw [N.R]; exact I.nx, by show 0 ≤ S.st + 1; rw [N.st]; have := T.s0; omega, by show S.st + 1 ≤ 600000000; rw [N.st]; have := T.s1; omega⟩
  refine (do_left W S N.B hW N.calm p t Rn z n (by rw [N.B]; exact hx) hpr k hpc 27 hi hk 234 { t with pc := (k : Int) + 1, r := t.r, wt := semW } (fun S1 => ∃ og, S1 = (S.stepped p t ((k : Int) + 1) t.r).semBl p { t with pc := (k : Int) + 1, r := t.r } q g last og ∧ HasSe S1 b q g (last + 1 + 1) (E ++ [(p, t.eff, last + 1 + 1)])) (enters_of Tryz.func234 (by kernel_rfl) rfl) rfl (fun W => points_yes W 27 (.inr (.inl rfl))) hact ?_ ?_).mono ?_
  · rintro S1 ⟨og, rfl, _⟩
    exact ⟨rfl, put_self (S.stepped p t ((k : Int) + 1) t.r).th p _, rfl, by show S.lo.an ≤ _; rw [N.an]; exact han, by show S.lo.ln ≤ _; rw [N.ln]; exact hln, C1 og⟩
  · intro W1 hW1
    refine (callSemWait_c W1 (S.stepped p t ((k : Int) + 1) t.r) N.B hW1 C0.P p p0 { t with pc := (k : Int) + 1, r := t.r } T.p16 ht0 h2 hpol I0 e1 e2 H0 KE hE).mono ?_
    rintro e w' ⟨og, rfl, k1, f1, h1⟩
    exact ⟨_, rfl, ⟨og, rfl, h1⟩, k1, f1⟩
  · rintro e w' ⟨S1, v', rfl, ⟨og, rfl, h1⟩, c1, k1, f1⟩
    refine ⟨_, rfl, ?_, k1, f1⟩
    refine ⟨⟨N.B, N.T, ?_, ?_, ?_, ?_, ?_, N.an, N.notes, c1, N.q0, N.q1⟩, ⟨K.W0, K.W1, b, q, g, h1.same rfl rfl rfl⟩⟩
    · show S.L.set p Hs.no = x.L.set p Hs.no; rw [N.L]
    · show S.R.remF p = x.R.remF p; rw [N.R]
    · show S.st + 1 + 2 = x.st + 3; rw [N.st]; omega
    · show put (put S.th p _) p _ = put x.th p _
      rw [put_put, N.th]
    · show S.lo.ln + 1 = x.ln + 1; rw [N.ln]
/-- A post of r wakes p. -/
def Pl.posted (x : Pl) (B : KB) (r : Nat) (tr : Th) (k p pr : Nat) (t : Th) : Pl := { x with L := x.L.set p ⟨true, decide (t.pol = 1), pr, B.J.q⟩, R := x.R.tailF pr p, st := x.st + 5, th := put (put x.th p (some (({ t with wt := Wt.no } : Th).ans 0 0))) r (some (({ tr with pc := (k : Int) + 1 } : Th).ans 0 0)), ln := x.ln + 1, an := x.an + 2 }
theorem put_comm {α : Type} (f : Nat → α) {i j : Nat} (a b : α) (h : i ≠ j) : put (put f i a) j b = put (put f j b) i a := by
  funext n
  unfold put
  by_cases h1 : n = i
  · subst h1; rw [if_neg h, if_pos rfl, if_pos rfl]
  · rw [if_neg h1, if_neg h1]
theorem wh_new_wh (p : Nat) : Wh.new.wh.getD p 0 = 0 := by
  show (List.replicate 64 (0 : Int)).getD p 0 = 0
  rw [List.getD_eq_getElem?_getD, List.getElem?_replicate]
  split <;> rfl
theorem v_post {B : KB} {last c : Int} {E : WEs} {x : Pl} {r p pr : Nat} {t tr : Th} (T : Turn B x r tr) (z : Code.Prg) (n : Nat) (hx : B.J.PS[n]? = some z) (hpr : tr.prog = n) (k : Nat) (hpc : tr.pc = k) (hi : z.L[k]? = some ⟨7, 0, 0, 0, 30⟩) (hk : k ≤ 1000) (hln : x.ln ≤ 100000) (han : x.an ≤ 90000)
    (h2 : tr.r 2 = 16) (hrp : p ≠ r) (p16 : p < 16) (ht : x.th p = some t) (hwt : t.wt = semW) (heff : t.eff = pr) (h1 : 1 ≤ pr) (h32 : pr < 32) (hin : (x.L.getD p Hs.no).isIn = false) (hz : x.R.pr.getD p 0 = 0) (hl : Lk (x.R.tl.getD pr 0)) (KE : EsOk ((p, (pr : Int), c) :: E) last) :
    DoesTo B evRun (fun S => NowV S B x last ((p, (pr : Int), c) :: E)) (fun S => NowV S B (x.posted B r tr k p pr t) last E) := by
  intro W S ⟨N, K⟩ hW
  have Rn := T.run N
  have ht0 := kstep_eq S r tr k
  have C0 : Calm (S.stepped r tr ((k : Int) + 1) tr.r) := N.calm.stepped Rn.th T.p16 _ _
  have hS : S.th p = some t := by rw [N.th]; exact ht
  have htp : (S.stepped r tr ((k : Int) + 1) tr.r).th p = some t := (put_ne S.th _ hrp).trans hS
  have hpol : t.pol ≠ 2 := N.calm.pol p t hS
  obtain ⟨b, q, g, H⟩ := K.H
  have H0 : HasSe (S.stepped r tr ((k : Int) + 1) tr.r) b q g last ((p, (pr : Int), c) :: E) := H.same rfl rfl rfl
  have C1 : ∀ og v, Calm ((S.stepped r tr ((k : Int) + 1) tr.r).posted p t pr q g last og v) := fun og v => by
    have CX : Calm ((S.stepped r tr ((k : Int) + 1) tr.r).withSe q g last og) := ⟨{ C0.P with }, C0.pol, C0.kd, C0.ba, C0.mu⟩
    have C2 : Calm (((S.stepped r tr ((k : Int) + 1) tr.r).withSe q g last og).unblS p t pr) := (CX.put (t' := { t with wt := Wt.no }) htp rfl rfl hpol (by show (0 : Int) ≠ 2; decide) (fun he => N.calm.ba p t p16 hS he)).seq (by show (S.L.set p _).length = 16; rw [List.length_set]; exact N.calm.P.L) (RdOk.tailF N.calm.P.R h32 p)
    exact C2.ans (t := { t with wt := Wt.no }) (put_self (S.stepped r tr ((k : Int) + 1) tr.r).th p _) p16 0 0 v
  have CW : CanWakeS (S.stepped r tr ((k : Int) + 1) tr.r) p t pr := ⟨p16, htp, hwt, hpol, heff, h1, h32, by show (S.L.getD p Hs.no).isIn = false; rw [N.L]; exact hin, by show S.R.pr.getD p 0 = 0; rw [N.R]; exact hz, by show Lk (S.R.tl.getD pr 0); rw [N.R]; exact hl, by show 0 ≤ S.st + 1; rw [N.st]; have := T.s0; omega, by show S.st + 1 ≤ 800000000; rw [N.st]; have := T.s1; omega, by show S.W0.wh.getD p 0 = 0; rw [K.W0]; exact wh_new_wh p, by show S.W1.wh.getD p 0 = 0; rw [K.W1]; exact wh_new_wh p, by show S.lo.an ≤ _; rw [N.an]; omega⟩
  refine (do_ret W S N.B hW N.calm r tr Rn z n (by rw [N.B]; exact hx) hpr k hpc 30 hi hk 237 0 { tr with pc := (k : Int) + 1, r := tr.r } (fun S1 => ∃ og v, S1 = (S.stepped r tr ((k : Int) + 1) tr.r).posted p t pr q g last og v ∧ HasSe S1 b q g last E) (enters_of Tryz.func237 (by kernel_rfl) rfl) rfl (fun W => points_no W 30 (by decide)) ?_ ?_).mono ?_
  · rintro S1 ⟨og, v, rfl, _⟩
    refine ⟨rfl, ?_, rfl, ?_, ?_, C1 og v⟩
    · show put (put (S.stepped r tr ((k : Int) + 1) tr.r).th p _) p _ r = _
      rw [put_ne _ _ (Ne.symm hrp), put_ne _ _ (Ne.symm hrp)]
      exact ht0
    · show S.lo.an + 1 ≤ _; rw [N.an]; omega
    · show S.lo.ln ≤ _; rw [N.ln]; exact hln
  · intro W1 hW1
    refine (callPost_c W1 (S.stepped r tr ((k : Int) + 1) tr.r) N.B hW1 C0.P r { tr with pc := (k : Int) + 1, r := tr.r } T.p16 ht0 h2 p t pr CW H0 KE).mono ?_
    rintro e w' ⟨og, v, rfl, k1, f1, h1⟩
    exact ⟨_, rfl, ⟨og, v, rfl, h1⟩, k1, f1⟩
  · rintro e w' ⟨S1, av, v', rfl, ⟨og, v, rfl, h1⟩, c1, k1, f1⟩
    have hBq : S.B.J.q = B.J.q := by rw [N.B]
    refine ⟨_, rfl, ?_, k1, f1⟩
    refine ⟨⟨N.B, N.T, ?_, ?_, ?_, ?_, ?_, ?_, N.notes, c1, N.q0, N.q1⟩, ⟨K.W0, K.W1, b, q, g, h1.same rfl rfl rfl⟩⟩
    · show S.L.set p ⟨true, decide (t.pol = 1), pr, S.B.J.q⟩ = x.L.set p ⟨true, decide (t.pol = 1), pr, B.J.q⟩; rw [N.L, hBq]
    · show S.R.tailF pr p = x.R.tailF pr p; rw [N.R]
    · show S.st + 1 + 4 = x.st + 5; rw [N.st]; omega
    · show put (put (put (put S.th r _) p _) p _) r _ = put (put x.th p _) r _
      rw [put_put, put_comm S.th _ _ (Ne.symm hrp), put_put, N.th]
    · show S.lo.ln + 1 = x.ln + 1; rw [N.ln]
    · show S.lo.an + 1 + 1 = x.an + 2; rw [N.an]
end Go.Proofs.YtagmlijhgncklaaGreatDoor.Ker
