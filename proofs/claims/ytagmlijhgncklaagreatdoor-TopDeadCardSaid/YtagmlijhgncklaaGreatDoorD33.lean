/-
  Calls on a robust mutex for which nobody waits: lock, unlock, consistent, over the translation of this seat. Conditions: the blocks that are named hold what is said.
  The call that makes a robust mutex, over the translation of this seat. Conditions: the blocks that are named hold what is said; there is none yet.
  The kernel's graph, and settle, where there is one mutex that is no heir's, over the translation of this seat. Conditions: the blocks that are named hold what is said; nobody waits for it.
  The kernel's graph, and settle, where there is one mutex (no heir's, without a ceiling), over the translation of this seat. Conditions: the blocks that are named hold what is said; nobody waits for it. (Written by gengrm.py.)
-/
import Derived.Test.YtagmlijhgncklaaGreatDoorD30
import Derived.Test.YtagmlijhgncklaaGreatDoorD32
import Derived.BigQuiet
import Derived.Deep.RegionHeld3
import Derived.Test.YtagmlijhgncklaaGreatDoorD26
set_option linter.unusedVariables false
namespace Go.Proofs.YtagmlijhgncklaaGreatDoor.Ker
open Go.RowKit Go.Proofs.YtagmlijhgncklaaGreatDoor

theorem muFind_c (w : World) (S : KS) {B : KB} (hB : S.B = B) (h : KW w S) {b q g : Nat} {m : Mx.Mu} (H : HasMu S b q g m) :
    Calls Tryz.prog 113 #[.pointer (some ⟨B.mu, 0, none⟩), .int .i64 16] w fun e w' => e = .returned (.tuple #[.pointer (some ⟨b, 0, none⟩), .bool true]) ∧ Below w.heap.size w w' := by
  subst hB
  have cm : w.cell? ⟨S.B.mu, 0, none⟩ = some (.pointer (some ⟨S.B.mub, 0, none⟩)) := has_cell 0 (h.has 9 rfl) rfl
  have AT : Calls Tryz.prog 66 #[.pointer (some ⟨S.B.mub, 0, none⟩), .int .i64 16] w fun e w' => e = .returned (.tuple #[.int .i64 0, .bool true]) ∧ Below w.heap.size w w' := by
    have q := h.has 10 rfl
    rw [H.T] at q
    exact Tab.at_c w S.B.mub muT4 16 q (by decide) (by decide) (genOk_up mu4_ok)
  have HK := Lib.hid h
  have HL := Lib.hid H.l
  clear h H
  go_enter Tryz.func113, Tryz.ntmps113
  go_wp2_with (go_at_call 66; refine AT.mono ?_; rintro e w2 ⟨rfl, b2⟩; have c2 : w2.cell? ⟨S.B.mu, 1, none⟩ = some (.pointer (S.muL 0)) := has_cell 1 ((HK.out.reads b2).has 9 rfl) rfl; rw [HL.out] at c2; have HB := Lib.hid b2; clear b2 AT)
  go_ret2
  exact ⟨rfl, HB.out⟩
theorem muThing_c (w : World) (S : KS) {B : KB} (hB : S.B = B) (h : KW w S) {b q g : Nat} {m : Mx.Mu} (H : HasMu S b q g m) (x : Int) :
    Calls Tryz.prog 494 #[.pointer (some ⟨B.mu, 0, none⟩), .int .i64 16, .int .i64 x] w fun e w' => e = .returned (.pointer (some ⟨b, 0, none⟩)) ∧ Below w.heap.size w w' := by
  have A := muFind_c w S hB h H
  clear h H hB
  go_enter Tryz.func494, Tryz.ntmps494
  go_wp2_with (first
    | (go_at_call 113; refine A.mono ?_; rintro e w2 ⟨rfl, b2⟩; have HB := Lib.hid b2; clear b2 A)
    | (go_at_call 146; refine (must_c _ _).mono ?_; rintro e w' ⟨rfl, rfl⟩))
  go_ret
  exact ⟨rfl, HB.out⟩
theorem mutex_c (w : World) (S : KS) {B : KB} (hB : S.B = B) (h : KW w S) {b q g : Nat} {m : Mx.Mu} (H : HasMu S b q g m) :
    Calls Tryz.prog 362 #[.pointer (some ⟨B.kb, 0, none⟩), .int .i64 16] w fun e w' => e = .returned (.pointer (some ⟨b, 0, none⟩)) ∧ Below w.heap.size w w' := by
  have A := muThing_c w S hB h H 22
  have c63 := kc63 h hB
  clear h H hB
  go_enter Tryz.func362, Tryz.ntmps362
  go_wp2_with (go_at_call 494; refine A.mono ?_; rintro e w2 ⟨rfl, b2⟩; have HB := Lib.hid b2; clear b2 A)
  go_ret
  exact ⟨rfl, HB.out⟩
theorem went_ok (w : World) : Calls Tryz.prog 366 #[.int .i64 0] w fun e w' => e = .returned (.tuple #[]) ∧ w = w' := by
  go_enter Tryz.func366, Tryz.ntmps366
  go_wp2
  exact bodyPost_end (results_none rfl _ _ _) rfl ⟨rfl, rfl⟩
theorem went_no (w : World) (x : Int) (hx : x ≠ 0) : Calls Tryz.prog 366 #[.int .i64 x] w fun e w' => e = .panicked [{ v := .iface 134 (.int .i64 x), recovered := false }] ∧ w = w' := by
  have d : (x != 0) = true := by simpa using hx
  clear hx
  go_enter Tryz.func366, Tryz.ntmps366
  go_wp2_with fail
  exact ⟨rfl, rfl, rfl⟩
theorem gots_nil (w : World) (k : Value) : Calls Tryz.prog 336 #[k, .slice none 0 0] w fun e w' => e = .returned (.tuple #[]) ∧ w = w' := by
  go_enter Tryz.func336, Tryz.ntmps336
  go_wp2_with fail
  refine wp_loop_rounds 1 ?_
  rw [rounds_succ]
  go_wp2_with fail
  go_end0
  exact ⟨rfl, rfl⟩
/-- A region that looks at a thread, finds the mutex, and then does something with it. -/
theorem reg6 {w : World} {S : KS} {p : Nat} {t : Th} (h : KW w S) (hp : p < 16) (ht : S.th p = some t) (h2 : t.r 2 = 16) {b q g : Nat} {m : Mx.Mu} (H : HasMu S b q g m) :
    (∀ d os, (Go.Sort.grow (redrawn w d) os).cell? ⟨t.b, 6, none⟩ = some (.int .i64 16)) ∧ (∀ d os, (Go.Sort.grow (redrawn w d) os).cell? ⟨t.b, 0, none⟩ = some (.int .i64 p)) ∧ (∀ d os, (Go.Sort.grow (redrawn w d) os).cell? ⟨t.b, 17, none⟩ = some (.int .i64 t.eff)) ∧ (∀ d os, KW (Go.Sort.grow (redrawn w d) os) S)
      ∧ (∀ d os, Calls Tryz.prog 362 #[.pointer (some ⟨S.B.kb, 0, none⟩), .int .i64 16] (Go.Sort.grow (redrawn w d) os) fun e w'' => e = .returned (.pointer (some ⟨b, 0, none⟩)) ∧ ∃ p : Regrown, w'' = Go.Sort.grow (redrawn w p.d) p.os) := by
  have x := tc6 (h.getTh hp ht)
  rw [h2] at x
  have K : ∀ d os, KW (Go.Sort.grow (redrawn w d) os) S := fun d os => h.reads (below_regrown w d os)
  exact ⟨fun d os => cell_regrown x d os, fun d os => cell_regrown (tc0 (h.getTh hp ht)) d os, fun d os => cell_regrown (tc17 (h.getTh hp ht)) d os, K, fun d os => Calls.regrown_of (mutex_c _ S rfl (K d os) H)⟩
set_option maxRecDepth 100000 in
set_option maxHeartbeats 1000000 in
theorem callConsistent_yes (w : World) (S : KS) {B : KB} (hB : S.B = B) (h : KW w S) (p : Nat) (t : Th) (hp : p < 16) (ht : S.th p = some t) (h2 : t.r 2 = 16) {b q g : Nat} {m : Mx.Mu} (H : HasMu S b q g m) (ho : m.own = p) (hs : m.st = 1) :
    Calls Tryz.prog 224 #[.pointer (some ⟨B.kb, 0, none⟩), .pointer (some ⟨t.b, 0, none⟩)] w fun e w' => e = .returned (.int .i64 0) ∧ KW w' (S.withMu b q ⟨p, m.cnt, 0⟩) ∧ Fr S (S.withMu b q ⟨p, m.cnt, 0⟩) w w' := by
  subst hB
  obtain ⟨f6, f0, _, KR, A⟩ := reg6 h hp ht h2 H
  have CY := fun W (hW : KW W S) => Mx.cons_yes W b q g m p (H.w hW) hp ho hs
  have HCY := Lib.hid CY
  have HH := Lib.hid H
  have HA := Lib.hid A
  have HKR := Lib.hid KR
  clear h H ho hs CY h2 A KR
  go_enter Tryz.func224, Tryz.ntmps224
  go_upto_region 1 with fail
  refine quiet_tail_below 11 (by kernel_rfl) (by kernel_rfl) ?_
  simp only [List.take_succ_cons, List.take_zero, List.drop_succ_cons, List.drop_zero]
  repeat (quiet_step (exact HA.out _ _))
  refine wpQuiet_nil ?_
  rintro _ ⟨⟨dq, osq⟩, rfl⟩
  have b2 := below_regrown w dq osq
  have k2 := HKR.out dq osq
  obtain ⟨W2, hW2⟩ : ∃ W2, W2 = Go.Sort.grow (redrawn w dq) osq := ⟨_, rfl⟩
  rw [← hW2] at b2 k2 ⊢
  have HK2 := Lib.hid k2
  have HB2 := Lib.hid b2
  clear b2 k2 hW2 f6 f0
  go_wp2_with (first
    | (go_at_call 370; refine (HCY.out _ HK2.out).mono ?_; rintro e w3 ⟨rfl, u3⟩; have q3 := HK2.out.mutex HH.out u3; have HQ3 := Lib.hid q3; clear u3 q3)
    | (go_at_call 366; refine (went_ok _).mono ?_; rintro e w' ⟨rfl, rfl⟩))
  refine bodyPost_ret (v := .int .i64 0) (results_tmp (show Tryz.f224.results = #[.tmp 4] from rfl) _ _ _) rfl ?_
  exact ⟨rfl, HQ3.out.1, (Fr.reads S HB2.out).trans HQ3.out.2.1⟩
set_option maxRecDepth 100000 in
set_option maxHeartbeats 1000000 in
theorem callConsistent_no (w : World) (S : KS) {B : KB} (hB : S.B = B) (h : KW w S) (p : Nat) (t : Th) (hp : p < 16) (ht : S.th p = some t) (h2 : t.r 2 = 16) {b q g : Nat} {m : Mx.Mu} (H : HasMu S b q g m) (hs : m.st ≠ 1) :
    Calls Tryz.prog 224 #[.pointer (some ⟨B.kb, 0, none⟩), .pointer (some ⟨t.b, 0, none⟩)] w fun e w' => e = .panicked [{ v := .iface 134 (.int .i64 22), recovered := false }] ∧ KW w' S ∧ Fr S S w w' := by
  subst hB
  obtain ⟨f6, f0, _, KR, A⟩ := reg6 h hp ht h2 H
  have CY := fun W (hW : KW W S) => Mx.cons_no W b q g m p (H.w hW) hp hs
  have HCY := Lib.hid CY
  have HA := Lib.hid A
  have HKR := Lib.hid KR
  clear h H hs CY h2 A KR
  go_enter Tryz.func224, Tryz.ntmps224
  go_upto_region 1 with fail
  refine quiet_tail_below 11 (by kernel_rfl) (by kernel_rfl) ?_
  simp only [List.take_succ_cons, List.take_zero, List.drop_succ_cons, List.drop_zero]
  repeat (quiet_step (exact HA.out _ _))
  refine wpQuiet_nil ?_
  rintro _ ⟨⟨dq, osq⟩, rfl⟩
  have b2 := below_regrown w dq osq
  have k2 := HKR.out dq osq
  obtain ⟨W2, hW2⟩ : ∃ W2, W2 = Go.Sort.grow (redrawn w dq) osq := ⟨_, rfl⟩
  rw [← hW2] at b2 k2 ⊢
  have HK2 := Lib.hid k2
  have HB2 := Lib.hid b2
  clear b2 k2 hW2 f6 f0
  go_wp2_with (first
    | (go_at_call 370; refine (HCY.out _ HK2.out).mono ?_; rintro e w3 ⟨rfl, rfl⟩)
    | (go_at_call 366; refine (went_no _ _ (by decide)).mono ?_; rintro e w' ⟨rfl, rfl⟩))
  exact ⟨rfl, rfl, HK2.out, Fr.reads S HB2.out⟩
theorem thCells {S : KS} {p : Nat} {t : Th} (hp : p < 16) (ht : S.th p = some t) (h2 : t.r 2 = 16) : ∀ V S', S'.th = S.th → KW V S' → V.cell? ⟨t.b, 6, none⟩ = some (.int .i64 16) ∧ V.cell? ⟨t.b, 0, none⟩ = some (.int .i64 p) ∧ V.cell? ⟨t.b, 17, none⟩ = some (.int .i64 t.eff) := fun V S' e k => by
  have y := k.getTh hp (by rw [e]; exact ht)
  have x := tc6 y
  rw [h2] at x
  exact ⟨x, tc0 y, tc17 y⟩
set_option maxRecDepth 100000 in
set_option maxHeartbeats 1000000 in
/-- Unlock, by its owner: what the mutex comes to is given. -/
theorem callUnlock_yes (w : World) (S : KS) {B : KB} (hB : S.B = B) (h : KW w S) (p : Nat) (t : Th) (hp : p < 16) (ht : S.th p = some t) (h2 : t.r 2 = 16) {b q g : Nat} {m m' : Mx.Mu} (H : HasMu S b q g m)
    (U : ∀ W, Mx.MuW W b q g m → Calls Tryz.prog 369 #[.pointer (some ⟨b, 0, none⟩), .int .i64 p] W fun e w' => e = .returned (.tuple #[.slice none 0 0, .int .i64 0]) ∧ Upd W b (Mx.muO m' q) w') :
    Calls Tryz.prog 223 #[.pointer (some ⟨B.kb, 0, none⟩), .pointer (some ⟨t.b, 0, none⟩)] w fun e w' => e = .returned (.int .i64 0) ∧ KW w' (S.withMu b q m') ∧ Fr S (S.withMu b q m') w w' := by
  subst hB
  have FC := thCells hp ht h2
  obtain ⟨f0, f1, _⟩ := FC w S rfl h
  have kd : KW w.drew S := h.keeps (Nat.le_refl _) (fun _ _ _ => rfl)
  have A := mutex_c w.drew S rfl kd H
  have CY := fun W (hW : KW W S) => U W (H.w hW)
  have HCY := Lib.hid CY
  have HH := Lib.hid H
  have HFC := Lib.hid FC
  have HKD := Lib.hid kd
  have HFD := Lib.hid (Fr.refl S w).drew
  clear h H CY FC kd h2 U
  go_enter Tryz.func223, Tryz.ntmps223
  go_upto_region 1 with fail
  go_region_held3 (fun W' => W'.cell? ⟨t.b, 6, none⟩ = some (.int .i64 16) ∧ W'.cell? ⟨t.b, 0, none⟩ = some (.int .i64 p)) (first | exact ⟨f0, f1⟩ | exact ⟨by assumption, by assumption⟩) (first
    | (go_at_call 362; refine A.mono ?_; rintro e w2 ⟨rfl, b2⟩; have k2 := HKD.out.reads b2; obtain ⟨g0, g1, _⟩ := HFC.out w2 S rfl k2; have HK2 := Lib.hid k2; have HF2 := Lib.hid (HFD.out.trans (Fr.reads S b2)); clear k2 b2)
    | (go_at_call 369; refine (HCY.out _ HK2.out).mono ?_; rintro e w3 ⟨rfl, u3⟩; have q3 := HK2.out.mutex HH.out u3; obtain ⟨i0, i1, _⟩ := HFC.out w3 (S.withMu b q m') rfl q3.1; have HQ3 := Lib.hid q3; clear u3 q3))
  go_wp2_with (first
    | (go_at_call 336; refine (gots_nil _ _).mono ?_; rintro e w' ⟨rfl, rfl⟩)
    | (go_at_call 366; refine (went_ok _).mono ?_; rintro e w' ⟨rfl, rfl⟩))
  refine bodyPost_ret (v := .int .i64 0) (results_tmp (show Tryz.f223.results = #[.tmp 4] from rfl) _ _ _) rfl ?_
  exact ⟨rfl, HQ3.out.1, HF2.out.trans HQ3.out.2.1⟩
set_option maxRecDepth 100000 in
set_option maxHeartbeats 1000000 in
theorem callUnlock_no (w : World) (S : KS) {B : KB} (hB : S.B = B) (h : KW w S) (p : Nat) (t : Th) (hp : p < 16) (ht : S.th p = some t) (h2 : t.r 2 = 16) {b q g : Nat} {m : Mx.Mu} (H : HasMu S b q g m) (ho : m.own ≠ p) :
    Calls Tryz.prog 223 #[.pointer (some ⟨B.kb, 0, none⟩), .pointer (some ⟨t.b, 0, none⟩)] w fun e w' => e = .panicked [{ v := .iface 134 (.int .i64 1), recovered := false }] ∧ KW w' S ∧ Fr S S w w' := by
  subst hB
  have FC := thCells hp ht h2
  obtain ⟨f0, f1, _⟩ := FC w S rfl h
  have kd : KW w.drew S := h.keeps (Nat.le_refl _) (fun _ _ _ => rfl)
  have A := mutex_c w.drew S rfl kd H
  have CY := fun W (hW : KW W S) => Mx.unlock_not W b q g m p (H.w hW) hp ho
  have HCY := Lib.hid CY
  have HFC := Lib.hid FC
  have HKD := Lib.hid kd
  have HFD := Lib.hid (Fr.refl S w).drew
  clear h H CY FC kd h2 ho
  go_enter Tryz.func223, Tryz.ntmps223
  go_upto_region 1 with fail
  go_region_held3 (fun W' => W'.cell? ⟨t.b, 6, none⟩ = some (.int .i64 16) ∧ W'.cell? ⟨t.b, 0, none⟩ = some (.int .i64 p)) (first | exact ⟨f0, f1⟩ | exact ⟨by assumption, by assumption⟩) (first
    | (go_at_call 362; refine A.mono ?_; rintro e w2 ⟨rfl, b2⟩; have k2 := HKD.out.reads b2; obtain ⟨g0, g1, _⟩ := HFC.out w2 S rfl k2; have HK2 := Lib.hid k2; have HF2 := Lib.hid (HFD.out.trans (Fr.reads S b2)); clear k2 b2)
    | (go_at_call 369; refine (HCY.out _ HK2.out).mono ?_; rintro e w3 ⟨rfl, rfl⟩))
  go_wp2_with (go_at_call 366; refine (went_no _ _ (by decide)).mono ?_; rintro e w' ⟨rfl, rfl⟩)
  exact ⟨rfl, rfl, HK2.out, HF2.out⟩
set_option maxRecDepth 100000 in
set_option maxHeartbeats 1000000 in
/-- Lock, of a mutex that is free. -/
theorem lock_gets (w : World) (S : KS) {B : KB} (hB : S.B = B) (h : KW w S) (p : Nat) (t : Th) (hp : p < 16) (ht : S.th p = some t) (hpol : t.pol ≠ 2) (h2 : t.r 2 = 16) {b q g : Nat} {m m' : Mx.Mu} (H : HasMu S b q g m) 
    (L : ∀ W, Mx.MuW W b q g m → Calls Tryz.prog 470 #[.pointer (some ⟨b, 0, none⟩), .int .i64 p, .int .i64 t.eff, .int .i64 t.base] W fun e w' => e = .returned (.tuple #[.bool true, .int .i64 0]) ∧ Upd W b (Mx.muO m' q) w') :
    Calls Tryz.prog 365 #[.pointer (some ⟨B.kb, 0, none⟩), .pointer (some ⟨t.b, 0, none⟩), .int .i64 13, .agg #[.bool false, .int .i64 0, .int .i64 0]] w fun e w' => e = .returned (.int .i64 0) ∧ KW w' (S.withMu b q m') ∧ Fr S (S.withMu b q m') w w' := by
  subst hB
  have kb : KW (w.alloc (.cells #[.bool false, .int .i64 0, .int .i64 0] 465)) S := h.reads ((Below.refl _ w).alloc (Nat.le_refl _) _)
  have FC := thCells hp ht h2
  obtain ⟨c0, c1, c2⟩ := FC _ S rfl kb
  have A := mutex_c _ S rfl kb H
  have CY := fun W (hW : KW W S) => L W (H.w hW)
  have PR := fun W (hW : KW W S) => prio_c W p t (hW.getTh hp ht) hpol
  have HPR := Lib.hid PR
  have HCY := Lib.hid CY
  have HH := Lib.hid H
  have HFC := Lib.hid FC
  have HKB := Lib.hid kb
  have HFB := Lib.hid (Fr.reads S ((Below.refl w.heap.size w).alloc (Nat.le_refl _) (.cells #[.bool false, .int .i64 0, .int .i64 0] 465)))
  clear h H CY FC kb h2 L PR
  go_enter Tryz.func365, Tryz.ntmps365
  go_upto_region 2 with (go_at_call 362; refine A.mono ?_; rintro e w2 ⟨rfl, b2⟩; have HK2 := Lib.hid (HKB.out.reads b2); have HF2 := Lib.hid (HFB.out.trans (Fr.reads S b2)); clear b2 A)
  obtain ⟨d0, d1, d2⟩ := HFC.out w2 S rfl HK2.out
  have HKD : RowKit.Hid (KW w2.drew S) := Lib.hid (HK2.out.keeps (Nat.le_refl _) (fun _ _ _ => rfl))
  clear c0 c1 c2
  go_region_held3 (fun W' => W'.cell? ⟨t.b, 0, none⟩ = some (.int .i64 p) ∧ W'.cell? ⟨t.b, 17, none⟩ = some (.int .i64 t.eff)) (first | exact ⟨d1, d2⟩ | exact ⟨by assumption, by assumption⟩) (first
    | (go_at_call 49; refine (HPR.out _ HKD.out).mono ?_; rintro e w' ⟨rfl, rfl⟩)
    | (go_at_call 470; refine (HCY.out _ HKD.out).mono ?_; rintro e w3 ⟨rfl, u3⟩; have q3 := HKD.out.mutex HH.out u3; obtain ⟨i0, i1, i2⟩ := HFC.out w3 (S.withMu b q m') rfl q3.1; have HQ3 := Lib.hid q3; clear u3 q3))
  go_wp2_with (go_at_call 366; refine (went_ok _).mono ?_; rintro e w' ⟨rfl, rfl⟩)
  refine bodyPost_ret (v := .int .i64 0) (results_tmp (show Tryz.f365.results = #[.tmp 8] from rfl) _ _ _) rfl ?_
  exact ⟨rfl, HQ3.out.1, HF2.out.drew.trans HQ3.out.2.1⟩
set_option maxRecDepth 100000 in
set_option maxHeartbeats 1000000 in
/-- Lock, of a mutex whose owner had ended. -/
theorem lock_dead (w : World) (S : KS) {B : KB} (hB : S.B = B) (h : KW w S) (p : Nat) (t : Th) (hp : p < 16) (ht : S.th p = some t) (hpol : t.pol ≠ 2) (h2 : t.r 2 = 16) {b q g : Nat} {m m' : Mx.Mu} (H : HasMu S b q g m) 
    (L : ∀ W, Mx.MuW W b q g m → Calls Tryz.prog 470 #[.pointer (some ⟨b, 0, none⟩), .int .i64 p, .int .i64 t.eff, .int .i64 t.base] W fun e w' => e = .returned (.tuple #[.bool true, .int .i64 130]) ∧ Upd W b (Mx.muO m' q) w') :
    Calls Tryz.prog 365 #[.pointer (some ⟨B.kb, 0, none⟩), .pointer (some ⟨t.b, 0, none⟩), .int .i64 13, .agg #[.bool false, .int .i64 0, .int .i64 0]] w fun e w' => e = .panicked [{ v := .iface 134 (.int .i64 130), recovered := false }] ∧ KW w' (S.withMu b q m') ∧ Fr S (S.withMu b q m') w w' := by
  subst hB
  have kb : KW (w.alloc (.cells #[.bool false, .int .i64 0, .int .i64 0] 465)) S := h.reads ((Below.refl _ w).alloc (Nat.le_refl _) _)
  have FC := thCells hp ht h2
  obtain ⟨c0, c1, c2⟩ := FC _ S rfl kb
  have A := mutex_c _ S rfl kb H
  have CY := fun W (hW : KW W S) => L W (H.w hW)
  have PR := fun W (hW : KW W S) => prio_c W p t (hW.getTh hp ht) hpol
  have HPR := Lib.hid PR
  have HCY := Lib.hid CY
  have HH := Lib.hid H
  have HFC := Lib.hid FC
  have HKB := Lib.hid kb
  have HFB := Lib.hid (Fr.reads S ((Below.refl w.heap.size w).alloc (Nat.le_refl _) (.cells #[.bool false, .int .i64 0, .int .i64 0] 465)))
  clear h H CY FC kb h2 L PR
  go_enter Tryz.func365, Tryz.ntmps365
  go_upto_region 2 with (go_at_call 362; refine A.mono ?_; rintro e w2 ⟨rfl, b2⟩; have HK2 := Lib.hid (HKB.out.reads b2); have HF2 := Lib.hid (HFB.out.trans (Fr.reads S b2)); clear b2 A)
  obtain ⟨d0, d1, d2⟩ := HFC.out w2 S rfl HK2.out
  have HKD : RowKit.Hid (KW w2.drew S) := Lib.hid (HK2.out.keeps (Nat.le_refl _) (fun _ _ _ => rfl))
  clear c0 c1 c2
  go_region_held3 (fun W' => W'.cell? ⟨t.b, 0, none⟩ = some (.int .i64 p) ∧ W'.cell? ⟨t.b, 17, none⟩ = some (.int .i64 t.eff)) (first | exact ⟨d1, d2⟩ | exact ⟨by assumption, by assumption⟩) (first
    | (go_at_call 49; refine (HPR.out _ HKD.out).mono ?_; rintro e w' ⟨rfl, rfl⟩)
    | (go_at_call 470; refine (HCY.out _ HKD.out).mono ?_; rintro e w3 ⟨rfl, u3⟩; have q3 := HKD.out.mutex HH.out u3; obtain ⟨i0, i1, i2⟩ := HFC.out w3 (S.withMu b q m') rfl q3.1; have HQ3 := Lib.hid q3; clear u3 q3))
  go_wp2_with (go_at_call 366; refine (went_no _ _ (by decide)).mono ?_; rintro e w' ⟨rfl, rfl⟩)
  exact ⟨rfl, rfl, HQ3.out.1, HF2.out.drew.trans HQ3.out.2.1⟩
set_option maxRecDepth 100000 in
set_option maxHeartbeats 1000000 in
/-- Lock, of a mutex that nobody gets any more. -/
theorem lock_lost (w : World) (S : KS) {B : KB} (hB : S.B = B) (h : KW w S) (p : Nat) (t : Th) (hp : p < 16) (ht : S.th p = some t) (hpol : t.pol ≠ 2) (h2 : t.r 2 = 16) {b q g : Nat} {m : Mx.Mu} (H : HasMu S b q g m) 
    (L : ∀ W, Mx.MuW W b q g m → Calls Tryz.prog 470 #[.pointer (some ⟨b, 0, none⟩), .int .i64 p, .int .i64 t.eff, .int .i64 t.base] W fun e w' => e = .returned (.tuple #[.bool false, .int .i64 131]) ∧ Below W.heap.size W w') :
    Calls Tryz.prog 365 #[.pointer (some ⟨B.kb, 0, none⟩), .pointer (some ⟨t.b, 0, none⟩), .int .i64 13, .agg #[.bool false, .int .i64 0, .int .i64 0]] w fun e w' => e = .panicked [{ v := .iface 134 (.int .i64 131), recovered := false }] ∧ KW w' S ∧ Fr S S w w' := by
  subst hB
  have kb : KW (w.alloc (.cells #[.bool false, .int .i64 0, .int .i64 0] 465)) S := h.reads ((Below.refl _ w).alloc (Nat.le_refl _) _)
  have FC := thCells hp ht h2
  obtain ⟨c0, c1, c2⟩ := FC _ S rfl kb
  have A := mutex_c _ S rfl kb H
  have CY := fun W (hW : KW W S) => L W (H.w hW)
  have PR := fun W (hW : KW W S) => prio_c W p t (hW.getTh hp ht) hpol
  have HPR := Lib.hid PR
  have HCY := Lib.hid CY
  have HH := Lib.hid H
  have HFC := Lib.hid FC
  have HKB := Lib.hid kb
  have HFB := Lib.hid (Fr.reads S ((Below.refl w.heap.size w).alloc (Nat.le_refl _) (.cells #[.bool false, .int .i64 0, .int .i64 0] 465)))
  clear h H CY FC kb h2 L PR
  go_enter Tryz.func365, Tryz.ntmps365
  go_upto_region 2 with (go_at_call 362; refine A.mono ?_; rintro e w2 ⟨rfl, b2⟩; have HK2 := Lib.hid (HKB.out.reads b2); have HF2 := Lib.hid (HFB.out.trans (Fr.reads S b2)); clear b2 A)
  obtain ⟨d0, d1, d2⟩ := HFC.out w2 S rfl HK2.out
  have HKD : RowKit.Hid (KW w2.drew S) := Lib.hid (HK2.out.keeps (Nat.le_refl _) (fun _ _ _ => rfl))
  clear c0 c1 c2
  go_region_held3 (fun W' => W'.cell? ⟨t.b, 0, none⟩ = some (.int .i64 p) ∧ W'.cell? ⟨t.b, 17, none⟩ = some (.int .i64 t.eff)) (first | exact ⟨d1, d2⟩ | exact ⟨by assumption, by assumption⟩) (first
    | (go_at_call 49; refine (HPR.out _ HKD.out).mono ?_; rintro e w' ⟨rfl, rfl⟩)
    | (go_at_call 470; refine (HCY.out _ HKD.out).mono ?_; rintro e w3 ⟨rfl, b3⟩; have k3 := HKD.out.reads b3; obtain ⟨i0, i1, i2⟩ := HFC.out w3 S rfl k3; have HK3 := Lib.hid k3; have HB3 := Lib.hid b3; clear b3 k3))
  go_wp2_with (go_at_call 366; refine (went_no _ _ (by decide)).mono ?_; rintro e w' ⟨rfl, rfl⟩)
  exact ⟨rfl, rfl, HK3.out, HF2.out.drew.trans (Fr.reads S HB3.out)⟩
theorem callLock_any (w : World) {kb tb : Nat} {R : Ending → World → Prop} (A : Calls Tryz.prog 365 #[.pointer (some ⟨kb, 0, none⟩), .pointer (some ⟨tb, 0, none⟩), .int .i64 13, .agg #[.bool false, .int .i64 0, .int .i64 0]] w fun e w' => e = .returned (.int .i64 0) ∧ R e w') :
    Calls Tryz.prog 220 #[.pointer (some ⟨kb, 0, none⟩), .pointer (some ⟨tb, 0, none⟩)] w fun e w' => e = .returned (.int .i64 0) ∧ R (.returned (.int .i64 0)) w' := by
  go_enter Tryz.func220, Tryz.ntmps220
  go_wp2_with (go_at_call 365; refine A.mono ?_; rintro e w2 ⟨rfl, r2⟩; have HR := Lib.hid r2; clear r2 A)
  go_ret
  exact ⟨rfl, HR.out⟩
theorem callLock_dies (w : World) {kb tb : Nat} {x : Int} {R : World → Prop} (A : Calls Tryz.prog 365 #[.pointer (some ⟨kb, 0, none⟩), .pointer (some ⟨tb, 0, none⟩), .int .i64 13, .agg #[.bool false, .int .i64 0, .int .i64 0]] w fun e w' => e = .panicked [{ v := .iface 134 (.int .i64 x), recovered := false }] ∧ R w') :
    Calls Tryz.prog 220 #[.pointer (some ⟨kb, 0, none⟩), .pointer (some ⟨tb, 0, none⟩)] w fun e w' => e = .panicked [{ v := .iface 134 (.int .i64 x), recovered := false }] ∧ R w' := by
  go_enter Tryz.func220, Tryz.ntmps220
  go_wp2_with (go_at_call 365; refine A.mono ?_; rintro e w2 ⟨rfl, r2⟩; have HR := Lib.hid r2; clear r2 A)
  exact ⟨rfl, rfl, HR.out⟩
end Go.Proofs.YtagmlijhgncklaaGreatDoor.Ker
namespace Go.Proofs.YtagmlijhgncklaaGreatDoor.Mx
open Go.RowKit Go.Proofs.YtagmlijhgncklaaGreatDoor

theorem newW_c (w : World) : Calls Tryz.prog 493 #[] w fun e w' => e = .returned (.pointer (some ⟨w.heap.size + 1, 0, none⟩)) ∧ w' = (w.alloc (.map #[] 0)).alloc (.cells #[.map (some w.heap.size), .int .i64 0] 436) := by
  have hmm : ∀ w : World, (Instr.makeMap 434 none).run Tryz.prog w = .ok (.map (some w.heap.size)) (w.alloc (.map #[] 0)) := fun _ => rfl
  go_enter Tryz.func493, Tryz.ntmps493
  go_wp2
  go_ret
  exact ⟨rfl, rfl⟩
theorem new_c (w : World) : Calls Tryz.prog 359 #[.int .i64 0, .int .i64 0, .int .i64 0, .bool true] w fun e w' => e = .returned (.tuple #[.pointer (some ⟨w.heap.size + 1 + 1, 0, none⟩), .int .i64 0]) ∧ w' = ((w.alloc (.map #[] 0)).alloc (.cells #[.map (some w.heap.size), .int .i64 0] 436)).alloc (.cells #[.int .i64 0, .int .i64 0, .int .i64 0, .bool true, .int .i64 (-1), .int .i64 0, .int .i64 0, .pointer (some ⟨w.heap.size + 1, 0, none⟩)] 379) := by
  go_enter Tryz.func359, Tryz.ntmps359
  go_wp2_with (go_at_call 493; refine (newW_c _).mono ?_; rintro e w' ⟨rfl, rfl⟩)
  go_ret2
  simp
theorem small_c (w : World) (n : Int) (h0 : 0 ≤ n) (h1 : n ≤ 1000) : Calls Tryz.prog 360 #[.int .i64 n] w fun e w' => e = .returned (.int .i64 n) ∧ w = w' := by
  go_enter Tryz.func360, Tryz.ntmps360
  go_wp2
  go_ret
  exact ⟨rfl, rfl⟩
end Go.Proofs.YtagmlijhgncklaaGreatDoor.Mx
namespace Go.Proofs.YtagmlijhgncklaaGreatDoor.Ker
open Go.RowKit Go.Proofs.YtagmlijhgncklaaGreatDoor

/-- The kernel with a robust mutex. -/
def KS.mu3 (S : KS) (g : Nat) : KS := ((S.mark 4 g (.map #[] 0)).mark 3 (g + 1) (.cells #[.map (some g), .int .i64 0] 436 (0, 0))).mark 2 (g + 1 + 1) (Mx.muO ⟨-1, 0, 0⟩ (g + 1))
def KS.mued (S : KS) (g : Nat) : KS := { S.mu3 g with muT := muT4, muL := put S.muL 0 (some ⟨g + 1 + 1, 0, none⟩) }
theorem mark_at (S : KS) (k b : Nat) (o : Obj) : (S.mark k b o).ext k = some (b, o) := put_self S.ext k _
theorem mark_ne (S : KS) {i : Nat} (k b : Nat) (o : Obj) (h : i ≠ k) : (S.mark k b o).ext i = S.ext i := put_ne S.ext _ h
theorem HasMu.new (S : KS) (g : Nat) : HasMu (S.mued g) (g + 1 + 1) (g + 1) g ⟨-1, 0, 0⟩ := by
  obtain ⟨o4, h4⟩ : ∃ o : Obj, o = .map #[] 0 := ⟨_, rfl⟩
  obtain ⟨o3, h3⟩ : ∃ o : Obj, o = .cells #[.map (some g), .int .i64 0] 436 (0, 0) := ⟨_, rfl⟩
  obtain ⟨o2, h2⟩ : ∃ o : Obj, o = Mx.muO ⟨-1, 0, 0⟩ (g + 1) := ⟨_, rfl⟩
  have e : (S.mued g).ext = (((S.mark 4 g o4).mark 3 (g + 1) o3).mark 2 (g + 1 + 1) o2).ext := by rw [h4, h3, h2]; rfl
  have q2 := mark_at ((S.mark 4 g o4).mark 3 (g + 1) o3) 2 (g + 1 + 1) o2
  have q3 := (mark_ne ((S.mark 4 g o4).mark 3 (g + 1) o3) (i := 3) 2 (g + 1 + 1) o2 (by decide)).trans (mark_at (S.mark 4 g o4) 3 (g + 1) o3)
  have q4 := (mark_ne ((S.mark 4 g o4).mark 3 (g + 1) o3) (i := 4) 2 (g + 1 + 1) o2 (by decide)).trans ((mark_ne (S.mark 4 g o4) (i := 4) 3 (g + 1) o3 (by decide)).trans (mark_at S 4 g o4))
  rw [← e] at q2 q3 q4
  rw [h2] at q2
  rw [h3] at q3
  rw [h4] at q4
  exact ⟨q2, ⟨0, q3⟩, ⟨0, q4⟩, rfl, put_self S.muL 0 _⟩
theorem KW.mu3 {w w2 : World} {S : KS} (h : KW w S) (b : Below w.heap.size w w2) (x0 : w2.heap[w.heap.size]? = some (.map #[] 0)) (x1 : w2.heap[w.heap.size + 1]? = some (.cells #[.map (some w.heap.size), .int .i64 0] 436 (0, 0))) (x2 : w2.heap[w.heap.size + 1 + 1]? = some (Mx.muO ⟨-1, 0, 0⟩ (w.heap.size + 1))) :
    KW w2 (S.mu3 w.heap.size) ∧ Fr S (S.mu3 w.heap.size) w w2 := by
  have q1 := (h.reads b).mark (Fr.reads S b) 4 x0 (h.fresh _ (Nat.le_refl _)) (Nat.le_refl _)
  have q2 := q1.1.mark q1.2 3 x1 ((put_ne _ _ (by omega)).trans (h.fresh _ (by omega))) (by omega)
  exact q2.1.mark q2.2 2 x2 ((put_ne _ _ (by omega)).trans ((put_ne _ _ (by omega)).trans (h.fresh _ (by omega)))) (by omega)
set_option maxRecDepth 100000 in
set_option maxHeartbeats 1000000 in
theorem callMutex_c (w : World) (S : KS) {B : KB} (hB : S.B = B) (h : KW w S) (p : Nat) (t : Th) (hp : p < 16) (ht : S.th p = some t) (h2 : t.r 2 = 0) (h3 : t.r 3 = 0) (h4 : t.r 4 = 0) (h5 : t.r 5 = 1) (hT : S.muT = muT0) :
    Calls Tryz.prog 218 #[.pointer (some ⟨B.kb, 0, none⟩), .pointer (some ⟨t.b, 0, none⟩)] w fun e w' => ∃ g, e = .returned (.int .i64 16) ∧ KW w' (S.mued g) ∧ Fr S (S.mued g) w w' := by
  subst hB
  have x := h.getTh hp ht
  have c6 := tc6 x
  have c7 := tc7 x
  have c8 := tc8 x
  have c9 := tc9 x
  rw [h2] at c6
  rw [h3] at c7
  rw [h4] at c8
  rw [h5] at c9
  have HK := Lib.hid h
  have HT := Lib.hid ht
  have HMT := Lib.hid hT
  have FC : ∀ V, KW V S → V.cell? ⟨t.b, 6, none⟩ = some (.int .i64 0) ∧ V.cell? ⟨t.b, 7, none⟩ = some (.int .i64 0) ∧ V.cell? ⟨t.b, 8, none⟩ = some (.int .i64 0) ∧ V.cell? ⟨t.b, 9, none⟩ = some (.int .i64 1) := fun V k => by
    have x := k.getTh hp ht
    have a := tc6 x
    have b := tc7 x
    have c := tc8 x
    have d := tc9 x
    rw [h2] at a
    rw [h3] at b
    rw [h4] at c
    rw [h5] at d
    exact ⟨a, b, c, d⟩
  have HFC := Lib.hid FC
  have kd : KW w.drew S := h.keeps (Nat.le_refl _) (fun _ _ _ => rfl)
  have HKD := Lib.hid kd
  clear h x ht hT FC h2 h3 h4 h5 kd
  go_enter Tryz.func218, Tryz.ntmps218
  go_upto_region 2 with (go_at_call 350; refine (in_c _ _ _ _ (by decide) (by decide)).mono ?_; rintro e w' ⟨rfl, rfl⟩)
  have i0 : (0 : Int) ≤ 0 := by omega
  have i1 : (0 : Int) ≤ 1000 := by omega
  go_region_held3 (fun W' => W'.cell? ⟨t.b, 6, none⟩ = some (.int .i64 0) ∧ W'.cell? ⟨t.b, 7, none⟩ = some (.int .i64 0) ∧ W'.cell? ⟨t.b, 8, none⟩ = some (.int .i64 0) ∧ W'.cell? ⟨t.b, 9, none⟩ = some (.int .i64 1)) (first | exact ⟨c6, c7, c8, c9⟩ | exact ⟨by assumption, by assumption, by assumption, by assumption⟩) (first
    | (go_at_call 360; refine (Mx.small_c _ _ i0 i1).mono ?_; rintro e w' ⟨rfl, rfl⟩)
    | (go_at_call 359; refine (Mx.new_c _).mono ?_; rintro e w2 ⟨rfl, hw2⟩
       have b2 : Below w.heap.size w w2 := (by rw [hw2]; exact (((Below.refl _ w).drew.alloc (Nat.le_refl _) _).alloc (by simp) _).alloc (by simp; omega) _)
       obtain ⟨g6, g7, g8, g9⟩ := HFC.out w2 (HK.out.reads b2)
       have HW2 := Lib.hid hw2
       have HB2 := Lib.hid b2
       clear hw2 b2))
  have x0 : w2.heap[w.heap.size]? = some (.map #[] 0) := by rw [HW2.out]; exact below_alloc_has (below_alloc_has (heap_alloc_new w.drew _))
  have x1 : w2.heap[w.heap.size + 1]? = some (.cells #[.map (some w.heap.size), .int .i64 0] 436 (0, 0)) := by
    rw [HW2.out]
    refine below_alloc_has ?_
    have q := heap_alloc_new (w.drew.alloc (.map #[] 0)) (.cells #[.map (some w.drew.heap.size), .int .i64 0] 436)
    rw [World.size_alloc] at q
    exact q
  have x2 : w2.heap[w.heap.size + 1 + 1]? = some (Mx.muO ⟨-1, 0, 0⟩ (w.heap.size + 1)) := by
    rw [HW2.out]
    have q := heap_alloc_new ((w.drew.alloc (.map #[] 0)).alloc (.cells #[.map (some w.drew.heap.size), .int .i64 0] 436)) (.cells #[.int .i64 0, .int .i64 0, .int .i64 0, .bool true, .int .i64 (-1), .int .i64 0, .int .i64 0, .pointer (some ⟨w.drew.heap.size + 1, 0, none⟩)] 379)
    simp only [World.size_alloc] at q
    exact q
  obtain ⟨k3, f3⟩ := HK.out.mu3 HB2.out x0 x1 x2
  have c63 := kc63 (B := S.B) k3 rfl
  have AD := muAdd_c w2 (S.mu3 w.heap.size) (B := S.B) rfl k3 HMT.out (w.heap.size + 1 + 1)
  have HF3 := Lib.hid f3
  clear x0 x1 x2 k3 f3 c6 c7 c8 c9 g6 g7 g8 g9
  go_wp2_with (first
    | (go_at_call 146; refine (must_c _ _).mono ?_; rintro e w' ⟨rfl, rfl⟩)
    | (go_at_call 361; refine AD.mono ?_; rintro e w4 ⟨rfl, k4, f4⟩; have HK4 := Lib.hid k4; have HF4 := Lib.hid (HF3.out.trans f4); clear k4 f4 AD))
  refine bodyPost_ret (v := .int .i64 16) (results_tmp (show Tryz.f218.results = #[.tmp 4] from rfl) _ _ _) rfl ?_
  exact ⟨w.heap.size, rfl, HK4.out, HF4.out⟩
end Go.Proofs.YtagmlijhgncklaaGreatDoor.Ker
namespace Go.Proofs.YtagmlijhgncklaaGreatDoor.Ker
open Go.RowKit Go.Proofs.YtagmlijhgncklaaGreatDoor

attribute [local go_sem] Oper.semAt_some
attribute [local go_sem] Tab.wide_fn Tab.wide_round_fn

def encM (_ : Unit) : Array Value := #[.int .i64 0, .int .i64 16]
theorem mu4_no (j : Nat) (h : 1 ≤ j) : Tab.tk muT4 j = false := by
  match j, h with
  | 1, _ => rfl
  | 2, _ => rfl
  | 3, _ => rfl
  | n + 4, _ => rfl
/-- The sequence of the mutexes: the one. -/
theorem one_stops (n : Nat) (hn : 1 ≤ n) (tb Bn : Nat) (w : World) (h : w.heap[tb]? = some (Tab.tabO muT4)) (hB : w.heap[Bn]? = some (.cells #[.pointer (some ⟨tb, 0, none⟩)] 70 (0, 0))) :
    SeqStopsK Fence.wide n Tryz.prog 178 #[.pointer (some ⟨Bn, 0, none⟩)] encM (Tab.Keep2 tb Bn) (fun xs => xs = [()]) (fun pre => pre = [()]) 1 w := by
  intro l J Jx W hW hJ hJx hY h0
  have hT := below_has hW h
  have hb := below_has hW hB
  refine callsIn_of_wp Tryz.func178 rfl trivial ?_ rfl
  simp only [Tryz.ntmps178, List.size_toArray, List.length_cons, List.length_nil, Nat.reduceAdd, Nat.reduceSub, Array.replicate_succ, Array.replicate_zero, List.push_toArray, List.append_toArray, List.nil_append, List.cons_append]
  have cb : W.cell? ⟨Bn, 0, none⟩ = some (.pointer (some ⟨tb, 0, none⟩)) := has_cell 0 hb rfl
  have PL := Tab.places_c W tb muT4 hT (by decide) (by decide)
  have PL : Calls Tryz.prog 179 #[.pointer (some ⟨tb, 0, none⟩)] W fun e w' => e = .returned (.int .i64 4) ∧ W = w' := PL
  gi_wp2_with (gi_at_call 179; refine (callsIn_wide.2 PL).mono ?_; rintro e w' ⟨rfl, rfl⟩)
  gi_loopw [8] (fun i wr => ∃ j : Nat, i = .int .i64 j ∧ j ≤ 4 ∧ J (if j = 0 then [] else [()]) wr ∧ wr.heap[tb]? = some (Tab.tabO muT4) ∧ wr.heap[Bn]? = some (.cells #[.pointer (some ⟨tb, 0, none⟩)] 70 (0, 0))) (fun i _ => 4 - (intOf i).toNat)
  case atStart => exact ⟨0, rfl, by omega, by rw [if_pos rfl]; exact h0, hT, hb⟩
  case round =>
    obtain ⟨j, rfl, hj, hJj, hTj, hbj⟩ := hrel
    have cbj : wr.cell? ⟨Bn, 0, none⟩ = some (.pointer (some ⟨tb, 0, none⟩)) := has_cell 0 hbj rfl
    clear hT hb cb PL
    by_cases hlt : j < 4
    · by_cases hz : j = 0
      · subst hz
        rw [if_pos rfl] at hJj
        have OF : Calls Tryz.prog 108 #[.pointer (some ⟨tb, 0, none⟩), .int .i64 (0 : Nat)] wr fun e w' => e = .returned (.tuple #[.int .i64 16, .bool true]) ∧ wr = w' := Tab.of_c wr tb muT4 ((0 : Nat) : Int) hTj (by decide) (by decide) (genOk_up mu4_ok) (show Tab.ofF muT4 ((0 : Nat) : Int) = (16, true) from rfl)
        obtain ⟨fn, tmps, assign, body, hy, hR⟩ := hY [] () wr hJj (by decide)
        dsimp only [encM] at hy
        gi_wp2_with (gi_at_call 108; refine (callsIn_wide.2 OF).mono ?_; rintro e w' ⟨rfl, rfl⟩)
        refine hR.mono ?_
        rintro e W3 (⟨rfl, hJ3, hk3⟩ | ⟨rfl, hJx3⟩)
        · have hT3 := hk3.1.trans hTj
          have hb3 := hk3.2.trans hbj
          gi_wp2
          go_roundw
          case rel => exact ⟨1, rfl, by omega, by rw [if_neg (by decide)]; exact hJ3, hT3, hb3⟩
          case measure => simp [intOf]
        · gi_wp2
          refine bodyPost_ret (results_none rfl _ _ _) rfl ?_
          exact ⟨⟨_, rfl⟩, .inr ⟨[()], rfl, hJx3⟩⟩
      · have hof : Tab.ofF muT4 (j : Int) = (0, false) := by simp [Tab.ofF, mu4_no j (by omega)]
        have OF := Tab.of_c wr tb muT4 (j : Int) hTj (by decide) (by decide) (genOk_up mu4_ok) hof
        rw [if_neg hz] at hJj
        have HZ := Lib.hid hz
        clear hof hz
        gi_wp2_with (gi_at_call 108; refine (callsIn_wide.2 OF).mono ?_; rintro e w' ⟨rfl, rfl⟩)
        go_roundw
        case rel => exact ⟨j + 1, by go_num, by omega, by rw [if_neg (by omega)]; exact hJj, hTj, hbj⟩
        case measure => simp [intOf]; omega
    · obtain rfl : j = 4 := by omega
      gi_wp2
      go_end0
      exact ⟨⟨_, rfl⟩, .inl ⟨[()], rfl, hJj⟩⟩
end Go.Proofs.YtagmlijhgncklaaGreatDoor.Ker
namespace Go.Proofs.YtagmlijhgncklaaGreatDoor.Ker
open Go.RowKit Go.Proofs.YtagmlijhgncklaaGreatDoor

attribute [local go_sem] Oper.semAt_some
attribute [local go_sem] Tab.wide_fn Tab.wide_round_fn

theorem keeps_below {w w' : World} (b : Below w.heap.size w w') : KeepsOthers w w' := ⟨b.size, fun k o hk _ => (b.block k (has_lt hk)).trans hk⟩
theorem GrE.reads {w W W' : World} {S : KS} {g cb : Nat} {G : Inh.Gs} (h : GrE w W S g cb G) (k : Below W.heap.size W W') : GrE w W' S g cb G :=
  ⟨h.below.trans (k.mono h.below.size), below_has k h.box, below_has k h.g, below_has k h.cs⟩
set_option maxRecDepth 100000 in
set_option maxHeartbeats 1000000 in
theorem graphM_c (w : World) (S : KS) {B : KB} (hB : S.B = B) (h : KW w S) (P : KP S) (f : Nat → Int) (hf : PrioOk S f) (hr : ∀ p t, p < 16 → S.th p = some t → t.en = false → 0 ≤ f p ∧ f p ≤ 31) (hk : ∀ p t, S.th p = some t → t.wt.kind ≠ 2) {mb mq mg : Nat} {mx : Mx.Mu} (HM0 : HasMu S mb mq mg mx) :
    Calls Tryz.prog 69 #[.pointer (some ⟨B.kb, 0, none⟩)] w fun e w' => ∃ g, e = .returned (.pointer (some ⟨g, 0, none⟩)) ∧ GrW w w' S f g 16 := by
  subst hB
  have HK := Lib.hid h
  have hbx := below_alloc_has (o := .cells #[.pointer (some ⟨S.B.kb, 0, none⟩)] 36) (h.has 0 rfl)
  have n1 := P.n1
  have n16 := P.n16
  refine Tab.calls_of_marks 4 Tryz.func69 rfl ?_
  simp only [Tryz.ntmps69, List.size_toArray, List.length_cons, List.length_nil, Nat.reduceAdd, Nat.reduceSub, Array.replicate_succ, Array.replicate_zero, List.push_toArray, List.append_toArray, List.nil_append, List.cons_append]
  have k0 := h.reads ((Below.refl w.heap.size w).alloc (Nat.le_refl _) (.cells #[.pointer (some ⟨S.B.kb, 0, none⟩)] 36))
  have cj := kc0 (B := S.B) k0 rfl
  rw [P.n] at cj
  have c00 : (w.alloc (.cells #[.pointer (some ⟨S.B.kb, 0, none⟩)] 36)).cell? ⟨w.heap.size, 0, none⟩ = some (.pointer (some ⟨S.B.kb, 0, none⟩)) := has_cell 0 (heap_alloc_new w _) rfl
  have HP := Lib.hid P
  clear h P hbx
  refine wpIn_wide.2 ?_
  go_wp2_with (first
    | (go_at_call 111; refine (Inh.new_c _ S.B.n n1 n16).mono ?_; rintro e w1 ⟨rfl, x1, b1, z1⟩; have k1 := k0.reads b1; have bx := below_has b1 (heap_alloc_new w (.cells #[.pointer (some ⟨S.B.kb, 0, none⟩)] 36)); have c0 : w1.cell? ⟨w.heap.size, 0, none⟩ = some (.pointer (some ⟨S.B.kb, 0, none⟩)) := has_cell 0 bx rfl; have hr72 := k1.tpr; have HB1 := Lib.hid (((Below.refl w.heap.size w).alloc (Nat.le_refl _) (.cells #[.pointer (some ⟨S.B.kb, 0, none⟩)] 36)).trans (b1.mono (by simp))); clear b1 cj k0)
    | (refine wpList_load_mid rfl 72 (.tmp 27) rfl S.B.kb 10 rfl S.tps _ hr72 Tryz.underlying72 rfl (by kernel_rfl) ?_))
  rw [World.size_alloc] at x1
  clear hr72 c0 c00
  have H1 : GrW w w1 S f (w.heap.size + 1) 0 := ⟨HB1.out, bx, Inh.newG S.B.n, x1, Inh.newG_ok n1 n16, rfl, fun p t hp => absurd hp (Nat.not_lt_zero _), rfl, rfl⟩
  clear x1 z1 k1 bx HB1
  have hsz : w.heap.size + 1 < w1.heap.size := by obtain ⟨G, hG, _⟩ := H1.g; exact has_lt hG
  go_loopw [29] (fun i wr => ∃ j : Nat, i = .int .i64 j ∧ j ≤ 16 ∧ GrW w wr S f (w.heap.size + 1) j) (fun i _ => 16 - (intOf i).toNat)
  case atStart => exact ⟨0, rfl, by omega, H1⟩
  case round =>
    clear H1
    obtain ⟨j, rfl, hj, GW⟩ := hrel
    by_cases hlt : j < 16
    · have hix := run_index_72 S.tps j _ rfl hlt (S.tps_get hlt) wr
      have htp := HP.out.tp j hlt
      cases hth : S.th j with
      | none =>
        rw [hth, Option.map_none] at htp
        rw [htp] at hix
        have HG := Lib.hid GW
        have HTH := Lib.hid hth
        clear htp hth GW
        go_wp2_with fail
        go_roundw
        case rel => exact ⟨j + 1, by go_num, by omega, HG.out.below, HG.out.box, by
          obtain ⟨G, g1, g2, g3, g4, g5⟩ := HG.out.g
          exact ⟨G, g1, g2, g3, fun p t hp hp16 ht he => by
            by_cases e : p = j
            · subst e; rw [HTH.out] at ht; cases ht
            · exact g4 p t (by omega) hp16 ht he, g5⟩⟩
        case measure => simp [intOf]; omega
      | some t =>
        rw [hth, Option.map_some] at htp
        rw [htp] at hix
        have hT : wr.heap[t.b]? = some (thO j t) := (HK.out.reads GW.below).getTh hlt hth
        have c20 := tc20 hT
        cases hen : t.en with
        | true =>
          rw [hen] at c20
          have HG := Lib.hid GW
          have HTH := Lib.hid hth
          have HEN := Lib.hid hen
          clear htp hth GW hen hT
          go_wp2_with fail
          go_roundw
          case rel => exact ⟨j + 1, by go_num, by omega, HG.out.below, HG.out.box, by
            obtain ⟨G, g1, g2, g3, g4, g5⟩ := HG.out.g
            exact ⟨G, g1, g2, g3, fun p x hp hp16 hx he => by
              by_cases e : p = j
              · subst e; rw [HTH.out] at hx; cases hx; rw [HEN.out] at he; cases he
              · exact g4 p x (by omega) hp16 hx he, g5⟩⟩
          case measure => simp [intOf]; omega
        | false =>
          rw [hen] at c20
          obtain ⟨G, g1, g2, g3, g4, g5, g6⟩ := GW.g
          have A := hf wr j t (HK.out.reads GW.below) hlt hth hen
          have jn := HP.out.thn j t hth
          have hfr := hr j t hlt hth hen
          have Bc := Inh.base_c wr (w.heap.size + 1) G j (f j) g1 g2 (by rw [g3]; exact jn) hfr
          have d : (t.wt.kind == 2) = false := by simpa using hk j t hth
          have j0 : (0 : Int) ≤ j := by omega
          have j1 : (j : Int) < 16 := by omega
          have HG := Lib.hid GW
          have HTH := Lib.hid hth
          have HJN := Lib.hid jn
          have HFR := Lib.hid hfr
          have HG2 := Lib.hid g2
          have HG3 := Lib.hid g3
          have HG4 := Lib.hid g4
          have HG5 := Lib.hid g5
          have HG6 := Lib.hid g6
          clear htp hth GW hen hT jn hfr g1 g2 g3 g4 g5 g6
          go_wp2_with (first
            | (go_at_call 49; refine A.mono ?_; rintro e w' ⟨rfl, rfl⟩)
            | (go_at_call 112; refine Bc.mono ?_; rintro e w2 ⟨rfl, u2⟩; have B2 := HG.out.below.trans (u2.below (B := w.heap.size) (by omega) HG.out.below.size); have c23 := tc23 ((HK.out.reads B2).getTh hlt HTH.out); have HU := Lib.hid u2; have HB2 := Lib.hid B2; clear u2 B2))
          go_roundw
          case rel =>
            refine ⟨j + 1, by go_num, by omega, HB2.out, HU.out.other HG.out.box (by omega), { G with ba := Inh.upd G.ba j (f j) }, HU.out.1, ?_, HG3.out, fun p x hp hp16 hx he => ?_, HG5.out, HG6.out⟩
            · have k := HG2.out
              exact ⟨k.n1, k.n2, fun i hi => by
                show 0 ≤ (if i = j then f j else G.ba i) ∧ (if i = j then f j else G.ba i) ≤ 31
                split
                · exact HFR.out
                · exact k.ba i hi, k.ce, k.wt, fun i h1 h2 => by
                have q := k.out i h1 h2
                have hij : i ≠ j := by
                  have h1' : G.n ≤ i := h1
                  rw [HG3.out] at h1'
                  have := HJN.out
                  omega
                exact ⟨by show (if i = j then f j else G.ba i) = 0; rw [if_neg hij]; exact q.1, q.2⟩⟩
            · show (if p = j then f j else G.ba p) = f p
              by_cases e : p = j
              · rw [if_pos e, e]
              · rw [if_neg e]
                exact HG4.out p x (by omega) hp16 hx he
          case measure => simp [intOf]; omega
    · obtain rfl : j = 16 := by omega
      obtain ⟨G, g1, g2, g3, g4, g5, g6⟩ := GW.g
      have hbx := GW.box
      have B1 := GW.below
      have szr : w.heap.size + 1 < wr.heap.size := has_lt g1
      go_upto_region 13 with fail
      refine world_wp (fun W => GrE w W S (w.heap.size + 1) wr.heap.size G ∧ wr.heap.size < W.heap.size) ⟨⟨B1.alloc B1.size _, below_alloc_has hbx, below_alloc_has g1, heap_alloc_new wr _⟩, by simp⟩ ?_
      rintro wa ⟨GE, sza⟩
      obtain ⟨cb, hcb⟩ : ∃ cb, cb = wr.heap.size := ⟨_, rfl⟩
      rw [← hcb] at GE sza szr ⊢
      clear hcb
      have ka := HK.out.reads GE.below
      have ca : wa.cell? ⟨w.heap.size, 0, none⟩ = some (.pointer (some ⟨S.B.kb, 0, none⟩)) := has_cell 0 GE.box rfl
      have c63 := kc63 (B := S.B) ka rfl
      have cmt : wa.cell? ⟨S.B.mu, 0, none⟩ = some (.pointer (some ⟨S.B.mub, 0, none⟩)) := has_cell 0 (ka.has 9 rfl) rfl
      have HE := Lib.hid GE
      have HG2 := Lib.hid g2
      have HG3 := Lib.hid g3
      have HG4 := Lib.hid g4
      have HG5 := Lib.hid g5
      have HG6 := Lib.hid g6
      have HM1 := Lib.hid HM0
      clear GE GW g1 g2 g3 g4 g5 g6 hbx B1 hr hk hf hlt hj HM0
      go_wp2_with (go_at_call 109; refine (Tab.all_c _ _).mono ?_; rintro e w6 ⟨rfl, x6, b6⟩; have k6 := ka.reads b6; have G6 : GrE w w6 S (w.heap.size + 1) cb G := ⟨HE.out.below.trans (b6.mono HE.out.below.size), below_has b6 HE.out.box, below_has b6 HE.out.g, below_has b6 HE.out.cs⟩; clear ka ca c63 cmt b6)
      have sz6 : wa.heap.size < w6.heap.size := has_lt x6
      refine (wpIn_wide (n := 4)).1 ?_
      refine named ?_
      intro fa hfa
      refine wpIn_rangeFunc_ownF rfl (by decide) (gf := 178) (lb := #[.pointer (some ⟨wa.heap.size, 0, none⟩)]) (by rw [hfa]; rfl) trivial Tab.enters178
        (one_stops 3 (by decide) S.B.mub wa.heap.size w6 (by have q := k6.has 10 rfl; rw [HM1.out.T] at q; exact q) x6) Tab.keep2_t (Tab.keep2_b (has_lt (k6.has 10 rfl)) (by omega)) (Below.refl _ _) (fun _ => rfl)
        (fun (_ : List Unit) W => GrE w W S (w.heap.size + 1) cb G ∧ wa.heap.size < W.heap.size) (fun _ _ _ => False)
        (fun _ X Y row hs hg hr => ⟨⟨ownFrom_below (β := Unit) (n₀ := w.heap.size) (B := w6.heap.size) (w₀ := w) (Nat.le_refl _) (by omega) () X Y row hs.1.below hg hr, Tab.own_has (β := Unit) (B := w6.heap.size) (by omega) (fun _ => _) () X Y row hs.1.box hg hr, Tab.own_has (β := Unit) (B := w6.heap.size) (by omega) (fun _ => _) () X Y row hs.1.g hg hr, Tab.own_has (β := Unit) (B := w6.heap.size) (by omega) (fun _ => _) () X Y row hs.1.cs hg hr⟩, by have q := hs.2; have r := hg.size; omega⟩) (fun _ => Tab.own_pure _) ⟨G6, sz6⟩
        (fun x => { tmps := ((fa.tmps.setIfInBounds 83 (.int .i64 0)).setIfInBounds 84 (.int .i64 16)).setIfInBounds 11 (.int .i64 16), defers := [] })
        ?assign ?body ?done ?stop
      case assign =>
        intro l x W K hK
        subst hfa
        simp only [encM, Tab.zip2, Tab.fold2, List.setIfInBounds_toArray, List.set_cons_succ, List.set_cons_zero] at hK ⊢
        gi_wp2
        exact hK
      case body =>
        intro l pre x W hS hlen
        subst hfa
        have hSz := hS.2
        have hS := hS.1
        have kW := HK.out.reads hS.below
        have cW : W.cell? ⟨w.heap.size, 0, none⟩ = some (.pointer (some ⟨S.B.kb, 0, none⟩)) := has_cell 0 hS.box rfl
        have c63 := kc63 (B := S.B) kW rfl
        have FM := muFind_c W S rfl kW HM1.out
        have HS := Lib.hid hS
        have HKW := Lib.hid kW
        clear hS kW
        simp only [List.setIfInBounds_toArray, List.set_cons_succ, List.set_cons_zero]
        gi_wp2_with (first
          | (gi_at_call 113; refine (CallsIn.inRound l (callsIn_wide.2 FM)).mono ?_; rintro e W2 ⟨rfl, b2⟩; have m2 := HM1.out.w (HKW.out.reads b2); have HB2 := Lib.hid b2; have HM2 := Lib.hid m2; clear b2 m2 FM)
          | (gi_at_call 116; refine (CallsIn.inRound l (callsIn_wide.2 (Mx.at_c _ mb mq mx HM2.out.hb))).mono ?_; rintro e W3 ⟨rfl, b3⟩; have HB3 := Lib.hid (HB2.out.trans (b3.mono HB2.out.size)); have m3 := HM1.out.w (HKW.out.reads HB3.out); have HM3 := Lib.hid m3; clear b3 m3)
          | (gi_at_call 114; refine (CallsIn.inRound l (callsIn_wide.2 (Mx.protocol_c _ mb mq mx (below_alloc_has HM3.out.hb)))).mono ?_; rintro e w' ⟨rfl, rfl⟩))
        have BF := HB3.out.alloc HB3.out.size (.cells #[.int .i64 mx.own, .int .i64 mx.cnt, .int .i64 mx.st, .int .i64 0] 296)
        exact ⟨keeps_below BF, ⟨BF.block _ (has_lt (HKW.out.has 10 rfl)), BF.block _ hSz⟩, HS.out.reads BF, by have := BF.size; omega⟩
      case stop =>
        rintro D c pre W _ _ h _
        exact h.elim
      case done =>
        rintro D ys W hD rfl hS hK
        subst hfa
        have hS := hS.1
        have kW := HK.out.reads hS.below
        have cW : W.cell? ⟨w.heap.size, 0, none⟩ = some (.pointer (some ⟨S.B.kb, 0, none⟩)) := has_cell 0 hS.box rfl
        have cj := kc0 (B := S.B) kW rfl
        rw [HP.out.n] at cj
        have HS := Lib.hid hS
        have HM := Lib.hid hK
        clear hS hK kW
        go_wp2_with fail
        clear cW cj
        go_loopw [119] (fun i wl => ∃ j : Nat, i = .int .i64 j ∧ j ≤ S.B.n ∧ GrE w wl S (w.heap.size + 1) cb G ∧ wl.heap[D]? = some (.deferred (some []))) (fun i _ => S.B.n - (intOf i).toNat)
        case atStart => exact ⟨0, rfl, by omega, HS.out, HM.out⟩
        case round =>
          obtain ⟨j, rfl, hj, E1, M1⟩ := hrel
          by_cases hlt : j < S.B.n
          · have cc : wr.cell? ⟨cb, j, none⟩ = some (.int .i64 0) := has_cell j E1.cs (by rw [List.getElem?_toArray, List.getElem?_replicate, if_pos (by omega)])
            have A := Inh.ceil_c wr (w.heap.size + 1) G j 0 E1.g HG2.out (by rw [HG3.out]; exact hlt) ⟨by omega, by omega⟩
            rw [show ({ G with ce := Inh.upd G.ce j 0 } : Inh.Gs) = G by
              have e : Inh.upd G.ce j 0 = G.ce := by
                rw [HG6.out]
                funext k
                unfold Inh.upd
                split <;> rfl
              rw [e]] at A
            have j0 : (0 : Int) ≤ j := by omega
            have j1 : (j : Int) < 16 := by omega
            have HE1 := Lib.hid E1
            have HM1 := Lib.hid M1
            clear E1 M1
            go_wp2_with (go_at_call 117; refine A.mono ?_; rintro e w2 ⟨rfl, u2⟩; have HU := Lib.hid u2; clear u2)
            go_roundw
            case rel => exact ⟨j + 1, by go_num, by omega, ⟨HE1.out.below.trans (HU.out.below (B := w.heap.size) (by omega) HE1.out.below.size), HU.out.other HE1.out.box (by omega), HU.out.1, HU.out.other HE1.out.cs (by omega)⟩, HU.out.other HM1.out (by omega)⟩
            case measure => simp [intOf]; omega
          · obtain rfl : j = S.B.n := by omega
            have HE1 := Lib.hid E1
            have HM1 := Lib.hid M1
            clear E1 M1
            go_wp2_with fail
            refine ⟨by simp, .inl ⟨_, _, rfl, run_takeDeferred HM1.out, ?_⟩⟩
            refine ⟨_, results_tmp rfl _ _ _, w.heap.size + 1, rfl, ?_⟩
            have Bm := Tab.below_mark HE1.out.below (by omega) HM1.out (.deferred none)
            exact ⟨Bm, (World.putObj_heap_other (by omega)).trans HE1.out.box, G, (World.putObj_heap_other (by omega)).trans HE1.out.g, HG2.out, HG3.out, HG4.out, HG5.out, HG6.out⟩
set_option maxRecDepth 100000 in
set_option maxHeartbeats 1000000 in
theorem settleM_c (w : World) (S : KS) {B : KB} (hB : S.B = B) (h : KW w S) (P : KP S) (f : Nat → Int) (hf : PrioOk S f) (hr : ∀ p t, p < 16 → S.th p = some t → t.en = false → 0 ≤ f p ∧ f p ≤ 31) (hk : ∀ p t, S.th p = some t → t.wt.kind ≠ 2) {mb mq mg : Nat} {mx : Mx.Mu} (HM0 : HasMu S mb mq mg mx) (he : ∀ p t, p < 16 → S.th p = some t → t.en = false → f p = t.eff) :
    Calls Tryz.prog 42 #[.pointer (some ⟨B.kb, 0, none⟩)] w fun e w' => e = .returned (.tuple #[]) ∧ Below w.heap.size w w' := by
  subst hB
  have A := graphM_c w S rfl h P f hf hr hk HM0
  have HK := Lib.hid h
  have HP := Lib.hid P
  clear h P hf hr hk HM0
  go_enter Tryz.func42, Tryz.ntmps42
  go_wp2_with fail
  go_step3
  go_wp2_with fail
  go_step3
  go_wp2_with fail
  refine wp_loop_rounds 1 ?_
  rw [rounds_succ]
  go_wp2_with (first | (go_at_call 69; refine A.mono ?_; rintro e w2 ⟨g, rfl, GW⟩; have hr72 := (HK.out.reads GW.below).tpr; have HG := Lib.hid GW; clear GW) | (refine wpList_load_mid rfl 72 (.tmp 12) rfl S.B.kb 10 rfl S.tps _ hr72 Tryz.underlying72 rfl (by kernel_rfl) ?_))
  clear hr72 A
  go_loopw [3, 14] (fun c i wr => ∃ j : Nat, c = .bool false ∧ i = .int .i64 j ∧ j ≤ 16 ∧ GrW w wr S f g 16) (fun _ i _ => 16 - (intOf i).toNat)
  case atStart => exact ⟨0, rfl, rfl, by omega, HG.out⟩
  case round =>
    clear HG
    obtain ⟨j, rfl, rfl, hj, GW⟩ := hrel
    by_cases hlt : j < 16
    · have hix := run_index_72 S.tps j _ rfl hlt (S.tps_get hlt) wr
      have htp := HP.out.tp j hlt
      have HG := Lib.hid GW
      cases hth : S.th j with
      | none =>
        rw [hth, Option.map_none] at htp
        rw [htp] at hix
        clear htp hth GW he
        go_wp2_with fail
        go_roundw
        case rel => exact ⟨j + 1, rfl, by go_num, by omega, HG.out⟩
        case measure => simp [intOf]; omega
      | some t =>
        rw [hth, Option.map_some] at htp
        rw [htp] at hix
        have hT : wr.heap[t.b]? = some (thO j t) := (HK.out.reads GW.below).getTh hlt hth
        have c20 := tc20 hT
        cases hen : t.en with
        | true =>
          rw [hen] at c20
          clear htp hth GW hen hT he
          go_wp2_with fail
          go_roundw
          case rel => exact ⟨j + 1, rfl, by go_num, by omega, HG.out⟩
          case measure => simp [intOf]; omega
        | false =>
          rw [hen] at c20
          obtain ⟨G, g1, g2, g3, g4, g5, g6⟩ := GW.g
          have jn := HP.out.thn j t hth
          have O := Inh.of_c wr g G j g1 g2 (by rw [g3]; exact jn)
          have hown : ∀ out, Inh.Least G.n G.own G.wt out → out j = t.eff := fun out hl => by
            rw [g5] at hl
            rw [least_alone hl j (by rw [g3]; exact jn)]
            show max (G.ba j) (G.ce j) = t.eff
            have q := (g2.ba j hlt).1
            rw [g6, g4 j t hlt hlt hth hen] at *
            rw [he j t hlt hth hen] at *
            exact Int.max_eq_left q
          have HO := Lib.hid hown
          have HTH := Lib.hid hth
          have j0 : (0 : Int) ≤ j := by omega
          have j1 : (j : Int) < 16 := by omega
          clear htp hth GW hen hT he g1 g2 g3 g4 g5 g6 jn hown
          go_wp2_with (go_at_call 70; refine O.mono ?_; rintro e w3 ⟨out, rfl, hl, b3⟩; have ho := HO.out out hl; rw [ho]; have c17 := tc17 ((HK.out.reads (HG.out.below.trans (b3.mono HG.out.below.size))).getTh hlt HTH.out); have HB3 := Lib.hid b3; clear hl ho b3)
          go_roundw
          case rel => exact ⟨j + 1, rfl, by go_num, by omega, HG.out.reads HB3.out⟩
          case measure => simp [intOf]; omega
    · obtain rfl : j = 16 := by omega
      have HG := Lib.hid GW
      clear GW he
      go_wp2_with fail
      rw [Exit.noGoto_normal]
      exact bodyPost_end (results_none rfl _ _ _) rfl ⟨rfl, HG.out.below⟩
end Go.Proofs.YtagmlijhgncklaaGreatDoor.Ker
