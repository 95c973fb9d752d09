/-
  How a kernel with one mutex stands between events, and what a step, a note, a making, a join make of it. Conditions: those said.
  What a call on the mutex makes of how a kernel stands; what a making and a join make of it. Conditions: those said.
  What a making, a join, an end make of how a kernel with one mutex stands. Conditions: those said.
  The calls on a mutex, ready for use; a sleep; the ticks. Conditions: those said.
  What a tick makes of how a kernel with one mutex stands: a thread of no turn runs; nobody runs; nobody runs and the main thread wakes. Conditions: those said.
  The first steps until a mutex is made; runs and ticks in a row (the function 18). Conditions: those said.
  The job of the dying owner, as plain data: how the kernel stands, what each kind of instruction makes of it. Conditions: those said.
  The job of the dying owner, as plain data: a making, a join, an end, a sleep, a waking. Conditions: those said.
-/
import Derived.Test.YtagmlijhgncklaaGreatDoorD34
import Derived.Test.YtagmlijhgncklaaGreatDoorD41
import Derived.Test.YtagmlijhgncklaaGreatDoorD40
import Derived.Test.YtagmlijhgncklaaGreatDoorD39
import Derived.Test.YtagmlijhgncklaaGreatDoorD36
set_option linter.unusedVariables false
namespace Go.Proofs.YtagmlijhgncklaaGreatDoor.Ker
open Go.RowKit Go.Proofs.YtagmlijhgncklaaGreatDoor Go.Proofs.YtagmlijhgncklaaGreatDoor.Code

/-- All is calm; there is one mutex. -/
structure CalmM (S : KS) (mx : Mx.Mu) : Prop where
  C : Calm ({ S with muT := muT0 } : KS)
  H : ∃ b q g, HasMu S b q g mx
theorem CalmM.P {S : KS} {mx : Mx.Mu} (C : CalmM S mx) : KP S := by
  obtain ⟨b, q, g, H⟩ := C.H
  exact { C.C.P with mu1 := by rw [H.T]; decide, mu2 := by rw [H.T]; decide, mug := by rw [H.T]; exact mu4_ok }
theorem CalmM.settle {S : KS} {mx : Mx.Mu} (C : CalmM S mx) (w : World) {B : KB} (hB : S.B = B) (h : KW w S) : Calls Tryz.prog 42 #[.pointer (some ⟨B.kb, 0, none⟩)] w fun e w' => e = .returned (.tuple #[]) ∧ Below w.heap.size w w' := by
  obtain ⟨mb, q, g, H⟩ := C.H
  have b : ∀ p t, S.th p = some t → S.baseF p = t.base := fun p t ht => by simp [KS.baseF, ht]
  exact settleM_c w S hB h C.P S.baseF (prioOk_base C.C.pol) (fun p t hp ht he => by rw [b p t ht]; exact ⟨(C.C.ba p t hp ht he).1, (C.C.ba p t hp ht he).2.1⟩) C.C.kd H (fun p t hp ht he => by rw [b p t ht]; exact (C.C.ba p t hp ht he).2.2)
theorem CalmM.ev {S : KS} {mx : Mx.Mu} (C : CalmM S mx) (v : Value) : CalmM (S.ev v) mx := ⟨C.C.ev v, by obtain ⟨b, q, g, H⟩ := C.H; exact ⟨b, q, g, H.same rfl rfl rfl⟩⟩
theorem do_m (w : World) (S : KS) {B : KB} (hB : S.B = B) (h : KW w S) (kind n : Int) (Q : KS → Prop) (HQ : ∀ Sf, Q Sf → Sf.B = S.B ∧ Sf.lo.ln ≤ 100000 ∧ ∃ mx, CalmM Sf mx)
    (hA : (kind = 1 ∧ ∀ W, KW W S → Calls Tryz.prog 44 #[.pointer (some ⟨B.kb, 0, none⟩)] W fun e w' => ∃ Sf, e = .returned (.tuple #[]) ∧ Q Sf ∧ KW w' Sf ∧ Fr S Sf W w')
      ∨ (kind = 2 ∧ ∀ W, KW W S → Calls Tryz.prog 45 #[.pointer (some ⟨B.kb, 0, none⟩)] W fun e w' => ∃ Sf, e = .returned (.tuple #[]) ∧ Q Sf ∧ KW w' Sf ∧ Fr S Sf W w')) :
    Calls Tryz.prog 13 #[.pointer (some ⟨B.kb, 0, none⟩), .agg #[.int .i64 kind, .int .i64 n]] w fun e w' => ∃ Sg v, e = .returned (.int .i64 0) ∧ Q Sg ∧ KW w' (Sg.ev v) ∧ Fr S (Sg.ev v) w w' := by
  refine do_g w S hB h kind n Q Q (fun Sg hg => ⟨(HQ Sg hg).1, (HQ Sg hg).2.1⟩) (fun W Sf hq k => ?_) hA
  obtain ⟨hb, _, mx, c⟩ := HQ Sf hq
  refine (c.settle W (hb.trans hB) k).mono ?_
  rintro e' w' ⟨rfl, b⟩
  exact ⟨Sf, rfl, hq, k.reads b, Fr.reads Sf b⟩
/-- What such a kernel's state is made of, but for blocks. -/
structure PD where
  x : Pl
  mx : Mx.Mu
  W0 : Wh
  W1 : Wh
  mo : Int
  re : Int
  e5 : Option (Nat × Obj)
structure NowD (S : KS) (B : KB) (y : PD) : Prop where
  B : S.B = B
  T : S.T = y.x.T
  L : S.L = y.x.L
  R : S.R = y.x.R
  st : S.st = y.x.st
  th : S.th = y.x.th
  ln : S.lo.ln = y.x.ln
  an : S.lo.an = y.x.an
  notes : S.lo.notes = y.x.notes
  W0 : S.W0 = y.W0
  W1 : S.W1 = y.W1
  mo : S.mo = y.mo
  re : S.re = y.re
  e5 : S.ext 5 = y.e5
  ok : CalmM S y.mx
theorem Turn.runD {S : KS} {B : KB} {y : PD} {p : Nat} {t : Th} (T : Turn B y.x p t) (N : NowD S B y) : Running S p t :=
  ⟨T.p16, by rw [N.B]; exact T.pn, by rw [N.th]; exact T.th, by rw [N.R]; exact T.first, by rw [N.R]; exact T.b1, by rw [N.R]; exact T.b2, by rw [N.R]; exact T.sm, by rw [N.st]; exact T.s0, by rw [N.st]; exact T.s1, T.ak⟩
theorem HasMuE.same {S S' : KS} {mx : Mx.Mu} (h : ∃ b q g, HasMu S b q g mx) (he : S'.ext = S.ext) (ht : S'.muT = S.muT) (hl : S'.muL = S.muL) : ∃ b q g, HasMu S' b q g mx := by
  obtain ⟨b, q, g, H⟩ := h
  exact ⟨b, q, g, H.same he ht hl⟩
theorem d_step {B : KB} {y : PD} {p : Nat} {t : Th} (T : Turn B y.x p t) (z : Code.Prg) (n : Nat) (hx : B.J.PS[n]? = some z) (hpr : t.prog = n) (k : Nat) (hpc : t.pc = k) (i : Code.Ins) (hi : z.L[k]? = some i) (hln : y.x.ln ≤ 100000)
    (pc' : Int) (r' : Nat → Int) (hop : i.op ≠ 0 ∧ i.op ≠ 7 ∧ i.op ≠ 8) (A : StepsTo i k t.r pc' r') : DoesTo B evRun (fun S => NowD S B y) (fun S => NowD S B { y with x := y.x.stepped p t pc' r' }) := by
  intro W S N hW
  have Rn := T.runD N
  have ht : S.th p = some t := Rn.th
  have ok1 : CalmM (S.stepped p t pc' r') y.mx := ⟨N.ok.C.stepped (S := { S with muT := muT0 }) ht T.p16 pc' r', HasMuE.same N.ok.H rfl rfl rfl⟩
  refine (do_m W S N.B hW 1 0 (fun Sf => Sf = S.stepped p t pc' r') (by rintro Sf rfl; exact ⟨rfl, by show S.lo.ln ≤ _; rw [N.ln]; exact hln, _, ok1⟩) (.inl ⟨rfl, fun W hW => (run_step W S N.B hW N.ok.P p t Rn z n (by rw [N.B]; exact hx) hpr k hpc i hi pc' r' hop A).mono ?_⟩)).mono ?_
  · rintro e w' ⟨rfl, k1, f1⟩
    exact ⟨_, rfl, rfl, k1, f1⟩
  · rintro e w' ⟨Sf, v, rfl, rfl, k1, f1⟩
    refine ⟨(S.stepped p t pc' r').ev v, rfl, ⟨N.B, N.T, N.L, N.R, ?_, ?_, ?_, N.an, N.notes, N.W0, N.W1, N.mo, N.re, N.e5, ok1.ev v⟩, k1, f1⟩
    · show S.st + 1 = y.x.st + 1; rw [N.st]
    · show put S.th p _ = put y.x.th p _; rw [N.th]
    · show S.lo.ln + 1 = y.x.ln + 1; rw [N.ln]
theorem d_note {B : KB} {y : PD} {p : Nat} {t : Th} (T : Turn B y.x p t) (z : Code.Prg) (n : Nat) (hx : B.J.PS[n]? = some z) (hpr : t.prog = n) (k : Nat) (hpc : t.pc = k) (i : Code.Ins) (hi : z.L[k]? = some i) (hln : y.x.ln ≤ 100000)
    (a : Nat) (hop : i.op = 8) (hia : i.a = a) (ha8 : a < 8) (hk : k ≤ 1000) (hnn : y.x.notes.length ≤ 1000) : DoesTo B evRun (fun S => NowD S B y) (fun S => NowD S B { y with x := y.x.noted p t k a }) := by
  intro W S N hW
  have Rn := T.runD N
  have ht : S.th p = some t := Rn.th
  have ok1 : ∀ u, CalmM (S.noted p t k a u) y.mx := fun u => ⟨N.ok.C.noted (S := { S with muT := muT0 }) ht T.p16 k a u, HasMuE.same N.ok.H rfl rfl rfl⟩
  refine (do_m W S N.B hW 1 0 (fun Sf => ∃ u, Sf = S.noted p t k a u) (by rintro Sf ⟨u, rfl⟩; exact ⟨rfl, by show S.lo.ln ≤ _; rw [N.ln]; exact hln, _, ok1 u⟩) (.inl ⟨rfl, fun W hW => (run_note W S N.B hW N.ok.P p t Rn z n (by rw [N.B]; exact hx) hpr k hpc i hi a hop hia ha8 hk (by rw [N.notes]; exact hnn)).mono ?_⟩)).mono ?_
  · rintro e w' ⟨u, rfl, k1, f1⟩
    exact ⟨_, rfl, ⟨u, rfl⟩, k1, f1⟩
  · rintro e w' ⟨Sf, v, rfl, ⟨u, rfl⟩, k1, f1⟩
    refine ⟨(S.noted p t k a u).ev v, rfl, ⟨N.B, N.T, N.L, N.R, ?_, ?_, ?_, N.an, ?_, N.W0, N.W1, N.mo, N.re, N.e5, (ok1 u).ev v⟩, k1, f1⟩
    · show S.st + 1 = y.x.st + 1; rw [N.st]
    · show put S.th p _ = put y.x.th p _; rw [N.th]
    · show S.lo.ln + 1 = y.x.ln + 1; rw [N.ln]
    · show S.lo.notes ++ _ = y.x.notes ++ _; rw [N.notes]
/-- A run while nobody is ready. -/
def PD.idle (y : PD) : PD := { y with x := { y.x with ln := y.x.ln + 1 } }
theorem d_nobody {B : KB} {y : PD} (hs : y.x.R.sm = 0) (hln : y.x.ln ≤ 100000) : DoesTo B evRun (fun S => NowD S B y) (fun S => NowD S B y.idle) := by
  intro W S N hW
  refine (do_m W S N.B hW 1 0 (fun Sf => Sf = S) (by rintro Sf rfl; exact ⟨rfl, by rw [N.ln]; exact hln, _, N.ok⟩) (.inl ⟨rfl, fun W hW => (run_nobody W S N.B hW N.ok.P (by rw [N.R]; exact hs)).mono ?_⟩)).mono ?_
  · rintro e w' ⟨rfl, rfl⟩
    exact ⟨_, rfl, rfl, hW, Fr.refl _ _⟩
  · rintro e w' ⟨Sf, v, rfl, rfl, k1, f1⟩
    exact ⟨Sf.ev v, rfl, ⟨N.B, N.T, N.L, N.R, N.st, N.th, by show Sf.lo.ln + 1 = y.x.ln + 1; rw [N.ln], N.an, N.notes, N.W0, N.W1, N.mo, N.re, N.e5, N.ok.ev v⟩, k1, f1⟩
end Go.Proofs.YtagmlijhgncklaaGreatDoor.Ker
namespace Go.Proofs.YtagmlijhgncklaaGreatDoor.Ker
open Go.RowKit Go.Proofs.YtagmlijhgncklaaGreatDoor Go.Proofs.YtagmlijhgncklaaGreatDoor.Code

/-- A call on the mutex ends so, and turns it so. -/
def MuCall (F : Nat) (B : KB) (p : Nat) (t : Th) (mx mx' : Mx.Mu) (E : Ending) : Prop :=
  ∀ (W : World) (S : KS) (b q g : Nat), S.B = B → KW W S → S.th p = some t → HasMu S b q g mx → Calls Tryz.prog F #[.pointer (some ⟨B.kb, 0, none⟩), .pointer (some ⟨t.b, 0, none⟩)] W fun e w' => e = E ∧ KW w' (S.withMu b q mx') ∧ Fr S (S.withMu b q mx') W w'
theorem HasMu.turn {S : KS} {b q g : Nat} {m : Mx.Mu} (H : HasMu S b q g m) (m' : Mx.Mu) : HasMu (S.withMu b q m') b q g m' :=
  ⟨withMu_at S b q m', by obtain ⟨l, e⟩ := H.e3; exact ⟨l, (withMu_ne S b q m' (by decide)).trans e⟩, by obtain ⟨c, e⟩ := H.e4; exact ⟨c, (withMu_ne S b q m' (by decide)).trans e⟩, H.T, H.l⟩
/-- A thread called; it is answered. -/
def PD.mud (y : PD) (p : Nat) (t : Th) (k : Nat) (v e : Int) (mx' : Mx.Mu) : PD := { y with x := { y.x with st := y.x.st + 1, th := put y.x.th p (some (({ t with pc := (k : Int) + 1 } : Th).ans v e)), ln := y.x.ln + 1, an := y.x.an + 1 }, mx := mx' }
theorem CalmM.mu {S : KS} {mx mx' : Mx.Mu} {b q g : Nat} (C : Calm ({ S with muT := muT0 } : KS)) (H : HasMu S b q g mx) : CalmM (S.withMu b q mx') mx' :=
  ⟨⟨{ C.P with }, C.pol, C.kd, C.ba, C.mu⟩, b, q, g, H.turn mx'⟩
theorem CalmM.ans {S : KS} {mx : Mx.Mu} (C : CalmM S mx) {p : Nat} {t : Th} (ht : S.th p = some t) (hp : p < 16) (v e : Int) (av : Value) : CalmM (S.ans p (t.ans v e) av) mx :=
  ⟨C.C.ans (S := { S with muT := muT0 }) ht hp v e av, HasMuE.same C.H rfl rfl rfl⟩
theorem d_mud {S : KS} {B : KB} {y : PD} {p : Nat} {t : Th} {k : Nat} {v e : Int} {mx' : Mx.Mu} {b q g : Nat} {av lv : Value} (N : NowD S B y) (T : Turn B y.x p t) (H : HasMu S b q g y.mx) :
    NowD (((((S.stepped p t ((k : Int) + 1) t.r).withMu b q mx').ans p (({ t with pc := (k : Int) + 1, r := t.r } : Th).ans v e) av)).ev lv) B (y.mud p t k v e mx') ∧ CalmM (((S.stepped p t ((k : Int) + 1) t.r).withMu b q mx').ans p (({ t with pc := (k : Int) + 1, r := t.r } : Th).ans v e) av) mx' := by
  have ht : S.th p = some t := (T.runD N).th
  have C0 := N.ok.C.stepped (S := { S with muT := muT0 }) ht T.p16 ((k : Int) + 1) t.r
  have H0 : HasMu (S.stepped p t ((k : Int) + 1) t.r) b q g y.mx := H.same rfl rfl rfl
  have C1 : CalmM ((S.stepped p t ((k : Int) + 1) t.r).withMu b q mx') mx' := CalmM.mu C0 H0
  have C2 := C1.ans (t := { t with pc := (k : Int) + 1, r := t.r }) (show put S.th p (some { t with pc := (k : Int) + 1, r := t.r }) p = _ from put_self S.th p _) T.p16 v e av
  refine ⟨⟨N.B, N.T, N.L, N.R, ?_, ?_, ?_, ?_, N.notes, N.W0, N.W1, N.mo, N.re, ?_, C2.ev lv⟩, C2⟩
  · show S.st + 1 = y.x.st + 1; rw [N.st]
  · show put (put S.th p (some { t with pc := (k : Int) + 1, r := t.r })) p (some (({ t with pc := (k : Int) + 1, r := t.r } : Th).ans v e)) = put y.x.th p (some (({ t with pc := (k : Int) + 1 } : Th).ans v e))
    rw [put_put, N.th]
  · show S.lo.ln + 1 = y.x.ln + 1; rw [N.ln]
  · show S.lo.an + 1 = y.x.an + 1; rw [N.an]
  · show put S.ext 2 (some (b, Mx.muO mx' q)) 5 = y.e5; rw [put_ne _ _ (by decide)]; exact N.e5
theorem d_mu_ret {B : KB} {y : PD} {p : Nat} {t : Th} (T : Turn B y.x p t) (z : Code.Prg) (n : Nat) (hx : B.J.PS[n]? = some z) (hpr : t.prog = n) (k : Nat) (hpc : t.pc = k) (num : Int) (hi : z.L[k]? = some ⟨7, 0, 0, 0, num⟩) (hk : k ≤ 1000) (hln : y.x.ln ≤ 100000) (han : y.x.an ≤ 100000)
    (F : Nat) (hF : ∀ args w, (callFunc F args).run Tryz.prog w = .ok (.enter F args) w) (hn : ((callsE.map entV).find? fun x => x.1 == num) = some (num, .func (.func F) #[] #[])) (hpt : ∀ W, Calls Tryz.prog 147 #[.int .i64 num] W fun e w' => e = .returned (.bool false) ∧ W = w')
    (v : Int) (mx' : Mx.Mu) (A : MuCall F B p { t with pc := (k : Int) + 1, r := t.r } y.mx mx' (.returned (.int .i64 v))) :
    DoesTo B evRun (fun S => NowD S B y) (fun S => NowD S B (y.mud p t k v 0 mx')) := by
  intro W S N hW
  have Rn := T.runD N
  obtain ⟨b, q, g, H⟩ := N.ok.H
  have H0 : HasMu (S.stepped p t ((k : Int) + 1) t.r) b q g y.mx := H.same rfl rfl rfl
  have ht0 : (S.stepped p t ((k : Int) + 1) t.r).th p = some { t with pc := (k : Int) + 1, r := t.r } := put_self _ _ _
  have C0 : CalmM (S.stepped p t ((k : Int) + 1) t.r) y.mx := ⟨N.ok.C.stepped (S := { S with muT := muT0 }) Rn.th T.p16 _ _, b, q, g, H0⟩
  obtain ⟨S1, hS1⟩ : ∃ S1 : KS, S1 = (S.stepped p t ((k : Int) + 1) t.r).withMu b q mx' := ⟨_, rfl⟩
  have M : ∀ av lv, _ := fun av lv => d_mud (k := k) (v := v) (e := 0) (mx' := mx') (av := av) (lv := lv) N T H
  rw [← hS1] at M
  have hB1 : S1.B = S.B := by rw [hS1]; rfl
  have hth1 : S1.th p = some { t with pc := (k : Int) + 1, r := t.r } := by rw [hS1]; exact ht0
  have han1 : S1.lo.an = S.lo.an := by rw [hS1]; rfl
  have hln1 : S1.lo.ln = S.lo.ln := by rw [hS1]; rfl
  refine (do_m W S N.B hW 1 0 (fun Sf => ∃ av, Sf = S1.ans p (({ t with pc := (k : Int) + 1, r := t.r } : Th).ans v 0) av) ?_ (.inl ⟨rfl, fun W hW => run_call W S N.B hW N.ok.P p t Rn z n (by rw [N.B]; exact hx) hpr k hpc ⟨7, 0, 0, 0, num⟩ hi _ rfl hk fun W1 hW1 => ?_⟩)).mono ?_
  · rintro Sf ⟨av, rfl⟩
    exact ⟨hB1, by show S1.lo.ln ≤ _; rw [hln1, N.ln]; exact hln, _, (M av (.int .i64 0)).2⟩
  · refine (call_ret W1 (S.stepped p t ((k : Int) + 1) t.r) N.B hW1 C0.P p { t with pc := (k : Int) + 1, r := t.r } T.p16 ht0 num F v false (fun S2 t1 => t1 = { t with pc := (k : Int) + 1, r := t.r } ∧ S2 = S1) hF hn hpt (fun h => by cases h) ?_ ?_).mono ?_
    · rintro S2 t1 ⟨rfl, rfl⟩
      exact ⟨hB1, hth1, rfl, by rw [han1, N.an]; exact han⟩
    · intro W2 hW2
      refine (A W2 (S.stepped p t ((k : Int) + 1) t.r) b q g N.B hW2 ht0 H0).mono ?_
      rintro e w' ⟨rfl, k1, f1⟩
      rw [← hS1] at k1 f1
      exact ⟨_, _, rfl, ⟨rfl, rfl⟩, k1, f1⟩
    · rintro e w' ⟨S2, t1, av, rfl, ⟨rfl, rfl⟩, k1, f1⟩
      exact ⟨_, rfl, ⟨av, rfl⟩, k1, f1⟩
  · rintro e w' ⟨Sf, lv, rfl, ⟨av, rfl⟩, k1, f1⟩
    exact ⟨_, rfl, (M av lv).1, k1, f1⟩
theorem d_mu_posix {B : KB} {y : PD} {p : Nat} {t : Th} (T : Turn B y.x p t) (z : Code.Prg) (n : Nat) (hx : B.J.PS[n]? = some z) (hpr : t.prog = n) (k : Nat) (hpc : t.pc = k) (num : Int) (hi : z.L[k]? = some ⟨7, 0, 0, 0, num⟩) (hk : k ≤ 1000) (hln : y.x.ln ≤ 100000) (han : y.x.an ≤ 100000)
    (F : Nat) (hF : ∀ args w, (callFunc F args).run Tryz.prog w = .ok (.enter F args) w) (hn : ((callsE.map entV).find? fun x => x.1 == num) = some (num, .func (.func F) #[] #[])) (hpt : ∀ W, Calls Tryz.prog 147 #[.int .i64 num] W fun e w' => e = .returned (.bool false) ∧ W = w')
    (v : Int) (mx' : Mx.Mu) (A : MuCall F B p { t with pc := (k : Int) + 1, r := t.r } y.mx mx' (.panicked [{ v := .iface 134 (.int .i64 v), recovered := false }])) :
    DoesTo B evRun (fun S => NowD S B y) (fun S => NowD S B (y.mud p t k 0 v mx')) := by
  intro W S N hW
  have Rn := T.runD N
  obtain ⟨b, q, g, H⟩ := N.ok.H
  have H0 : HasMu (S.stepped p t ((k : Int) + 1) t.r) b q g y.mx := H.same rfl rfl rfl
  have ht0 : (S.stepped p t ((k : Int) + 1) t.r).th p = some { t with pc := (k : Int) + 1, r := t.r } := put_self _ _ _
  have C0 : CalmM (S.stepped p t ((k : Int) + 1) t.r) y.mx := ⟨N.ok.C.stepped (S := { S with muT := muT0 }) Rn.th T.p16 _ _, b, q, g, H0⟩
  obtain ⟨S1, hS1⟩ : ∃ S1 : KS, S1 = (S.stepped p t ((k : Int) + 1) t.r).withMu b q mx' := ⟨_, rfl⟩
  have M : ∀ av lv, _ := fun av lv => d_mud (k := k) (v := 0) (e := v) (mx' := mx') (av := av) (lv := lv) N T H
  rw [← hS1] at M
  have hB1 : S1.B = S.B := by rw [hS1]; rfl
  have hth1 : S1.th p = some { t with pc := (k : Int) + 1, r := t.r } := by rw [hS1]; exact ht0
  have han1 : S1.lo.an = S.lo.an := by rw [hS1]; rfl
  have hln1 : S1.lo.ln = S.lo.ln := by rw [hS1]; rfl
  refine (do_m W S N.B hW 1 0 (fun Sf => ∃ av, Sf = S1.ans p (({ t with pc := (k : Int) + 1, r := t.r } : Th).ans 0 v) av) ?_ (.inl ⟨rfl, fun W hW => run_call W S N.B hW N.ok.P p t Rn z n (by rw [N.B]; exact hx) hpr k hpc ⟨7, 0, 0, 0, num⟩ hi _ rfl hk fun W1 hW1 => ?_⟩)).mono ?_
  · rintro Sf ⟨av, rfl⟩
    exact ⟨hB1, by show S1.lo.ln ≤ _; rw [hln1, N.ln]; exact hln, _, (M av (.int .i64 0)).2⟩
  · refine (call_posix W1 (S.stepped p t ((k : Int) + 1) t.r) N.B hW1 C0.P p { t with pc := (k : Int) + 1, r := t.r } T.p16 ht0 num F v false (fun S2 t1 => t1 = { t with pc := (k : Int) + 1, r := t.r } ∧ S2 = S1) hF hn hpt (fun h => by cases h) ?_ ?_).mono ?_
    · rintro S2 t1 ⟨rfl, rfl⟩
      exact ⟨hB1, hth1, rfl, by rw [han1, N.an]; exact han⟩
    · intro W2 hW2
      refine (A W2 (S.stepped p t ((k : Int) + 1) t.r) b q g N.B hW2 ht0 H0).mono ?_
      rintro e w' ⟨rfl, k1, f1⟩
      rw [← hS1] at k1 f1
      exact ⟨_, _, rfl, ⟨rfl, rfl⟩, k1, f1⟩
    · rintro e w' ⟨S2, t1, av, rfl, ⟨rfl, rfl⟩, k1, f1⟩
      exact ⟨_, rfl, ⟨av, rfl⟩, k1, f1⟩
  · rintro e w' ⟨Sf, lv, rfl, ⟨av, rfl⟩, k1, f1⟩
    exact ⟨_, rfl, (M av lv).1, k1, f1⟩
end Go.Proofs.YtagmlijhgncklaaGreatDoor.Ker
namespace Go.Proofs.YtagmlijhgncklaaGreatDoor.Ker
open Go.RowKit Go.Proofs.YtagmlijhgncklaaGreatDoor Go.Proofs.YtagmlijhgncklaaGreatDoor.Code

theorem d_create {B : KB} {y : PD} {p : Nat} {t : Th} (T : Turn B y.x p t) (z : Code.Prg) (n : Nat) (hx : B.J.PS[n]? = some z) (hpr : t.prog = n) (k : Nat) (hpc : t.pc = k) (hi : z.L[k]? = some ⟨7, 0, 0, 0, 1⟩) (hk : k ≤ 1000) (hln : y.x.ln ≤ 100000) (han : y.x.an ≤ 100000)
    (i pr : Nat) (g prog pol jn : Int) (hr2 : t.r 2 = prog) (hr3 : t.r 3 = pr) (hr4 : t.r 4 = pol) (hr5 : t.r 5 = jn)
    (hg0 : 0 ≤ prog) (hg1 : prog < B.J.PS.length) (hg2 : B.J.PS.length ≤ 32) (hpl : pol = 0 ∨ pol = 1) (hj : jn = 0 ∨ jn = 1) (hf : Tab.freeF y.x.T = some i) (hg : g = Tab.gn y.x.T i + 1) (hg9 : g ≤ 900) (hn : y.x.th i = none) (hat : Tab.atF (y.x.T.set i (true, g)) (i + 16 * g) = some i)
    (h1 : 1 ≤ pr) (h32 : pr < 32) (hin : (y.x.L.getD i Hs.no).isIn = false) (hz : y.x.R.pr.getD i 0 = 0) (hl : Lk (y.x.R.tl.getD pr 0)) : DoesTo B evRun (fun S => NowD S B y) (fun S => ∃ b c, NowD S B { y with x := y.x.created B p t k i pr g prog pol (decide (jn = 0)) b c }) := by
  intro W S N hW
  have hT := N.T
  have hB := N.B
  have Rn := T.runD N
  have hip : p ≠ i := fun e => by have q := T.th; rw [e, hn] at q; cases q
  have hiB : i < S.B.n := by have q := (Tab.free_some hf).1; rw [← hT, N.ok.P.T] at q; exact q
  have g0 : 0 ≤ g := by have := (N.ok.P.gen i).1; rw [hT] at this; omega
  have hqB : B.J.q = S.B.J.q := by rw [N.B]
  have hp2 : pol ≠ 2 := by omega
  have C0 : CalmM (S.stepped p t ((k : Int) + 1) t.r) y.mx := ⟨N.ok.C.stepped (S := { S with muT := muT0 }) Rn.th T.p16 _ _, HasMuE.same N.ok.H rfl rfl rfl⟩
  have ht0 : (S.stepped p t ((k : Int) + 1) t.r).th p = some { t with pc := (k : Int) + 1, r := t.r } := put_self _ _ _
  have hn0 : (S.stepped p t ((k : Int) + 1) t.r).th i = none := by show put S.th p _ i = none; rw [put_ne _ _ (Ne.symm hip), N.th]; exact hn
  have ok1 : ∀ b c av, CalmM (S.created p t k i pr g prog pol (decide (jn = 0)) b c av) y.mx := fun b c av => ⟨N.ok.C.created (S := { S with muT := muT0 }) Rn.th T.p16 hip hiB g0 hg9 hp2 h32, HasMuE.same N.ok.H rfl rfl rfl⟩
  refine (do_m W S N.B hW 1 0 (fun Sf => ∃ b c av, Sf = S.created p t k i pr g prog pol (decide (jn = 0)) b c av) ?_ (.inl ⟨rfl, fun W hW => run_call W S N.B hW N.ok.P p t Rn z n (by rw [N.B]; exact hx) hpr k hpc ⟨7, 0, 0, 0, 1⟩ hi _ rfl hk fun W1 hW1 => ?_⟩)).mono ?_
  · rintro Sf ⟨b, c, av, rfl⟩
    exact ⟨rfl, by show S.lo.ln ≤ _; rw [N.ln]; exact hln, _, ok1 b c av⟩
  · refine (call_ret W1 (S.stepped p t ((k : Int) + 1) t.r) N.B hW1 C0.P p { t with pc := (k : Int) + 1, r := t.r } T.p16 ht0 1 208 (i + 16 * g) false (fun S1 t1 => t1 = { t with pc := (k : Int) + 1, r := t.r } ∧ ∃ b c, S1 = (S.stepped p t ((k : Int) + 1) t.r).made i pr g (Th.new b c (i + 16 * g) prog pr pol (decide (jn = 0)))) (enters_of Tryz.func208 (by kernel_rfl) rfl) rfl (fun W => points_no W 1 (.inl rfl)) (fun h => by cases h) ?_ ?_).mono ?_
    · rintro S1 t1 ⟨rfl, b, c, rfl⟩
      exact ⟨rfl, by show put _ i _ p = _; rw [put_ne _ _ hip]; exact ht0, rfl, by show S.lo.an ≤ _; rw [N.an]; exact han⟩
    · intro W2 hW2
      refine (callCreate_c W2 (S.stepped p t ((k : Int) + 1) t.r) N.B hW2 C0.P p { t with pc := (k : Int) + 1, r := t.r } T.p16 ht0 i pr g prog pol jn hr2 hr3 hr4 hr5 hg0 (by show prog < S.B.J.PS.length; rw [N.B]; exact hg1) (by show S.B.J.PS.length ≤ 32; rw [N.B]; exact hg2) hpl hj (by show Tab.freeF S.T = _; rw [hT]; exact hf) (by show g = Tab.gn S.T i + 1; rw [hT]; exact hg) hg9 hn0 (by show Tab.atF (S.T.set i (true, g)) _ = _; rw [hT]; exact hat) h1 h32 (by show (S.L.getD i Hs.no).isIn = false; rw [N.L]; exact hin) (by show S.R.pr.getD i 0 = 0; rw [N.R]; exact hz) (by show Lk (S.R.tl.getD pr 0); rw [N.R]; exact hl) (by show 0 ≤ S.st + 1; have := Rn.s0; omega) (by show S.st + 1 ≤ 800000000; have := Rn.s1; omega)).mono ?_
      rintro e w' ⟨b, c, rfl, k1, f1⟩
      exact ⟨_, _, rfl, ⟨rfl, b, c, rfl⟩, k1, f1⟩
    · rintro e w' ⟨S1, t1, av, rfl, ⟨rfl, b, c, rfl⟩, k1, f1⟩
      exact ⟨_, rfl, ⟨b, c, av, rfl⟩, k1, f1⟩
  · rintro e w' ⟨Sf, v, rfl, ⟨b, c, av, rfl⟩, k1, f1⟩
    refine ⟨(S.created p t k i pr g prog pol (decide (jn = 0)) b c av).ev v, rfl, ⟨b, c, ⟨N.B, ?_, ?_, ?_, ?_, ?_, ?_, ?_, N.notes, N.W0, N.W1, N.mo, N.re, N.e5, (ok1 b c av).ev v⟩⟩, k1, f1⟩
    · show S.T.set i _ = y.x.T.set i _; rw [N.T]
    · show S.L.set i _ = y.x.L.set i _; rw [N.L, hqB]; rfl
    · show S.R.tailF pr i = y.x.R.tailF pr i; rw [N.R]
    · show S.st + 1 + 4 = y.x.st + 5; rw [N.st]; omega
    · show put (put (put S.th p _) i _) p _ = put (put (put y.x.th p _) i _) p _; rw [N.th]
    · show S.lo.ln + 1 = y.x.ln + 1; rw [N.ln]
    · show S.lo.an + 1 = y.x.an + 1; rw [N.an]
theorem d_join {B : KB} {y : PD} {p q : Nat} {t zt : Th} (T : Turn B y.x p t) (z : Code.Prg) (n : Nat) (hx : B.J.PS[n]? = some z) (hpr : t.prog = n) (k : Nat) (hpc : t.pc = k) (hi : z.L[k]? = some ⟨7, 0, 0, 0, 3⟩) (hk : k ≤ 1000) (hln : y.x.ln ≤ 100000) (han : y.x.an ≤ 100000)
    (hq : q < 16) (hz : y.x.th q = some zt) (hpq : q ≠ p) (hf : Tab.atF y.x.T (t.r 2) = some q) (hyd : zt.hd = t.r 2) (hjn : zt.jn = true) (hjr : zt.jr < 0) (hen : zt.en = true) (hact : Can.actsF t.can true = false) : DoesTo B evRun (fun S => NowD S B y) (fun S => NowD S B { y with x := y.x.joined p t k q zt.val }) := by
  intro W S N hW
  have hT := N.T
  have hB := N.B
  have Rn := T.runD N
  have C0 : CalmM (S.stepped p t ((k : Int) + 1) t.r) y.mx := ⟨N.ok.C.stepped (S := { S with muT := muT0 }) Rn.th T.p16 _ _, HasMuE.same N.ok.H rfl rfl rfl⟩
  have ht0 : (S.stepped p t ((k : Int) + 1) t.r).th p = some { t with pc := (k : Int) + 1, r := t.r } := put_self _ _ _
  have hy0 : (S.stepped p t ((k : Int) + 1) t.r).th q = some zt := by show put S.th p _ q = _; rw [put_ne _ _ hpq, N.th]; exact hz
  have hqn : q < S.B.n := N.ok.P.thn q zt (by rw [N.th]; exact hz)
  have ht1 : ((S.stepped p t ((k : Int) + 1) t.r).gone q).th p = some { t with pc := (k : Int) + 1, r := t.r } := by
    show put _ q none p = _
    rw [put_ne _ _ (Ne.symm hpq)]
    exact ht0
  have C1 : CalmM ((S.stepped p t ((k : Int) + 1) t.r).gone q) y.mx := ⟨C0.C.gone (S := { S.stepped p t ((k : Int) + 1) t.r with muT := muT0 }) hqn, HasMuE.same N.ok.H rfl rfl rfl⟩
  have ok1 : ∀ av, CalmM (S.joined p t k q zt.val av) y.mx := fun av => C1.ans ht1 T.p16 zt.val 0 av
  refine (do_m W S N.B hW 1 0 (fun Sf => ∃ av, Sf = S.joined p t k q zt.val av) ?_ (.inl ⟨rfl, fun W hW => run_call W S N.B hW N.ok.P p t Rn z n (by rw [N.B]; exact hx) hpr k hpc ⟨7, 0, 0, 0, 3⟩ hi _ rfl hk fun W1 hW1 => ?_⟩)).mono ?_
  · rintro Sf ⟨av, rfl⟩
    exact ⟨rfl, by show S.lo.ln ≤ _; rw [N.ln]; exact hln, _, ok1 av⟩
  · refine (call_ret W1 (S.stepped p t ((k : Int) + 1) t.r) N.B hW1 C0.P p { t with pc := (k : Int) + 1, r := t.r } T.p16 ht0 3 210 zt.val true (fun S1 t1 => t1 = { t with pc := (k : Int) + 1, r := t.r } ∧ S1 = (S.stepped p t ((k : Int) + 1) t.r).gone q) (enters_of Tryz.func210 (by kernel_rfl) rfl) rfl (fun W => points_yes W 3 (.inl rfl)) (fun _ => hact) ?_ ?_).mono ?_
    · rintro S1 t1 ⟨rfl, rfl⟩
      exact ⟨rfl, ht1, rfl, by show S.lo.an ≤ _; rw [N.an]; exact han⟩
    · intro W2 hW2
      refine (callJoin_c W2 (S.stepped p t ((k : Int) + 1) t.r) N.B hW2 C0.P p q { t with pc := (k : Int) + 1, r := t.r } zt T.p16 ht0 hq hy0 hpq (by show Tab.atF S.T _ = _; rw [hT]; exact hf) hyd hjn hjr hen).mono ?_
      rintro e w' ⟨rfl, k1, f1⟩
      exact ⟨_, _, rfl, ⟨rfl, rfl⟩, k1, f1⟩
    · rintro e w' ⟨S1, t1, av, rfl, ⟨rfl, rfl⟩, k1, f1⟩
      exact ⟨_, rfl, ⟨av, rfl⟩, k1, f1⟩
  · rintro e w' ⟨Sf, v, rfl, ⟨av, rfl⟩, k1, f1⟩
    refine ⟨(S.joined p t k q zt.val av).ev v, rfl, ⟨N.B, ?_, N.L, N.R, ?_, ?_, ?_, ?_, N.notes, N.W0, N.W1, N.mo, N.re, N.e5, (ok1 av).ev v⟩, k1, f1⟩
    · show S.T.set q (false, Tab.gn S.T q) = y.x.T.set q _; rw [N.T]
    · show S.st + 1 = y.x.st + 1; rw [N.st]
    · show put (put (put S.th p _) q _) p _ = put (put (put y.x.th p _) q _) p _; rw [N.th]
    · show S.lo.ln + 1 = y.x.ln + 1; rw [N.ln]
    · show S.lo.an + 1 = y.x.an + 1; rw [N.an]
/-- What a thread's end makes of the mutex. -/
def MuEnd (p : Nat) (mx mx' : Mx.Mu) : Prop := ∀ (W : World) (b q g : Nat), Mx.MuW W b q g mx → Calls Tryz.prog 337 #[.pointer (some ⟨b, 0, none⟩), .int .i64 p] W fun e w' => e = .returned (.slice none 0 0) ∧ Upd W b (Mx.muO mx' q) w'
theorem calm_over {S : KS} (C : Calm ({ S with muT := muT0 } : KS)) {p : Nat} {t : Th} (ht : S.th p = some t) (hp : p < 16) {b q : Nat} {m : Mx.Mu} : Calm ({ ((S.one.unX p t (t.r 0)).withMu b q m).ended p (t.unw (t.r 0)) with muT := muT0 } : KS) := by
  have Cv := (Calm.one C).over (S := ({ S with muT := muT0 } : KS).one) (p := p) (t := t) ht hp (t.r 0)
  exact ⟨{ Cv.P with }, Cv.pol, Cv.kd, Cv.ba, Cv.mu⟩
theorem d_past {B : KB} {y : PD} {p p0 : Nat} {t : Th} (T : Turn B y.x p t) (z : Code.Prg) (n : Nat) (hx : B.J.PS[n]? = some z) (hpr : t.prog = n) (k : Nat) (hpc : t.pc = k) (hi : k = z.L.length) (hln : y.x.ln ≤ 100000)
    (hjn : t.jn = true) (hjr : t.jr < 0) (hun : t.can.un = false) (I : Leaves y.x p p0) (mx' : Mx.Mu) (EN : MuEnd p y.mx mx') : DoesTo B evRun (fun S => NowD S B y) (fun S => NowD S B { y with x := y.x.over p t (t.r 0), mx := mx' }) := by
  intro W S N hW
  have Rn := T.runD N
  have ht : S.th p = some t := Rn.th
  obtain ⟨mb, mq, mg, H⟩ := N.ok.H
  have P0 : KP S.one := { N.ok.P with }
  have hpol : t.pol ≠ 2 := N.ok.C.pol p t ht
  obtain ⟨Sf, hSf⟩ : ∃ Sf, Sf = ((S.one.unX p t (t.r 0)).withMu mb mq mx').ended p (t.unw (t.r 0)) := ⟨_, rfl⟩
  have ok1 : CalmM Sf mx' := by rw [hSf]; exact ⟨calm_over N.ok.C ht T.p16, mb, mq, mg, (((H.same (S' := S.one.unX p t (t.r 0)) rfl rfl rfl).turn mx').same rfl rfl rfl)⟩
  refine (do_m W S N.B hW 1 0 (fun S1 => S1 = Sf) (by rintro S1 rfl; exact ⟨by rw [hSf]; rfl, by rw [hSf]; show S.lo.ln ≤ _; rw [N.ln]; exact hln, _, ok1⟩) (.inl ⟨rfl, fun W hW => run_past W S N.B hW N.ok.P p t Rn z n (by rw [N.B]; exact hx) hpr k hpc hi (fun S1 => S1 = Sf) fun W1 hW1 => (overM_stays W1 S.one N.B hW1 P0 p p0 t T.p16 ht hpol (H.same rfl rfl rfl) (fun W h => EN W mb mq mg h) hjn hjr hun
    ⟨by show (S.L.getD p Hs.no).isIn = true; rw [N.L]; exact I.isIn, I.q1, I.q32, by show S.R.pr.getD p 0 = p0; rw [N.R]; exact I.pr, by show Lk (S.R.pv.getD p 0); rw [N.R]; exact I.pv, by show Lk (S.R.nx.getD p 0); rw [N.R]; exact I.nx, by show 0 ≤ S.st + 1; rw [N.st]; have := T.s0; omega, by show S.st + 1 ≤ 600000000; rw [N.st]; have := T.s1; omega⟩).mono ?_⟩)).mono ?_
  · rintro e w' ⟨rfl, k1, f1⟩
    rw [hSf]
    exact ⟨_, rfl, rfl, k1, f1⟩
  · rintro e w' ⟨S1, v, rfl, rfl, k1, f1⟩
    refine ⟨_, rfl, ?_, k1, f1⟩
    have okv := ok1.ev v
    rw [hSf] at okv ⊢
    refine ⟨N.B, N.T, ?_, ?_, ?_, ?_, ?_, N.an, N.notes, N.W0, N.W1, N.mo, N.re, ?_, okv⟩
    · show S.L.set p _ = y.x.L.set p _; rw [N.L]
    · show S.R.remF p = y.x.R.remF p; rw [N.R]
    · show S.st + 1 + 2 = y.x.st + 3; rw [N.st]; omega
    · show put (put S.th p (some (t.unw (t.r 0)))) p (some { t.unw (t.r 0) with en := true }) = put (put (put y.x.th p (some t)) p (some (t.unw (t.r 0)))) p (some { t.unw (t.r 0) with en := true })
      rw [N.th, put_put, put_put, put_put]
    · show S.lo.ln + 1 = y.x.ln + 1; rw [N.ln]
    · show put S.ext 2 (some (mb, Mx.muO mx' mq)) 5 = y.e5; rw [put_ne _ _ (by decide)]; exact N.e5
/-- A detached thread has ended: it is gone. -/
def Pl.left (x : Pl) (p : Nat) : Pl := { x with T := x.T.set p (false, Tab.gn x.T p), L := x.L.set p Hs.no, R := x.R.remF p, st := x.st + 3, th := put x.th p none, ln := x.ln + 1 }
theorem d_past_gone {B : KB} {y : PD} {p p0 : Nat} {t : Th} (T : Turn B y.x p t) (z : Code.Prg) (n : Nat) (hx : B.J.PS[n]? = some z) (hpr : t.prog = n) (k : Nat) (hpc : t.pc = k) (hi : k = z.L.length) (hln : y.x.ln ≤ 100000)
    (hjn : t.jn = false) (hat : Tab.atF y.x.T t.hd = some p) (hun : t.can.un = false) (I : Leaves y.x p p0) (mx' : Mx.Mu) (EN : MuEnd p y.mx mx') : DoesTo B evRun (fun S => NowD S B y) (fun S => NowD S B { y with x := y.x.left p, mx := mx' }) := by
  intro W S N hW
  have Rn := T.runD N
  have ht : S.th p = some t := Rn.th
  obtain ⟨mb, mq, mg, H⟩ := N.ok.H
  have P0 : KP S.one := { N.ok.P with }
  have hpol : t.pol ≠ 2 := N.ok.C.pol p t ht
  have hpn : p < S.B.n := N.ok.P.thn p t ht
  obtain ⟨Sf, hSf⟩ : ∃ Sf, Sf = (((S.one.unX p t (t.r 0)).withMu mb mq mx').ended p (t.unw (t.r 0))).gone p := ⟨_, rfl⟩
  have ok1 : CalmM Sf mx' := by rw [hSf]; exact ⟨(calm_over N.ok.C ht T.p16).gone (S := { ((S.one.unX p t (t.r 0)).withMu mb mq mx').ended p (t.unw (t.r 0)) with muT := muT0 }) hpn, mb, mq, mg, (((H.same (S' := S.one.unX p t (t.r 0)) rfl rfl rfl).turn mx').same rfl rfl rfl)⟩
  refine (do_m W S N.B hW 1 0 (fun S1 => S1 = Sf) (by rintro S1 rfl; exact ⟨by rw [hSf]; rfl, by rw [hSf]; show S.lo.ln ≤ _; rw [N.ln]; exact hln, _, ok1⟩) (.inl ⟨rfl, fun W hW => run_past W S N.B hW N.ok.P p t Rn z n (by rw [N.B]; exact hx) hpr k hpc hi (fun S1 => S1 = Sf) fun W1 hW1 => (overM_gone W1 S.one N.B hW1 P0 p p0 t T.p16 ht hpol (H.same rfl rfl rfl) (fun W h => EN W mb mq mg h) hjn (by show Tab.atF S.T _ = _; rw [N.T]; exact hat) hun
    ⟨by show (S.L.getD p Hs.no).isIn = true; rw [N.L]; exact I.isIn, I.q1, I.q32, by show S.R.pr.getD p 0 = p0; rw [N.R]; exact I.pr, by show Lk (S.R.pv.getD p 0); rw [N.R]; exact I.pv, by show Lk (S.R.nx.getD p 0); rw [N.R]; exact I.nx, by show 0 ≤ S.st + 1; rw [N.st]; have := T.s0; omega, by show S.st + 1 ≤ 600000000; rw [N.st]; have := T.s1; omega⟩).mono ?_⟩)).mono ?_
  · rintro e w' ⟨rfl, k1, f1⟩
    rw [hSf]
    exact ⟨_, rfl, rfl, k1, f1⟩
  · rintro e w' ⟨S1, v, rfl, rfl, k1, f1⟩
    refine ⟨_, rfl, ?_, k1, f1⟩
    have okv := ok1.ev v
    rw [hSf] at okv ⊢
    refine ⟨N.B, ?_, ?_, ?_, ?_, ?_, ?_, N.an, N.notes, N.W0, N.W1, N.mo, N.re, ?_, okv⟩
    · show S.T.set p (false, Tab.gn S.T p) = y.x.T.set p _; rw [N.T]
    · show S.L.set p _ = y.x.L.set p _; rw [N.L]
    · show S.R.remF p = y.x.R.remF p; rw [N.R]
    · show S.st + 1 + 2 = y.x.st + 3; rw [N.st]; omega
    · show put (put (put S.th p (some (t.unw (t.r 0)))) p (some { t.unw (t.r 0) with en := true })) p none = put y.x.th p none
      rw [N.th, put_put, put_put]
    · show S.lo.ln + 1 = y.x.ln + 1; rw [N.ln]
    · show put S.ext 2 (some (mb, Mx.muO mx' mq)) 5 = y.e5; rw [put_ne _ _ (by decide)]; exact N.e5
end Go.Proofs.YtagmlijhgncklaaGreatDoor.Ker
namespace Go.Proofs.YtagmlijhgncklaaGreatDoor.Ker
open Go.RowKit Go.Proofs.YtagmlijhgncklaaGreatDoor Go.Proofs.YtagmlijhgncklaaGreatDoor.Code

theorem mu_lock {B : KB} {p : Nat} {t : Th} {mx : Mx.Mu} (hp : p < 16) (hpol : t.pol ≠ 2) (h2 : t.r 2 = 16) (he : 1 ≤ t.eff ∧ t.eff ≤ 31) (hb : 1 ≤ t.base ∧ t.base ≤ 31) (ho : mx.own = -1) (hs : mx.st = 0) : MuCall 220 B p t mx ⟨p, 1, mx.st⟩ (.returned (.int .i64 0)) := fun W S b q g hB hW ht H =>
  callLock_any W (R := fun _ w' => KW w' (S.withMu b q ⟨p, 1, mx.st⟩) ∧ Fr S (S.withMu b q ⟨p, 1, mx.st⟩) W w') (lock_gets W S hB hW p t hp ht hpol h2 H fun W2 hM => Mx.lock_take W2 b q g mx p t.eff t.base hM hp he hb ho (.inl hs) 0 (by rw [hs]; rfl))
theorem mu_lockDead {B : KB} {p : Nat} {t : Th} {mx : Mx.Mu} (hp : p < 16) (hpol : t.pol ≠ 2) (h2 : t.r 2 = 16) (he : 1 ≤ t.eff ∧ t.eff ≤ 31) (hb : 1 ≤ t.base ∧ t.base ≤ 31) (ho : mx.own = -1) (hs : mx.st = 1) : MuCall 220 B p t mx ⟨p, 1, mx.st⟩ (.panicked [{ v := .iface 134 (.int .i64 130), recovered := false }]) := fun W S b q g hB hW ht H =>
  callLock_dies W (R := fun w' => KW w' (S.withMu b q ⟨p, 1, mx.st⟩) ∧ Fr S (S.withMu b q ⟨p, 1, mx.st⟩) W w') (lock_dead W S hB hW p t hp ht hpol h2 H fun W2 hM => Mx.lock_take W2 b q g mx p t.eff t.base hM hp he hb ho (.inr hs) 130 (by rw [hs]; rfl))
theorem mu_lockLost {B : KB} {p : Nat} {t : Th} {mx : Mx.Mu} (hp : p < 16) (hpol : t.pol ≠ 2) (h2 : t.r 2 = 16) (he : 1 ≤ t.eff ∧ t.eff ≤ 31) (hb : 1 ≤ t.base ∧ t.base ≤ 31) (hs : mx.st = 2) : MuCall 220 B p t mx mx (.panicked [{ v := .iface 134 (.int .i64 131), recovered := false }]) := fun W S b q g hB hW ht H => by
  rw [withMu_self H]
  exact callLock_dies W (R := fun w' => KW w' S ∧ Fr S S W w') (lock_lost W S hB hW p t hp ht hpol h2 H fun W2 hM => Mx.lock_lost W2 b q g mx p t.eff t.base hM hp he hb hs)
theorem mu_unlock {B : KB} {p : Nat} {t : Th} {mx : Mx.Mu} (hp : p < 16) (h2 : t.r 2 = 16) (ho : mx.own = p) (hc : mx.cnt = 1) (hs : mx.st = 0) : MuCall 223 B p t mx ⟨-1, 0, 0⟩ (.returned (.int .i64 0)) := fun W S b q g hB hW ht H =>
  callUnlock_yes W S hB hW p t hp ht h2 H fun W2 hM => Mx.unlock_well W2 b q g mx p hM hp ho hc hs
theorem mu_unlockLeft {B : KB} {p : Nat} {t : Th} {mx : Mx.Mu} (hp : p < 16) (h2 : t.r 2 = 16) (ho : mx.own = p) (hc : mx.cnt = 1) (hs : mx.st = 1) : MuCall 223 B p t mx ⟨-1, 0, 2⟩ (.returned (.int .i64 0)) := fun W S b q g hB hW ht H =>
  callUnlock_yes W S hB hW p t hp ht h2 H fun W2 hM => Mx.unlock_left W2 b q g mx p hM hp ho hc hs
theorem mu_unlockNot {B : KB} {p : Nat} {t : Th} {mx : Mx.Mu} (hp : p < 16) (h2 : t.r 2 = 16) (ho : mx.own ≠ p) : MuCall 223 B p t mx mx (.panicked [{ v := .iface 134 (.int .i64 1), recovered := false }]) := fun W S b q g hB hW ht H => by
  rw [withMu_self H]
  exact callUnlock_no W S hB hW p t hp ht h2 H ho
theorem mu_cons {B : KB} {p : Nat} {t : Th} {mx : Mx.Mu} (hp : p < 16) (h2 : t.r 2 = 16) (ho : mx.own = p) (hs : mx.st = 1) : MuCall 224 B p t mx ⟨p, mx.cnt, 0⟩ (.returned (.int .i64 0)) := fun W S b q g hB hW ht H =>
  callConsistent_yes W S hB hW p t hp ht h2 H ho hs
theorem mu_consNot {B : KB} {p : Nat} {t : Th} {mx : Mx.Mu} (hp : p < 16) (h2 : t.r 2 = 16) (hs : mx.st ≠ 1) : MuCall 224 B p t mx mx (.panicked [{ v := .iface 134 (.int .i64 22), recovered := false }]) := fun W S b q g hB hW ht H => by
  rw [withMu_self H]
  exact callConsistent_no W S hB hW p t hp ht h2 H hs
theorem mu_endOwn {p : Nat} {mx : Mx.Mu} (hp : p < 16) (ho : mx.own = p) : MuEnd p mx ⟨-1, 0, 1⟩ := fun W b q g hM => Mx.ended_own W b q g mx p hM hp ho
theorem mu_endNot {p : Nat} {mx : Mx.Mu} (hp : p < 16) (ho : mx.own ≠ p) : MuEnd p mx mx := fun W b q g hM => (Mx.ended_not W b q g mx p hM hp ho).mono fun e w' ⟨h1, h2⟩ => ⟨h1, h2 ▸ Upd.refl hM.hb⟩

theorem HasMu.same3 {S S' : KS} {b q g : Nat} {m : Mx.Mu} (H : HasMu S b q g m) (h2 : S'.ext 2 = S.ext 2) (h3 : S'.ext 3 = S.ext 3) (h4 : S'.ext 4 = S.ext 4) (ht : S'.muT = S.muT) (hl : S'.muL = S.muL) : HasMu S' b q g m :=
  ⟨by rw [h2]; exact H.e2, by rw [h3]; exact H.e3, by rw [h4]; exact H.e4, by rw [ht]; exact H.T, by rw [hl]; exact H.l⟩
/-- The main thread sleeps until k. -/
def PD.slept (y : PD) (t : Th) (pc k g cap : Nat) (cur : Array Value) : PD :=
  { y with x := { y.x with st := y.x.st + 3, th := put y.x.th 0 (some { t with pc := (pc : Int) + 1, wt := sleepW }), L := y.x.L.set 0 Hs.no, R := y.x.R.remF 0, ln := y.x.ln + 1 }, W1 := y.W1.setF k (.slice (some ⟨g, 0, none⟩) 1 cap), e5 := some (g, .cells cur 422 (0, 0)) }
/-- Nobody sleeps; the rings from now on are new. -/
structure Free (W : Wh) (m : Int) : Prop where
  rings : ∀ k : Nat, m < k → k < 64 → W.rings[k]? = some (.slice none 0 0)
  quiet : Quiet W
  wh : W.wh.getD 0 0 = 0
  st : 0 ≤ W.st ∧ W.st ≤ 1000
  n : W.n = 0
theorem d_sleep {B : KB} {y : PD} {t : Th} {p0 : Nat} (T : Turn B y.x 0 t) (z : Code.Prg) (n : Nat) (hx : B.J.PS[n]? = some z) (hpr : t.prog = n) (pc : Nat) (hpc : t.pc = pc) (hi : z.L[pc]? = some ⟨7, 0, 0, 0, 62⟩) (hpk : pc ≤ 1000) (hln : y.x.ln ≤ 100000) (han : y.x.an ≤ 100000)
    (h2 : t.r 2 = 1) (h3 : t.r 3 = 0) (h4 : t.r 4 = 1) (I : Leaves y.x 0 p0) (k : Nat) (hk : k < 64) (hmo : 0 ≤ y.mo) (hmk : y.mo + 1 = k) (hre : 0 ≤ y.re ∧ y.re ≤ 1000) (F : Free y.W1 y.mo) (hact : Can.actsF t.can true = false) :
    DoesTo B evRun (fun S => NowD S B y) (fun S => ∃ g cap cur, Row1 cur cap k (y.W1.st + 1) ∧ NowD S B (y.slept t pc k g cap cur)) := by
  intro W S N hW
  have Rn := T.runD N
  have ht : S.th 0 = some t := Rn.th
  have hpol : t.pol ≠ 2 := N.ok.C.pol 0 t ht
  have C0 : CalmM (S.stepped 0 t ((pc : Int) + 1) t.r) y.mx := ⟨N.ok.C.stepped (S := { S with muT := muT0 }) ht T.p16 _ _, HasMuE.same N.ok.H rfl rfl rfl⟩
  have ht0 : (S.stepped 0 t ((pc : Int) + 1) t.r).th 0 = some { t with pc := (pc : Int) + 1, r := t.r } := put_self S.th 0 _
  have I0 : InSeq (S.stepped 0 t ((pc : Int) + 1) t.r) 0 p0 := ⟨by show (S.L.getD 0 Hs.no).isIn = true; rw [N.L]; exact I.isIn, I.q1, I.q32, by show S.R.pr.getD 0 0 = p0; rw [N.R]; exact I.pr, by show Lk (S.R.pv.getD 0 0); rw [N.R]; exact I.pv, by show Lk (S.R.nx.getD 0 0); rw [N.R]; exact I.nx, by show 0 ≤ S.st + 1; rw [N.st]; have := T.s0; omega, by show S.st + 1 ≤ 600000000; rw [N.st]; have := T.s1; omega⟩
  have okS : ∀ g cap cur, CalmM ((S.stepped 0 t ((pc : Int) + 1) t.r).slept 0 { t with pc := (pc : Int) + 1, r := t.r } sleepW k g cap cur) y.mx := fun g cap cur => by
    have hth : ((S.stepped 0 t ((pc : Int) + 1) t.r).slept 0 { t with pc := (pc : Int) + 1, r := t.r } sleepW k g cap cur).th = put (S.stepped 0 t ((pc : Int) + 1) t.r).th 0 (some { t with pc := (pc : Int) + 1, r := t.r, wt := sleepW }) := by
      show put (put (S.stepped 0 t ((pc : Int) + 1) t.r).th 0 _) 0 _ = _
      rw [put_put]
    have P1 := C0.C.P.setTh (S := ({ S.stepped 0 t ((pc : Int) + 1) t.r with muT := muT0 } : KS)) (p := 0) (t := { t with pc := (pc : Int) + 1, r := t.r }) (t' := { t with pc := (pc : Int) + 1, r := t.r, wt := sleepW }) ht0 rfl (N.ok.P.can 0 t ht)
    refine ⟨⟨?_, ?_, ?_, ?_, C0.C.mu⟩, ?_⟩
    · have P2 : KP ({ (({ S.stepped 0 t ((pc : Int) + 1) t.r with muT := muT0 } : KS).setTh 0 { t with pc := (pc : Int) + 1, r := t.r, wt := sleepW }) with W1 := S.W1.setF k (.slice (some ⟨g, 0, none⟩) 1 cap), L := S.L.set 0 Hs.no, R := S.R.remF 0 } : KS) := { P1 with W1 := Wh.setF_ok N.ok.P.W1 _ _, L := by show (S.L.set 0 Hs.no).length = 16; rw [List.length_set]; exact N.ok.P.L, R := RdOk.remF N.ok.P.R 0 }
      exact { P2 with
        tp := fun p hp => by show S.tp p = Option.map _ (((S.stepped 0 t ((pc : Int) + 1) t.r).slept 0 { t with pc := (pc : Int) + 1, r := t.r } sleepW k g cap cur).th p); rw [hth]; exact P2.tp p hp
        can := fun p x hx => P2.can p x (by rw [← hx]; show _ = ((S.stepped 0 t ((pc : Int) + 1) t.r).slept 0 { t with pc := (pc : Int) + 1, r := t.r } sleepW k g cap cur).th p; rw [hth]; rfl)
        thn := fun p x hx => P2.thn p x (by rw [← hx]; show _ = ((S.stepped 0 t ((pc : Int) + 1) t.r).slept 0 { t with pc := (pc : Int) + 1, r := t.r } sleepW k g cap cur).th p; rw [hth]; rfl) }
    · intro p x hx
      have hx : ((S.stepped 0 t ((pc : Int) + 1) t.r).slept 0 { t with pc := (pc : Int) + 1, r := t.r } sleepW k g cap cur).th p = some x := hx
      rw [hth] at hx
      rcases put_some (S := S.stepped 0 t ((pc : Int) + 1) t.r) hx with ⟨_, rfl⟩ | ⟨_, hx⟩
      · exact hpol
      · exact C0.C.pol p x hx
    · intro p x hx
      have hx : ((S.stepped 0 t ((pc : Int) + 1) t.r).slept 0 { t with pc := (pc : Int) + 1, r := t.r } sleepW k g cap cur).th p = some x := hx
      rw [hth] at hx
      rcases put_some (S := S.stepped 0 t ((pc : Int) + 1) t.r) hx with ⟨_, rfl⟩ | ⟨_, hx⟩
      · show (11 : Int) ≠ 2; decide
      · exact C0.C.kd p x hx
    · intro p x hp hx hen
      have hx : ((S.stepped 0 t ((pc : Int) + 1) t.r).slept 0 { t with pc := (pc : Int) + 1, r := t.r } sleepW k g cap cur).th p = some x := hx
      rw [hth] at hx
      rcases put_some (S := S.stepped 0 t ((pc : Int) + 1) t.r) hx with ⟨e, rfl⟩ | ⟨_, hx⟩
      · exact N.ok.C.ba 0 t (by decide) ht hen
      · exact C0.C.ba p x hp hx hen
    · obtain ⟨b, q, gg, H⟩ := C0.H
      exact ⟨b, q, gg, H.same3 (by show put S.ext 5 (some (g, .cells cur 422 (0, 0))) 2 = S.ext 2; exact put_ne _ _ (by decide)) (by show put S.ext 5 (some (g, .cells cur 422 (0, 0))) 3 = S.ext 3; exact put_ne _ _ (by decide)) (by show put S.ext 5 (some (g, .cells cur 422 (0, 0))) 4 = S.ext 4; exact put_ne _ _ (by decide)) rfl rfl⟩
  refine (do_m W S N.B hW 1 0 (fun Sf => ∃ g cap cur, Row1 cur cap k (S.W1.st + 1) ∧ Sf = (S.stepped 0 t ((pc : Int) + 1) t.r).slept 0 { t with pc := (pc : Int) + 1, r := t.r } sleepW k g cap cur) ?_ (.inl ⟨rfl, fun W hW => run_call W S N.B hW N.ok.P 0 t Rn z n (by rw [N.B]; exact hx) hpr pc hpc ⟨7, 0, 0, 0, 62⟩ hi _ rfl hpk fun W1 hW1 => ?_⟩)).mono ?_
  · rintro Sf ⟨g, cap, cur, _, rfl⟩
    exact ⟨rfl, by show S.lo.ln ≤ _; rw [N.ln]; exact hln, _, okS g cap cur⟩
  · refine (call_left W1 (S.stepped 0 t ((pc : Int) + 1) t.r) N.B hW1 C0.P 0 { t with pc := (pc : Int) + 1, r := t.r } T.p16 ht0 62 269 true (fun S1 t1 => ∃ g cap cur, Row1 cur cap k (S.W1.st + 1) ∧ S1 = (S.stepped 0 t ((pc : Int) + 1) t.r).slept 0 { t with pc := (pc : Int) + 1, r := t.r } sleepW k g cap cur ∧ t1 = { t with pc := (pc : Int) + 1, r := t.r, wt := sleepW }) (enters_of Tryz.func269 (by kernel_rfl) rfl) rfl (fun W => points_yes W 62 (.inr (.inr rfl))) (fun _ => hact) ?_ ?_).mono ?_
    · rintro S1 t1 ⟨g, cap, cur, _, rfl, rfl⟩
      exact ⟨rfl, put_self (put (S.stepped 0 t ((pc : Int) + 1) t.r).th 0 (some { t with pc := (pc : Int) + 1, r := t.r, wt := sleepW })) 0 (some { t with pc := (pc : Int) + 1, r := t.r, wt := sleepW }), rfl, by show S.lo.an ≤ _; rw [N.an]; exact han⟩
    · intro W2 hW2
      refine (callSleep_c W2 (S.stepped 0 t ((pc : Int) + 1) t.r) N.B hW2 C0.P k { t with pc := (pc : Int) + 1, r := t.r } p0 ht0 h2 h3 h4 hpol I0 hk (by show 0 ≤ S.re ∧ S.re ≤ 1000; rw [N.re]; exact hre) (by show 0 ≤ S.mo; rw [N.mo]; exact hmo) (by show S.mo + 1 = k; rw [N.mo]; exact hmk) N.ok.P.W1 (by show S.W1.rings[k]? = _; rw [N.W1]; exact F.rings k (by omega) hk) (by show S.W1.wh.getD 0 0 = 0; rw [N.W1]; exact F.wh) (by show 0 ≤ S.W1.st ∧ S.W1.st ≤ 1000; rw [N.W1]; exact F.st) (by show 0 ≤ S.W1.n ∧ S.W1.n ≤ 1000; rw [N.W1, F.n]; decide)).mono ?_
      rintro e w' ⟨g, cap, cur, rfl, r1, k1, f1⟩
      exact ⟨_, _, rfl, ⟨g, cap, cur, r1, rfl, rfl⟩, k1, f1⟩
    · rintro e w' ⟨S1, t1, rfl, ⟨g, cap, cur, r1, rfl, rfl⟩, k1, f1⟩
      exact ⟨_, rfl, ⟨g, cap, cur, r1, rfl⟩, k1, f1⟩
  · rintro e w' ⟨Sf, v, rfl, ⟨g, cap, cur, r1, rfl⟩, k1, f1⟩
    rw [N.W1] at r1
    refine ⟨((S.stepped 0 t ((pc : Int) + 1) t.r).slept 0 { t with pc := (pc : Int) + 1, r := t.r } sleepW k g cap cur).ev v, rfl, ⟨g, cap, cur, r1, ⟨N.B, N.T, ?_, ?_, ?_, ?_, ?_, N.an, N.notes, N.W0, ?_, N.mo, N.re, put_self S.ext 5 _, (okS g cap cur).ev v⟩⟩, k1, f1⟩
    · show S.L.set 0 _ = y.x.L.set 0 _; rw [N.L]
    · show S.R.remF 0 = y.x.R.remF 0; rw [N.R]
    · show S.st + 1 + 2 = y.x.st + 3; rw [N.st]; omega
    · show put (put (put S.th 0 (some { t with pc := (pc : Int) + 1, r := t.r })) 0 (some { t with pc := (pc : Int) + 1, r := t.r, wt := sleepW })) 0 (some { t with pc := (pc : Int) + 1, r := t.r, wt := sleepW }) = put y.x.th 0 (some { t with pc := (pc : Int) + 1, wt := sleepW })
      rw [put_put, put_put, N.th]
    · show S.lo.ln + 1 = y.x.ln + 1; rw [N.ln]
    · show S.W1.setF k _ = y.W1.setF k _; rw [N.W1]
end Go.Proofs.YtagmlijhgncklaaGreatDoor.Ker
namespace Go.Proofs.YtagmlijhgncklaaGreatDoor.Ker
open Go.RowKit Go.Proofs.YtagmlijhgncklaaGreatDoor Go.Proofs.YtagmlijhgncklaaGreatDoor.Code

def PD.tocked (y : PD) (d : Int) : PD := { y with x := { y.x with st := y.x.st + d, ln := y.x.ln + 1 }, mo := Clk.upF y.mo, re := Clk.upF y.re }
theorem CalmM.clock {S : KS} {mx : Mx.Mu} (C : CalmM S mx) : CalmM ({ S with re := Clk.upF S.re, mo := Clk.upF S.mo } : KS) mx :=
  ⟨C.C.ticked (S := { S with muT := muT0 }), HasMuE.same C.H rfl rfl rfl⟩
theorem d_tick_fifo {B : KB} {y : PD} {p : Nat} {t : Th} (T : Turn B y.x p t) (hln : y.x.ln ≤ 100000) (hr : (y.x.L.getD p Hs.no).rob = false) (q0 : Quiet y.W0) (q1 : Quiet y.W1) : DoesTo B evTick (fun S => NowD S B y) (fun S => NowD S B (y.tocked 2)) := by
  intro W S N hW
  have hB := N.B
  subst hB
  have Rn := T.runD N
  obtain ⟨S2, hS2⟩ : ∃ S2 : KS, S2 = { S with st := S.st + 1 + 1 } := ⟨_, rfl⟩
  have C2 : CalmM S2 y.mx := by rw [hS2]; exact ⟨⟨{ N.ok.C.P with }, N.ok.C.pol, N.ok.C.kd, N.ok.C.ba, N.ok.C.mu⟩, HasMuE.same N.ok.H rfl rfl rfl⟩
  have e2 : S2.B = S.B ∧ S2.th = S.th ∧ S2.re = S.re ∧ S2.mo = S.mo ∧ S2.W0 = S.W0 ∧ S2.W1 = S.W1 := by rw [hS2]; exact ⟨rfl, rfl, rfl, rfl, rfl, rfl⟩
  have C3 : CalmM ({ S2 with re := Clk.upF S.re, mo := Clk.upF S.mo } : KS) y.mx := by have q := C2.clock; rw [e2.2.2.1, e2.2.2.2.1] at q; exact q
  refine (do_m W S rfl hW 2 0 (fun Sf => Sf = { S2 with re := Clk.upF S.re, mo := Clk.upF S.mo }) (by rintro Sf rfl; exact ⟨e2.1, by rw [hS2]; show S.lo.ln ≤ _; rw [N.ln]; exact hln, _, C3⟩) (.inr ⟨rfl, fun W hW => (tick_c W S S2 rfl hW N.ok.P p t Rn N.ok.C.pol (by rw [N.W0]; exact q0) (by rw [N.W1]; exact q1) e2 C2.P (.int .i64 0) (.bool false) ?_).mono ?_⟩)).mono ?_
  · intro W1 hW1
    refine (tick_fifo W1 S.B.tb S.B.rb S.B.J.q S.L S.R (S.st + 1) p (hW1.tn N.ok.P.L N.ok.P.R) Rn.first T.p16 (by rw [N.L]; exact hr) Rn.b1 Rn.b2 Rn.sm (by have := Rn.s0; omega) (by have := Rn.s1; omega)).mono ?_
    rintro e w' ⟨rfl, T1, U⟩
    have q := hW1.turns (S := { S with st := S.st + 1 }) T1 U
    rw [hS2]
    exact ⟨rfl, q.1, q.2⟩
  · rintro e w' ⟨rfl, k1, f1⟩
    exact ⟨_, rfl, rfl, k1, f1⟩
  · rintro e w' ⟨Sf, v, rfl, rfl, k1, f1⟩
    refine ⟨_, rfl, ?_, k1, f1⟩
    have okv := C3.ev v
    rw [hS2] at okv ⊢
    refine ⟨rfl, N.T, N.L, N.R, ?_, N.th, ?_, N.an, N.notes, N.W0, N.W1, ?_, ?_, N.e5, okv⟩
    · show S.st + 1 + 1 = y.x.st + 2; rw [N.st]; omega
    · show S.lo.ln + 1 = y.x.ln + 1; rw [N.ln]
    · show Clk.upF S.mo = Clk.upF y.mo; rw [N.mo]
    · show Clk.upF S.re = Clk.upF y.re; rw [N.re]
theorem d_tick_idle {B : KB} {y : PD} (hs : y.x.R.sm = 0) (hln : y.x.ln ≤ 100000) (q0 : Quiet y.W0) (q1 : Quiet y.W1) : DoesTo B evTick (fun S => NowD S B y) (fun S => NowD S B (y.tocked 0)) := by
  intro W S N hW
  refine (do_m W S N.B hW 2 0 (fun Sf => Sf = { S with re := Clk.upF S.re, mo := Clk.upF S.mo }) (by rintro Sf rfl; exact ⟨rfl, by show S.lo.ln ≤ _; rw [N.ln]; exact hln, _, N.ok.clock⟩) (.inr ⟨rfl, fun W hW => (tickN_c W S N.B hW N.ok.P (by rw [N.R]; exact hs) N.ok.C.pol (by rw [N.W0]; exact q0) _ fun W1 hW1 => (due_c W1 ({ S with re := Clk.upF S.re, mo := Clk.upF S.mo } : KS) (B := B) N.B hW1 N.ok.clock.P (by show Quiet S.W0; rw [N.W0]; exact q0) (by show Quiet S.W1; rw [N.W1]; exact q1) 1 (.inr rfl)).mono ?_)⟩)).mono ?_
  · rintro e w' ⟨rfl, b⟩
    exact ⟨_, rfl, rfl, hW1.reads b, Fr.reads _ b⟩
  · rintro e w' ⟨Sf, v, rfl, rfl, k1, f1⟩
    refine ⟨({ S with re := Clk.upF S.re, mo := Clk.upF S.mo } : KS).ev v, rfl, ⟨N.B, N.T, N.L, N.R, ?_, N.th, ?_, N.an, N.notes, N.W0, N.W1, ?_, ?_, N.e5, N.ok.clock.ev v⟩, k1, f1⟩
    · show S.st = y.x.st + 0; rw [N.st]; omega
    · show S.lo.ln + 1 = y.x.ln + 1; rw [N.ln]
    · show Clk.upF S.mo = Clk.upF y.mo; rw [N.mo]
    · show Clk.upF S.re = Clk.upF y.re; rw [N.re]
/-- The main thread wakes. -/
def PD.woken (y : PD) (t : Th) (pr k : Nat) (q : Int) (a : Option Addr) (c : Nat) : PD :=
  { y with x := { y.x with st := y.x.st + 4, ln := y.x.ln + 1, an := y.x.an + 1, th := put y.x.th 0 (some (({ t with wt := Wt.no } : Th).ans 0 0)), L := y.x.L.set 0 ⟨true, decide (t.pol = 1), pr, q⟩, R := y.x.R.tailF pr 0 }, W1 := y.W1.remF k (.slice a 0 c), mo := Clk.upF y.mo, re := Clk.upF y.re }
theorem d_tick_wake {B : KB} {y : PD} {t : Th} {pr k g cap : Nat} {cur : Array Value} {q : Int} (hs : y.x.R.sm = 0) (hln : y.x.ln ≤ 100000) (han : y.x.an ≤ 100000) (q0 : Quiet y.W0) (R1 : Row1 cur cap k q) (he5 : y.e5 = some (g, .cells cur 422 (0, 0)))
    (th : y.x.th 0 = some t) (wt : t.wt = sleepW) (eff : t.eff = pr) (h1 : 1 ≤ pr) (h32 : pr < 32) (isIn : (y.x.L.getD 0 Hs.no).isIn = false) (z : y.x.R.pr.getD 0 0 = 0) (l : Lk (y.x.R.tl.getD pr 0)) (s0 : 0 ≤ y.x.st) (s1 : y.x.st ≤ 800000000) (w0 : y.W0.wh.getD 0 0 = 0)
    (hk : k < 64) (hr : y.W1.rings[k]? = some (.slice (some ⟨g, 0, none⟩) 1 cap)) (hbut : But y.W1 k) (hw : y.W1.wh.getD 0 0 = k + 1) (hn : 0 ≤ y.W1.n ∧ y.W1.n ≤ 1000) (hmo : (k : Int) ≤ Clk.upF y.mo) :
    DoesTo B evTick (fun S => NowD S B y) (fun S => ∃ a c, NowD S B (y.woken t pr k B.J.q a c)) := by
  intro W S N hW
  have hB := N.B
  subst hB
  obtain ⟨S3, hS3⟩ : ∃ S3 : KS, S3 = { S with re := Clk.upF S.re, mo := Clk.upF S.mo } := ⟨_, rfl⟩
  have C3 : CalmM S3 y.mx := by rw [hS3]; exact N.ok.clock
  have th3 : S3.th 0 = some t := by rw [hS3]; show S.th 0 = _; rw [N.th]; exact th
  have pol : t.pol ≠ 2 := C3.C.pol 0 t th3
  have D := fun W1 (hW1 : KW W1 S3) => dueW_c W1 S3 (B := S.B) (by rw [hS3]) hW1 C3.P t pr k g cap cur q R1 (by rw [hS3]; show S.ext 5 = _; rw [N.e5]; exact he5) th3 wt pol eff h1 h32 (by rw [hS3]; show (S.L.getD 0 Hs.no).isIn = _; rw [N.L]; exact isIn) (by rw [hS3]; show S.R.pr.getD 0 0 = 0; rw [N.R]; exact z) (by rw [hS3]; show Lk (S.R.tl.getD pr 0); rw [N.R]; exact l) (by rw [hS3]; show 0 ≤ S.st; rw [N.st]; exact s0) (by rw [hS3]; show S.st ≤ _; rw [N.st]; exact s1) (by rw [hS3]; show S.W0.wh.getD 0 0 = 0; rw [N.W0]; exact w0) (by rw [hS3]; show S.lo.an ≤ _; rw [N.an]; exact han) hk (by rw [hS3]; show S.W1.rings[k]? = _; rw [N.W1]; exact hr) (by rw [hS3]; show But S.W1 k; rw [N.W1]; exact hbut) (by rw [hS3]; show S.W1.wh.getD 0 0 = _; rw [N.W1]; exact hw) (by rw [hS3]; show 0 ≤ S.W1.n ∧ S.W1.n ≤ 1000; rw [N.W1]; exact hn) (by rw [hS3]; show (k : Int) ≤ Clk.upF S.mo; rw [N.mo]; exact hmo)
  have CU : ∀ a c, CalmM (({ S3 with W1 := S3.W1.remF k (.slice a 0 c) } : KS).unbl t pr) y.mx := fun a c => by
    have P1 := C3.C.P.setTh (S := ({ S3 with muT := muT0 } : KS)) (p := 0) (t := t) (t' := { t with wt := Wt.no }) th3 rfl (C3.P.can 0 t th3)
    refine ⟨⟨{ P1 with W1 := Wh.remF_ok C3.P.W1 _ _, L := by show (S3.L.set 0 _).length = 16; rw [List.length_set]; exact C3.P.L, R := RdOk.tailF C3.P.R h32 0 }, ?_, ?_, ?_, C3.C.mu⟩, HasMuE.same C3.H rfl rfl rfl⟩
    · intro p x hx
      rcases put_some (S := S3) hx with ⟨_, rfl⟩ | ⟨_, hx⟩
      · exact pol
      · exact C3.C.pol p x hx
    · intro p x hx
      rcases put_some (S := S3) hx with ⟨_, rfl⟩ | ⟨_, hx⟩
      · show (0 : Int) ≠ 2; decide
      · exact C3.C.kd p x hx
    · intro p x hp hx hen
      rcases put_some (S := S3) hx with ⟨_, rfl⟩ | ⟨_, hx⟩
      · exact C3.C.ba 0 t (by decide) th3 hen
      · exact C3.C.ba p x hp hx hen
  have CW : ∀ a c v, CalmM (S3.dueW t pr k a c v) y.mx := fun a c v => (CU a c).ans (p := 0) (t := { t with wt := Wt.no }) (show put S3.th 0 (some { t with wt := Wt.no }) 0 = some { t with wt := Wt.no } from put_self S3.th 0 _) (by decide) 0 0 v
  refine (do_m W S rfl hW 2 0 (fun Sf => ∃ a c v, Sf = S3.dueW t pr k a c v) ?_ (.inr ⟨rfl, fun W hW => (tickN_c W S rfl hW N.ok.P (by rw [N.R]; exact hs) N.ok.C.pol (by rw [N.W0]; exact q0) (fun Sf => ∃ a c v, Sf = S3.dueW t pr k a c v) fun W1 hW1 => ?_)⟩)).mono ?_
  · rintro Sf ⟨a, c, v, rfl⟩
    exact ⟨by rw [hS3]; rfl, by rw [hS3]; show S.lo.ln ≤ _; rw [N.ln]; exact hln, _, CW a c v⟩
  · rw [← hS3] at hW1 ⊢
    refine (D W1 hW1).mono ?_
    rintro e w' ⟨a, c, v, rfl, k1, f1⟩
    exact ⟨_, rfl, ⟨a, c, v, rfl⟩, k1, f1⟩
  · rintro e w' ⟨Sf, v, rfl, ⟨a, c, u, rfl⟩, k1, f1⟩
    refine ⟨_, rfl, ⟨a, c, ?_⟩, k1, f1⟩
    have okv := (CW a c u).ev v
    rw [hS3] at okv ⊢
    refine ⟨rfl, N.T, ?_, ?_, ?_, ?_, ?_, ?_, N.notes, N.W0, ?_, ?_, ?_, N.e5, okv⟩
    · show S.L.set 0 _ = y.x.L.set 0 _; rw [N.L]
    · show S.R.tailF pr 0 = y.x.R.tailF pr 0; rw [N.R]
    · show S.st + 4 = y.x.st + 4; rw [N.st]
    · show put (put S.th 0 (some { t with wt := Wt.no })) 0 (some (({ t with wt := Wt.no } : Th).ans 0 0)) = put y.x.th 0 (some (({ t with wt := Wt.no } : Th).ans 0 0))
      rw [put_put, N.th]
    · show S.lo.ln + 1 = y.x.ln + 1; rw [N.ln]
    · show S.lo.an + 1 = y.x.an + 1; rw [N.an]
    · show S.W1.remF k _ = y.W1.remF k _; rw [N.W1]
    · show Clk.upF S.mo = Clk.upF y.mo; rw [N.mo]
    · show Clk.upF S.re = Clk.upF y.re; rw [N.re]
end Go.Proofs.YtagmlijhgncklaaGreatDoor.Ker
namespace Go.Proofs.YtagmlijhgncklaaGreatDoor.Ker
open Go.RowKit Go.Proofs.YtagmlijhgncklaaGreatDoor Go.Proofs.YtagmlijhgncklaaGreatDoor.Code

/-- How a kernel stands before there is a mutex. -/
structure NowI (S : KS) (B : KB) (x : Pl) : Prop where
  N : Now S B x
  mt : S.muT = muT0
  W0 : S.W0 = Wh.new
  W1 : S.W1 = Wh.new
  mo : S.mo = 0
  re : S.re = 0
  e5 : S.ext 5 = none
theorem nowI_step {B : KB} {x : Pl} {p : Nat} {t : Th} (T : Turn B x p t) (y : Code.Prg) (n : Nat) (hx : B.J.PS[n]? = some y) (hpr : t.prog = n) (k : Nat) (hpc : t.pc = k) (i : Code.Ins) (hi : y.L[k]? = some i) (hln : x.ln ≤ 100000)
    (pc' : Int) (r' : Nat → Int) (hop : i.op ≠ 0 ∧ i.op ≠ 7 ∧ i.op ≠ 8) (A : StepsTo i k t.r pc' r') : DoesTo B evRun (fun S => NowI S B x) (fun S => NowI S B (x.stepped p t pc' r')) := by
  intro W S I hW
  have N := I.N
  refine (do_step W S N.B hW N.calm p t (T.run N) y n (by rw [N.B]; exact hx) hpr k hpc i hi (by rw [N.ln]; exact hln) pc' r' hop A).mono ?_
  rintro e w' ⟨v, rfl, k1, f1⟩
  have ht : S.th p = some t := (T.run N).th
  refine ⟨(S.stepped p t pc' r').ev v, rfl, ⟨⟨N.B, N.T, N.L, N.R, ?_, ?_, ?_, N.an, N.notes, (N.calm.stepped ht T.p16 pc' r').ev v, N.q0, N.q1⟩, I.mt, I.W0, I.W1, I.mo, I.re, I.e5⟩, k1, f1⟩
  · show S.st + 1 = x.st + 1; rw [N.st]
  · show put S.th p _ = put x.th p _; rw [N.th]
  · show S.lo.ln + 1 = x.ln + 1; rw [N.ln]
/-- The mutex is made. -/
theorem nowI_mutex {B : KB} {x : Pl} {p : Nat} {t : Th} (T : Turn B x p t) (z : Code.Prg) (n : Nat) (hx : B.J.PS[n]? = some z) (hpr : t.prog = n) (k : Nat) (hpc : t.pc = k) (hi : z.L[k]? = some ⟨7, 0, 0, 0, 11⟩) (hk : k ≤ 1000) (hln : x.ln ≤ 100000) (han : x.an ≤ 100000)
    (h2 : t.r 2 = 0) (h3 : t.r 3 = 0) (h4 : t.r 4 = 0) (h5 : t.r 5 = 1) :
    DoesTo B evRun (fun S => NowI S B x) (fun S => NowD S B ((PD.mk x ⟨-1, 0, 0⟩ Wh.new Wh.new 0 0 none).mud p t k 16 0 ⟨-1, 0, 0⟩)) := by
  intro W S I hW
  have N := I.N
  have Rn := T.run N
  have ht : S.th p = some t := Rn.th
  have C0 : Calm (S.stepped p t ((k : Int) + 1) t.r) := N.calm.stepped ht T.p16 _ _
  have ht0 : (S.stepped p t ((k : Int) + 1) t.r).th p = some { t with pc := (k : Int) + 1, r := t.r } := put_self S.th p _
  have ok0 : ∀ g, CalmM ((S.stepped p t ((k : Int) + 1) t.r).mued g) ⟨-1, 0, 0⟩ := fun g => by
    refine ⟨⟨{ C0.P with mu1 := (by show 1 ≤ muT0.length; decide), mu2 := (by show muT0.length ≤ 16; decide), mug := mu0_ok }, C0.pol, C0.kd, C0.ba, ?_⟩, _, _, _, HasMu.new (S.stepped p t ((k : Int) + 1) t.r) g⟩
    intro i
    have q := C0.mu i
    rw [show (S.stepped p t ((k : Int) + 1) t.r).muT = muT0 from I.mt] at q
    exact q
  have ok1 : ∀ g av, CalmM (((S.stepped p t ((k : Int) + 1) t.r).mued g).ans p (({ t with pc := (k : Int) + 1, r := t.r } : Th).ans 16 0) av) ⟨-1, 0, 0⟩ := fun g av => (ok0 g).ans (p := p) (t := { t with pc := (k : Int) + 1, r := t.r }) ht0 T.p16 16 0 av
  refine (do_m W S N.B hW 1 0 (fun Sf => ∃ g av, Sf = ((S.stepped p t ((k : Int) + 1) t.r).mued g).ans p (({ t with pc := (k : Int) + 1, r := t.r } : Th).ans 16 0) av) ?_ (.inl ⟨rfl, fun W hW => run_call W S N.B hW N.calm.P p t Rn z n (by rw [N.B]; exact hx) hpr k hpc ⟨7, 0, 0, 0, 11⟩ hi _ rfl hk fun W1 hW1 => ?_⟩)).mono ?_
  · rintro Sf ⟨g, av, rfl⟩
    exact ⟨rfl, by show S.lo.ln ≤ _; rw [N.ln]; exact hln, _, ok1 g av⟩
  · refine (call_ret W1 (S.stepped p t ((k : Int) + 1) t.r) N.B hW1 C0.P p { t with pc := (k : Int) + 1, r := t.r } T.p16 ht0 11 218 16 false (fun S2 t1 => t1 = { t with pc := (k : Int) + 1, r := t.r } ∧ ∃ g, S2 = (S.stepped p t ((k : Int) + 1) t.r).mued g) (enters_of Tryz.func218 (by kernel_rfl) rfl) rfl (fun W => points_no W 11 (by decide)) (fun h => by cases h) ?_ ?_).mono ?_
    · rintro S2 t1 ⟨rfl, g, rfl⟩
      exact ⟨rfl, ht0, rfl, by show S.lo.an ≤ _; rw [N.an]; exact han⟩
    · intro W2 hW2
      refine (callMutex_c W2 (S.stepped p t ((k : Int) + 1) t.r) N.B hW2 p { t with pc := (k : Int) + 1, r := t.r } T.p16 ht0 h2 h3 h4 h5 I.mt).mono ?_
      rintro e w' ⟨g, rfl, k1, f1⟩
      exact ⟨_, _, rfl, ⟨rfl, g, rfl⟩, k1, f1⟩
    · rintro e w' ⟨S2, t1, av, rfl, ⟨rfl, g, rfl⟩, k1, f1⟩
      exact ⟨_, rfl, ⟨g, av, rfl⟩, k1, f1⟩
  · rintro e w' ⟨Sf, v, rfl, ⟨g, av, rfl⟩, k1, f1⟩
    refine ⟨(((S.stepped p t ((k : Int) + 1) t.r).mued g).ans p (({ t with pc := (k : Int) + 1, r := t.r } : Th).ans 16 0) av).ev v, rfl, ⟨N.B, N.T, N.L, N.R, ?_, ?_, ?_, ?_, N.notes, I.W0, I.W1, I.mo, I.re, ?_, (ok1 g av).ev v⟩, k1, f1⟩
    · show S.st + 1 = x.st + 1; rw [N.st]
    · show put (put S.th p (some { t with pc := (k : Int) + 1, r := t.r })) p (some (({ t with pc := (k : Int) + 1, r := t.r } : Th).ans 16 0)) = put x.th p (some (({ t with pc := (k : Int) + 1 } : Th).ans 16 0))
      rw [put_put, N.th]
    · show S.lo.ln + 1 = x.ln + 1; rw [N.ln]
    · show S.lo.an + 1 = x.an + 1; rw [N.an]
    · show (((S.stepped p t ((k : Int) + 1) t.r).mu3 g).ext 5) = none
      unfold KS.mu3
      rw [mark_ne _ _ _ _ (by decide), mark_ne _ _ _ _ (by decide), mark_ne _ _ _ _ (by decide)]
      exact I.e5
/-- k runs lead from what A says to what A' says. -/
def Steps (B : KB) : Nat → (KS → Prop) → (KS → Prop) → Prop
  | 0, A, A' => ∀ S, A S → A' S
  | k + 1, A, A' => ∃ M, DoesTo B evRun A M ∧ Steps B k M A'
theorem Steps.refl (B : KB) (A : KS → Prop) : Steps B 0 A A := fun _ h => h
theorem Steps.cons {B : KB} {k : Nat} {A M A' : KS → Prop} (h : DoesTo B evRun A M) (t : Steps B k M A') : Steps B (k + 1) A A' := ⟨M, h, t⟩
theorem Steps.pre {B : KB} : ∀ {k : Nat} {A0 A A' : KS → Prop}, (∀ S, A0 S → A S) → Steps B k A A' → Steps B k A0 A'
  | 0, _, _, _, h, t => fun S hS => t S (h S hS)
  | _ + 1, _, _, _, h, ⟨M, d, t⟩ => ⟨M, fun W S hS hW => d W S (h S hS) hW, t⟩
theorem Steps.post {B : KB} : ∀ {k : Nat} {A A1 A' : KS → Prop}, Steps B k A A1 → (∀ S, A1 S → A' S) → Steps B k A A'
  | 0, _, _, _, t, h => fun S hS => h S (t S hS)
  | _ + 1, _, _, _, ⟨M, d, t⟩, h => ⟨M, d, t.post h⟩
theorem Steps.trans {B : KB} : ∀ {k l : Nat} {A M A' : KS → Prop}, Steps B k A M → Steps B l M A' → Steps B (l + k) A A'
  | 0, _, _, _, _, h, t => t.pre h
  | k + 1, l, _, _, _, ⟨N, d, h⟩, t => ⟨N, d, h.trans t⟩
/-- Of an existing one. -/
theorem Steps.ex {B : KB} {α : Type} {k : Nat} {A : α → KS → Prop} {A' : KS → Prop} (h : ∀ a, Steps B k (A a) A') : Steps B k (fun S => ∃ a, A a S) A' := by
  induction k generalizing A with
  | zero => rintro S ⟨a, ha⟩; exact h a S ha
  | succ k ih =>
    refine ⟨fun S => ∃ a, (h a).choose S, ?_, ih fun a => (h a).choose_spec.2⟩
    rintro W S ⟨a, ha⟩ hW
    refine ((h a).choose_spec.1 W S ha hW).mono ?_
    rintro e w' ⟨S', rfl, h1, k1, f1⟩
    exact ⟨S', rfl, ⟨a, h1⟩, k1, f1⟩
set_option maxRecDepth 100000 in
theorem run18_c (w : World) (S : KS) {B : KB} (h : KW w S) (A M : Nat → KS → Prop) (h0 : A 0 S) (hA : ∀ j, j < 60 → Steps B 20 (A j) (M j)) (hM : ∀ j, j < 60 → DoesTo B evTick (M j) (A (j + 1))) :
    Calls Tryz.prog 18 #[.pointer (some ⟨B.kb, 0, none⟩), .int .i64 60, .int .i64 20] w fun e w' => ∃ S', e = .returned (.tuple #[]) ∧ A 60 S' ∧ KW w' S' ∧ Fr S S' w w' := by
  have HA := Lib.hid hA
  have HM := Lib.hid hM
  have H0 := Lib.hid h0
  have HK := Lib.hid h
  clear h hA hM h0
  go_enter Tryz.func18, Tryz.ntmps18
  go_wp2_with fail
  go_loopw [6] (fun i wr => ∃ (j : Nat) (S1 : KS), i = .int .i64 j ∧ j ≤ 60 ∧ A j S1 ∧ KW wr S1 ∧ Fr S S1 w wr) (fun i _ => 60 - (intOf i).toNat)
  case atStart => exact ⟨0, S, rfl, by omega, H0.out, HK.out, Fr.refl _ _⟩
  case round =>
    obtain ⟨j, S1, rfl, hj, a1, k1, f1⟩ := hrel
    by_cases hlt : j < 60
    · have HA1 := Lib.hid (HA.out j hlt)
      have HM1 := Lib.hid (HM.out j hlt)
      have HX := Lib.hid a1
      have HK1 := Lib.hid k1
      have HF1 := Lib.hid f1
      clear a1 k1 f1
      go_wp2_with fail
      go_loopw [7] (fun n wi => ∃ (c : Nat) (S2 : KS) (X : KS → Prop), n = .int .i64 c ∧ c ≤ 20 ∧ X S2 ∧ Steps B (20 - c) X (M j) ∧ KW wi S2 ∧ Fr S S2 w wi) (fun n _ => 20 - (intOf n).toNat)
      case atStart => exact ⟨0, S1, A j, rfl, by omega, HX.out, HA1.out, HK1.out, HF1.out⟩
      case round =>
        obtain ⟨c, S2, X, rfl, hc, x2, st2, k2, f2⟩ := hrel
        by_cases hlc : c < 20
        · rw [show 20 - c = (20 - (c + 1)) + 1 by omega] at st2
          obtain ⟨Y, dY, st3⟩ := st2
          have HX2 := Lib.hid x2
          have HDY := Lib.hid dY
          have HS3 := Lib.hid st3
          have HK2 := Lib.hid k2
          have HF2 := Lib.hid f2
          clear x2 dY st3 k2 f2
          go_wp2_with (first
            | (go_at_call 14; refine (Run_c _).mono ?_; rintro e w3 ⟨rfl, b3⟩; have HK3 := Lib.hid (HK2.out.reads b3); have HF3 := Lib.hid (HF2.out.trans (Fr.reads S2 b3)); clear b3)
            | (go_at_call 13; refine (HDY.out w3 S2 HX2.out HK3.out).mono ?_; rintro e w4 ⟨S4, rfl, y4, k4, f4⟩; have HY4 := Lib.hid y4; have HK4 := Lib.hid k4; have HF4 := Lib.hid (HF3.out.trans f4); clear y4 k4 f4))
          go_roundw
          case rel =>
            have hb : decide ((j : Int) < 60) = true := by simp; omega
            iterate 9 apply Exists.intro
            refine And.intro ⟨c + 1, S4, Y, ?_, by omega, HY4.out, HS3.out, HK4.out, HF4.out⟩ (by rw [hb])
            go_num
          case measure => simp [intOf]; omega
        · obtain rfl : c = 20 := by omega
          have m2 : M j S2 := st2 S2 x2
          have HM2 := Lib.hid m2
          have HK2 := Lib.hid k2
          have HF2 := Lib.hid f2
          clear x2 st2 k2 f2 m2
          go_wp2_with (first
            | (go_at_call 17; refine (Tick_c _).mono ?_; rintro e w3 ⟨rfl, b3⟩; have HK3 := Lib.hid (HK2.out.reads b3); have HF3 := Lib.hid (HF2.out.trans (Fr.reads S2 b3)); clear b3)
            | (go_at_call 13; refine (HM1.out w3 S2 HM2.out HK3.out).mono ?_; rintro e w4 ⟨S4, rfl, y4, k4, f4⟩; have HY4 := Lib.hid y4; have HK4 := Lib.hid k4; have HF4 := Lib.hid (HF3.out.trans f4); clear y4 k4 f4))
          go_roundw
          case rel => exact ⟨j + 1, S4, by go_num, by omega, HY4.out, HK4.out, HF4.out⟩
          case measure => simp [intOf]; omega
    · obtain rfl : j = 60 := by omega
      have HX := Lib.hid (And.intro a1 (And.intro k1 f1))
      clear a1 k1 f1
      go_wp2_with fail
      exact bodyPost_end (results_none rfl _ _ _) rfl ⟨S1, rfl, HX.out.1, HX.out.2.1, HX.out.2.2⟩
end Go.Proofs.YtagmlijhgncklaaGreatDoor.Ker
namespace Go.Proofs.YtagmlijhgncklaaGreatDoor.Ker
namespace Dd
open Go.RowKit Go.Proofs.YtagmlijhgncklaaGreatDoor Go.Proofs.YtagmlijhgncklaaGreatDoor.Code

def Rm0 : Rd := Rd.new.tailF 5 0
def Rmt : Rd := Rm0.tailF 30 1
def Rm : Rd := Rmt.remF 1
def Rno : Rd := Rm.remF 0
theorem rno_tail : Rno.tailF 5 0 = Rm := by decide
/-- Who is in the sequences: main (u), the other (v). -/
def LF (q : Int) (u v : Bool) : List Hs := [if u then ⟨true, false, 5, q⟩ else Hs.no, if v then ⟨true, false, 30, q⟩ else Hs.no, Hs.no, Hs.no, Hs.no, Hs.no, Hs.no, Hs.no, Hs.no, Hs.no, Hs.no, Hs.no, Hs.no, Hs.no, Hs.no, Hs.no]
/-- f: the other was never there. -/
def RF (f u v : Bool) : Rd := if f then Rm0 else if u then (if v then Rmt else Rm) else Rno
def TF (k : Bool) (g : Int) : List (Bool × Int) := [(true, 1), (k, g), (false, 0), (false, 0), (false, 0), (false, 0), (false, 0), (false, 0)]
def thF (t : Th) (o : Option Th) : Nat → Option Th
  | 0 => some t
  | 1 => o
  | _ => none
theorem thF_0 (t t' : Th) (o : Option Th) : put (thF t o) 0 (some t') = thF t' o := by
  funext p
  match p with
  | 0 => rfl
  | 1 => rfl
  | _ + 2 => rfl
theorem thF_1 (t : Th) (o o' : Option Th) : put (thF t o) 1 o' = thF t o' := by
  funext p
  match p with
  | 0 => rfl
  | 1 => rfl
  | _ + 2 => rfl
structure Z where
  t0 : Th
  o1 : Option Th
  f : Bool
  u : Bool
  v : Bool
  k1 : Bool
  g : Int
  st : Int
  ln : Nat
  an : Nat
  notes : List (Int × Int)
  mx : Mx.Mu
  W1 : Wh
  mo : Int
  re : Int
  e5 : Option (Nat × Obj)
def Z.pd (z : Z) (q : Int) : PD := ⟨⟨TF z.k1 z.g, LF q z.u z.v, RF z.f z.u z.v, z.st, thF z.t0 z.o1, z.ln, z.an, z.notes⟩, z.mx, Wh.new, z.W1, z.mo, z.re, z.e5⟩
def ZS (B : KB) (z : Z) (S : KS) : Prop := NowD S B (z.pd B.J.q)
/-- The job: eight places, main's program, the other programs. -/
structure DB (B : KB) (m : Prg) (PS : List Prg) : Prop where
  n : B.n = 8
  ps : B.J.PS = m :: PS
  len : (m :: PS).length ≤ 32
/-- Few events so far. -/
structure Few (z : Z) : Prop where
  s0 : 0 ≤ z.st
  s1 : z.st ≤ 20 * z.ln + 20
  ln : z.ln ≤ 2000
  an : z.an ≤ z.ln
theorem turn0 {B : KB} {m : Prg} {PS : List Prg} (D : DB B m PS) {z : Z} (F : Few z) (hu : z.u = true) (hv : z.v = false) (ak : z.t0.can.ak = false) : Turn B (z.pd B.J.q).x 0 z.t0 := by
  have hR : (z.pd B.J.q).x.R = (if z.f then Rm0 else Rm) := by show RF z.f z.u z.v = _; rw [hu, hv]; rfl
  have hf : ∀ f : Bool, (if f then Rm0 else Rm).firstF = ((0 : Nat) : Int) ∧ 1 ≤ Lib.bitLen (if f then Rm0 else Rm).sm ∧ Lib.bitLen (if f then Rm0 else Rm).sm ≤ 32 ∧ (if f then Rm0 else Rm).sm ≠ 0 := by decide
  obtain ⟨f1, f2, f3, f4⟩ := hf z.f
  have h1 := F.s0
  have h2 := F.s1
  have h3 := F.ln
  exact ⟨by decide, by rw [D.n]; decide, rfl, by rw [hR]; exact f1, by rw [hR]; exact f2, by rw [hR]; exact f3, by rw [hR]; exact f4, h1, by show z.st ≤ _; omega, ak⟩
theorem turn1 {B : KB} {m : Prg} {PS : List Prg} (D : DB B m PS) {z : Z} (F : Few z) (hf : z.f = false) (hu : z.u = true) (hv : z.v = true) {t : Th} (ho : z.o1 = some t) (ak : t.can.ak = false) : Turn B (z.pd B.J.q).x 1 t := by
  have hR : (z.pd B.J.q).x.R = Rmt := by show RF z.f z.u z.v = Rmt; rw [hf, hu, hv]; rfl
  have h1 := F.s0
  have h2 := F.s1
  have h3 := F.ln
  exact ⟨by decide, by rw [D.n]; decide, by show thF z.t0 z.o1 1 = some t; exact ho, by rw [hR]; decide, by rw [hR]; decide, by rw [hR]; decide, by rw [hR]; decide, h1, by show z.st ≤ _; omega, ak⟩
/-- Main sets a register. -/
def Z.set0 (z : Z) (d : Nat) (x : Int) : Z := { z with t0 := { z.t0 with pc := z.t0.pc + 1, r := put z.t0.r d x }, st := z.st + 1, ln := z.ln + 1 }
theorem z_set0 {B : KB} {m : Prg} {PS : List Prg} (D : DB B m PS) {z : Z} (F : Few z) (hu : z.u = true) (hv : z.v = false) (ak : z.t0.can.ak = false) (hpr : z.t0.prog = 0) (k : Nat) (hpc : z.t0.pc = k) (hk : k ≤ 1000) (d : Nat) (hd : d < 8) (x : Int) (hi : m.L[k]? = some ⟨1, d, 0, 0, x⟩) : DoesTo B evRun (ZS B z) (ZS B (z.set0 d x)) := by
  have q := d_step (turn0 D F hu hv ak) m 0 (by rw [D.ps]; rfl) hpr k hpc ⟨1, d, 0, 0, x⟩ hi (by show z.ln ≤ _; have := F.ln; omega) _ _ (by show (1 : Int) ≠ 0 ∧ (1 : Int) ≠ 7 ∧ (1 : Int) ≠ 8; decide) (step_set d hd x k hk z.t0.r)
  have e : ({ z.pd B.J.q with x := (z.pd B.J.q).x.stepped 0 z.t0 ((k : Int) + 1) (put z.t0.r d x) } : PD) = (z.set0 d x).pd B.J.q := by
    show (⟨⟨_, _, _, _, put (thF z.t0 z.o1) 0 _, _, _, _⟩, _, _, _, _, _, _⟩ : PD) = _
    rw [thF_0, ← hpc]
    rfl
  intro W S N hW
  refine (q W S N hW).mono ?_
  rintro e' w' ⟨S', rfl, N', k1, f1⟩
  rw [e] at N'
  exact ⟨S', rfl, N', k1, f1⟩
theorem Few.set0 {z : Z} (F : Few z) (h : z.ln < 2000) (d : Nat) (x : Int) : Few (z.set0 d x) :=
  ⟨by have := F.s0; show 0 ≤ z.st + 1; omega, by have := F.s1; show z.st + 1 ≤ 20 * ((z.ln + 1 : Nat) : Int) + 20; omega, by show z.ln + 1 ≤ 2000; omega, by have := F.an; show z.an ≤ z.ln + 1; omega⟩
theorem to_z {B : KB} {ev : Value} {z z' : Z} {y' : PD} (q : DoesTo B ev (fun S => NowD S B (z.pd B.J.q)) (fun S => NowD S B y')) (e : y' = z'.pd B.J.q) : DoesTo B ev (ZS B z) (ZS B z') := by
  rw [e] at q
  exact q
/-- The other sets a register. -/
def Z.set1 (z : Z) (t : Th) (d : Nat) (x : Int) : Z := { z with o1 := some { t with pc := t.pc + 1, r := put t.r d x }, st := z.st + 1, ln := z.ln + 1 }
theorem z_set1 {B : KB} {m : Prg} {PS : List Prg} (D : DB B m PS) {z : Z} (F : Few z) (hf : z.f = false) (hu : z.u = true) (hv : z.v = true) {t : Th} (ho : z.o1 = some t) (ak : t.can.ak = false) (y : Prg) (n : Nat) (hy : B.J.PS[n]? = some y) (hpr : t.prog = n) (k : Nat) (hpc : t.pc = k) (hk : k ≤ 1000) (d : Nat) (hd : d < 8) (x : Int) (hi : y.L[k]? = some ⟨1, d, 0, 0, x⟩) : DoesTo B evRun (ZS B z) (ZS B (z.set1 t d x)) := by
  refine to_z (d_step (turn1 D F hf hu hv ho ak) y n hy hpr k hpc ⟨1, d, 0, 0, x⟩ hi (by show z.ln ≤ _; have := F.ln; omega) _ _ (by show (1 : Int) ≠ 0 ∧ (1 : Int) ≠ 7 ∧ (1 : Int) ≠ 8; decide) (step_set d hd x k hk t.r)) ?_
  show (⟨⟨_, _, _, _, put (thF z.t0 z.o1) 1 _, _, _, _⟩, _, _, _, _, _, _⟩ : PD) = _
  rw [thF_1, ← hpc]
  rfl
/-- The other called; it is answered. -/
def Z.mud1 (z : Z) (t : Th) (v e : Int) (mx' : Mx.Mu) : Z := { z with o1 := some (({ t with pc := t.pc + 1 } : Th).ans v e), st := z.st + 1, ln := z.ln + 1, an := z.an + 1, mx := mx' }
theorem z_ret1 {B : KB} {m : Prg} {PS : List Prg} (D : DB B m PS) {z : Z} (F : Few z) (hf : z.f = false) (hu : z.u = true) (hv : z.v = true) {t : Th} (ho : z.o1 = some t) (ak : t.can.ak = false) (y : Prg) (n : Nat) (hy : B.J.PS[n]? = some y) (hpr : t.prog = n) (k : Nat) (hpc : t.pc = k) (hk : k ≤ 1000) (num : Int) (hi : y.L[k]? = some ⟨7, 0, 0, 0, num⟩)
    (Fn' : Nat) (hF : ∀ args w, (callFunc Fn' args).run Tryz.prog w = .ok (.enter Fn' args) w) (hn : ((callsE.map entV).find? fun x => x.1 == num) = some (num, .func (.func Fn') #[] #[])) (hpt : ∀ W, Calls Tryz.prog 147 #[.int .i64 num] W fun e w' => e = .returned (.bool false) ∧ W = w')
    (v : Int) (mx' : Mx.Mu) (A : MuCall Fn' B 1 { t with pc := (k : Int) + 1, r := t.r } z.mx mx' (.returned (.int .i64 v))) : DoesTo B evRun (ZS B z) (ZS B (z.mud1 t v 0 mx')) := by
  refine to_z (d_mu_ret (turn1 D F hf hu hv ho ak) y n hy hpr k hpc num hi hk (by show z.ln ≤ _; have := F.ln; omega) (by show z.an ≤ _; have := F.an; have := F.ln; omega) Fn' hF hn hpt v mx' A) ?_
  show (⟨⟨_, _, _, _, put (thF z.t0 z.o1) 1 _, _, _, _⟩, _, _, _, _, _, _⟩ : PD) = _
  rw [thF_1, ← hpc]
  rfl
theorem z_posix1 {B : KB} {m : Prg} {PS : List Prg} (D : DB B m PS) {z : Z} (F : Few z) (hf : z.f = false) (hu : z.u = true) (hv : z.v = true) {t : Th} (ho : z.o1 = some t) (ak : t.can.ak = false) (y : Prg) (n : Nat) (hy : B.J.PS[n]? = some y) (hpr : t.prog = n) (k : Nat) (hpc : t.pc = k) (hk : k ≤ 1000) (num : Int) (hi : y.L[k]? = some ⟨7, 0, 0, 0, num⟩)
    (Fn' : Nat) (hF : ∀ args w, (callFunc Fn' args).run Tryz.prog w = .ok (.enter Fn' args) w) (hn : ((callsE.map entV).find? fun x => x.1 == num) = some (num, .func (.func Fn') #[] #[])) (hpt : ∀ W, Calls Tryz.prog 147 #[.int .i64 num] W fun e w' => e = .returned (.bool false) ∧ W = w')
    (v : Int) (mx' : Mx.Mu) (A : MuCall Fn' B 1 { t with pc := (k : Int) + 1, r := t.r } z.mx mx' (.panicked [{ v := .iface 134 (.int .i64 v), recovered := false }])) : DoesTo B evRun (ZS B z) (ZS B (z.mud1 t 0 v mx')) := by
  refine to_z (d_mu_posix (turn1 D F hf hu hv ho ak) y n hy hpr k hpc num hi hk (by show z.ln ≤ _; have := F.ln; omega) (by show z.an ≤ _; have := F.an; have := F.ln; omega) Fn' hF hn hpt v mx' A) ?_
  show (⟨⟨_, _, _, _, put (thF z.t0 z.o1) 1 _, _, _, _⟩, _, _, _, _, _, _⟩ : PD) = _
  rw [thF_1, ← hpc]
  rfl
/-- The other notes what it was answered. -/
def Z.note1 (z : Z) (t : Th) : Z := { z with o1 := some { t with pc := t.pc + 1 }, st := z.st + 1, ln := z.ln + 1, notes := z.notes ++ [(1, t.r 1)] }
theorem z_note1 {B : KB} {m : Prg} {PS : List Prg} (D : DB B m PS) {z : Z} (F : Few z) (hf : z.f = false) (hu : z.u = true) (hv : z.v = true) {t : Th} (ho : z.o1 = some t) (ak : t.can.ak = false) (y : Prg) (n : Nat) (hy : B.J.PS[n]? = some y) (hpr : t.prog = n) (k : Nat) (hpc : t.pc = k) (hk : k ≤ 1000) (hi : y.L[k]? = some ⟨8, 0, 1, 0, 0⟩) (hnn : z.notes.length ≤ 1000) : DoesTo B evRun (ZS B z) (ZS B (z.note1 t)) := by
  refine to_z (d_note (turn1 D F hf hu hv ho ak) y n hy hpr k hpc ⟨8, 0, 1, 0, 0⟩ hi (by show z.ln ≤ _; have := F.ln; omega) 1 rfl rfl (by decide) hk hnn) ?_
  show (⟨⟨_, _, _, _, put (thF z.t0 z.o1) 1 _, _, _, _⟩, _, _, _, _, _, _⟩ : PD) = _
  rw [thF_1, ← hpc]
  rfl
/-- A run, or a tick, in which nothing happens. -/
def Z.idle (z : Z) : Z := { z with ln := z.ln + 1 }
theorem z_idle {B : KB} {z : Z} (F : Few z) (hf : z.f = false) (hu : z.u = false) : DoesTo B evRun (ZS B z) (ZS B z.idle) := by
  refine to_z (d_nobody (by show (RF z.f z.u z.v).sm = 0; rw [hf, hu]; show Rno.sm = 0; decide) (by show z.ln ≤ _; have := F.ln; omega)) rfl
def Z.tock (z : Z) (d : Int) : Z := { z with st := z.st + d, ln := z.ln + 1, mo := Clk.upF z.mo, re := Clk.upF z.re }
theorem z_tick_fifo {B : KB} {m : Prg} {PS : List Prg} (D : DB B m PS) {z : Z} (F : Few z) (hf : z.f = false) (hu : z.u = true) (hv : z.v = true) {t : Th} (ho : z.o1 = some t) (ak : t.can.ak = false) (q1 : Quiet z.W1) : DoesTo B evTick (ZS B z) (ZS B (z.tock 2)) :=
  to_z (d_tick_fifo (turn1 D F hf hu hv ho ak) (by show z.ln ≤ _; have := F.ln; omega) (by show ((LF B.J.q z.u z.v).getD 1 Hs.no).rob = false; rw [hu, hv]; rfl) Wh.new_quiet q1) rfl
theorem z_tick_idle {B : KB} {z : Z} (F : Few z) (hf : z.f = false) (hu : z.u = false) (q1 : Quiet z.W1) : DoesTo B evTick (ZS B z) (ZS B (z.tock 0)) :=
  to_z (d_tick_idle (by show (RF z.f z.u z.v).sm = 0; rw [hf, hu]; show Rno.sm = 0; decide) (by show z.ln ≤ _; have := F.ln; omega) Wh.new_quiet q1) rfl
end Dd
end Go.Proofs.YtagmlijhgncklaaGreatDoor.Ker
namespace Go.Proofs.YtagmlijhgncklaaGreatDoor.Ker
namespace Dd
open Go.RowKit Go.Proofs.YtagmlijhgncklaaGreatDoor Go.Proofs.YtagmlijhgncklaaGreatDoor.Code

/-- Main made the other. -/
def newT (g prog : Int) (jn : Bool) (b c : Nat) : Th := Th.new b c ((1 : Nat) + 16 * g) prog (30 : Nat) 0 jn
def Z.made (z : Z) (prog : Int) (jn : Bool) (b c : Nat) : Z := { z with t0 := ({ z.t0 with pc := z.t0.pc + 1 } : Th).ans ((1 : Nat) + 16 * (z.g + 1)) 0, o1 := some (newT (z.g + 1) prog jn b c), f := false, u := true, v := true, k1 := true, g := z.g + 1, st := z.st + 5, ln := z.ln + 1, an := z.an + 1 }
theorem z_create {B : KB} {m : Prg} {PS : List Prg} (D : DB B m PS) {z : Z} (F : Few z) (hu : z.u = true) (hv : z.v = false) (ho : z.o1 = none) (hk1 : z.k1 = false) (ak : z.t0.can.ak = false) (hpr : z.t0.prog = 0) (k : Nat) (hpc : z.t0.pc = k) (hk : k ≤ 1000) (hi : m.L[k]? = some ⟨7, 0, 0, 0, 1⟩)
    (prog jn : Int) (hr2 : z.t0.r 2 = prog) (hr3 : z.t0.r 3 = 30) (hr4 : z.t0.r 4 = 0) (hr5 : z.t0.r 5 = jn) (hg0 : 0 ≤ prog) (hg1 : prog < (m :: PS).length) (hj : jn = 0 ∨ jn = 1) (g0 : 0 ≤ z.g) (g9 : z.g ≤ 10) :
    DoesTo B evRun (ZS B z) (fun S => ∃ bc : Nat × Nat, ZS B (z.made prog (decide (jn = 0)) bc.1 bc.2) S) := by
  obtain ⟨gn, hgn⟩ : ∃ n : Nat, z.g = n := ⟨z.g.toNat, by omega⟩
  have gn9 : gn ≤ 10 := by omega
  have fr : ∀ n : Nat, n ≤ 10 → Tab.freeF (TF false (n : Int)) = some 1 ∧ Tab.gn (TF false (n : Int)) 1 = (n : Int) ∧ Tab.atF ((TF false (n : Int)).set 1 (true, (n : Int) + 1)) ((1 : Nat) + 16 * ((n : Int) + 1)) = some 1 := by
    intro n hn
    match n, hn with
    | 0, _ => decide | 1, _ => decide | 2, _ => decide | 3, _ => decide | 4, _ => decide | 5, _ => decide | 6, _ => decide | 7, _ => decide | 8, _ => decide | 9, _ => decide | 10, _ => decide
    | n + 11, h => omega
  obtain ⟨r1, r2, r3⟩ := fr gn gn9
  rw [← hgn] at r1 r2 r3
  have hR : ∀ f : Bool, (RF f true false).pr.getD 1 0 = 0 ∧ Lk ((RF f true false).tl.getD 30 0) ∧ (RF f true false).tailF 30 1 = Rmt := by
    intro f
    cases f
    · exact ⟨by decide, .inl (by decide), by decide⟩
    · exact ⟨by decide, .inl (by decide), by decide⟩
  obtain ⟨p1, p2, p3⟩ := hR z.f
  have q := d_create (turn0 D F hu hv ak) m 0 (by rw [D.ps]; rfl) hpr k hpc hi hk (by show z.ln ≤ _; have := F.ln; omega) (by show z.an ≤ _; have := F.an; have := F.ln; omega) 1 30 (z.g + 1) prog 0 jn hr2 hr3 hr4 hr5 hg0 (by rw [D.ps]; exact hg1) (by rw [D.ps]; exact D.len) (.inl rfl) hj (by show Tab.freeF (TF z.k1 z.g) = some 1; rw [hk1]; exact r1) (by show z.g + 1 = Tab.gn (TF z.k1 z.g) 1 + 1; rw [hk1, r2]) (by omega) (by show thF z.t0 z.o1 1 = none; exact ho) (by show Tab.atF ((TF z.k1 z.g).set 1 (true, z.g + 1)) _ = _; rw [hk1]; exact r3) (by decide) (by decide) (by show ((LF B.J.q z.u z.v).getD 1 Hs.no).isIn = false; rw [hu, hv]; rfl) (by show (RF z.f z.u z.v).pr.getD 1 0 = 0; rw [hu, hv]; exact p1) (by show Lk ((RF z.f z.u z.v).tl.getD 30 0); rw [hu, hv]; exact p2)
  intro W S N hW
  refine (q W S N hW).mono ?_
  rintro e' w' ⟨S', rfl, ⟨b, c, h⟩, k1, f1⟩
  refine ⟨S', rfl, ⟨(b, c), ?_⟩, k1, f1⟩
  have e : ({ z.pd B.J.q with x := (z.pd B.J.q).x.created B 0 z.t0 k 1 30 (z.g + 1) prog 0 (decide (jn = 0)) b c } : PD) = (z.made prog (decide (jn = 0)) b c).pd B.J.q := by
    show (⟨⟨(TF z.k1 z.g).set 1 _, (LF B.J.q z.u z.v).set 1 _, (RF z.f z.u z.v).tailF 30 1, _, put (put (put (thF z.t0 z.o1) 0 _) 1 _) 0 _, _, _, _⟩, _, _, _, _, _, _⟩ : PD) = _
    rw [thF_0, thF_1, thF_0, hu, hv, p3, ← hpc]
    rfl
  rw [e] at h
  exact h
/-- Main joined the other, which had ended with v. -/
def Z.join0 (z : Z) (v : Int) : Z := { z with t0 := ({ z.t0 with pc := z.t0.pc + 1 } : Th).ans v 0, o1 := none, k1 := false, st := z.st + 1, ln := z.ln + 1, an := z.an + 1 }
theorem z_join {B : KB} {m : Prg} {PS : List Prg} (D : DB B m PS) {z : Z} (F : Few z) (hu : z.u = true) (hv : z.v = false) {o : Th} (ho : z.o1 = some o) (hk1 : z.k1 = true) (hg : z.g = 1) (ak : z.t0.can.ak = false) (hpr : z.t0.prog = 0) (k : Nat) (hpc : z.t0.pc = k) (hk : k ≤ 1000) (hi : m.L[k]? = some ⟨7, 0, 0, 0, 3⟩)
    (hr2 : z.t0.r 2 = 17) (hhd : o.hd = 17) (hjn : o.jn = true) (hjr : o.jr < 0) (hen : o.en = true) (hact : Can.actsF z.t0.can true = false) : DoesTo B evRun (ZS B z) (ZS B (z.join0 o.val)) := by
  refine to_z (d_join (turn0 D F hu hv ak) m 0 (by rw [D.ps]; rfl) hpr k hpc hi hk (by show z.ln ≤ _; have := F.ln; omega) (by show z.an ≤ _; have := F.an; have := F.ln; omega) (q := 1) (zt := o) (by decide) (by show thF z.t0 z.o1 1 = _; exact ho) (by decide) (by show Tab.atF (TF z.k1 z.g) (z.t0.r 2) = some 1; rw [hk1, hg, hr2]; decide) (by rw [hhd, hr2]) hjn hjr hen hact) ?_
  show (⟨⟨(TF z.k1 z.g).set 1 (false, Tab.gn (TF z.k1 z.g) 1), _, _, _, put (put (put (thF z.t0 z.o1) 0 _) 1 none) 0 _, _, _, _⟩, _, _, _, _, _, _⟩ : PD) = _
  rw [thF_0, thF_1, thF_0, ← hpc]
  rfl
/-- The other ended; it may be joined. -/
def Z.over1 (z : Z) (t : Th) (mx' : Mx.Mu) : Z := { z with o1 := some { t.unw (t.r 0) with en := true }, f := false, u := true, v := false, st := z.st + 3, ln := z.ln + 1, mx := mx' }
theorem leaves1 {z : Z} (q : Int) (hf : z.f = false) (hu : z.u = true) (hv : z.v = true) : Leaves (z.pd q).x 1 30 := by
  refine ⟨?_, by decide, by decide, ?_, ?_, ?_⟩
  · show ((LF q z.u z.v).getD 1 Hs.no).isIn = true; rw [hu, hv]; rfl
  · show (RF z.f z.u z.v).pr.getD 1 0 = _; rw [hf, hu, hv]; decide
  · show Lk ((RF z.f z.u z.v).pv.getD 1 0); rw [hf, hu, hv]; exact .inl (by decide)
  · show Lk ((RF z.f z.u z.v).nx.getD 1 0); rw [hf, hu, hv]; exact .inl (by decide)
theorem leaves0 {z : Z} (q : Int) (hf : z.f = false) (hu : z.u = true) (hv : z.v = false) : Leaves (z.pd q).x 0 5 := by
  refine ⟨?_, by decide, by decide, ?_, ?_, ?_⟩
  · show ((LF q z.u z.v).getD 0 Hs.no).isIn = true; rw [hu, hv]; rfl
  · show (RF z.f z.u z.v).pr.getD 0 0 = _; rw [hf, hu, hv]; decide
  · show Lk ((RF z.f z.u z.v).pv.getD 0 0); rw [hf, hu, hv]; exact .inl (by decide)
  · show Lk ((RF z.f z.u z.v).nx.getD 0 0); rw [hf, hu, hv]; exact .inl (by decide)
theorem z_over1 {B : KB} {m : Prg} {PS : List Prg} (D : DB B m PS) {z : Z} (F : Few z) (hf : z.f = false) (hu : z.u = true) (hv : z.v = true) {t : Th} (ho : z.o1 = some t) (ak : t.can.ak = false) (y : Prg) (n : Nat) (hy : B.J.PS[n]? = some y) (hpr : t.prog = n) (k : Nat) (hpc : t.pc = k) (hi : k = y.L.length)
    (hjn : t.jn = true) (hjr : t.jr < 0) (hun : t.can.un = false) (mx' : Mx.Mu) (EN : MuEnd 1 z.mx mx') : DoesTo B evRun (ZS B z) (ZS B (z.over1 t mx')) := by
  refine to_z (d_past (turn1 D F hf hu hv ho ak) y n hy hpr k hpc hi (by show z.ln ≤ _; have := F.ln; omega) hjn hjr hun (leaves1 B.J.q hf hu hv) mx' EN) ?_
  show (⟨⟨_, (LF B.J.q z.u z.v).set 1 _, (RF z.f z.u z.v).remF 1, _, put (put (put (thF z.t0 z.o1) 1 _) 1 _) 1 _, _, _, _⟩, _, _, _, _, _, _⟩ : PD) = _
  rw [thF_1, thF_1, thF_1, hf, hu, hv]
  rfl
/-- The other ended, detached: it is gone. -/
def Z.gone1 (z : Z) (mx' : Mx.Mu) : Z := { z with o1 := none, f := false, u := true, v := false, k1 := false, st := z.st + 3, ln := z.ln + 1, mx := mx' }
theorem z_gone1 {B : KB} {m : Prg} {PS : List Prg} (D : DB B m PS) {z : Z} (F : Few z) (hf : z.f = false) (hu : z.u = true) (hv : z.v = true) {t : Th} (ho : z.o1 = some t) (hk1 : z.k1 = true) (g0 : 0 ≤ z.g) (g9 : z.g ≤ 11) (ak : t.can.ak = false) (y : Prg) (n : Nat) (hy : B.J.PS[n]? = some y) (hpr : t.prog = n) (k : Nat) (hpc : t.pc = k) (hi : k = y.L.length)
    (hjn : t.jn = false) (hhd : t.hd = (1 : Nat) + 16 * z.g) (hun : t.can.un = false) (mx' : Mx.Mu) (EN : MuEnd 1 z.mx mx') : DoesTo B evRun (ZS B z) (ZS B (z.gone1 mx')) := by
  obtain ⟨gn, hgn⟩ : ∃ n : Nat, z.g = n := ⟨z.g.toNat, by omega⟩
  have gn9 : gn ≤ 11 := by omega
  have fr : ∀ n : Nat, n ≤ 11 → Tab.atF (TF true (n : Int)) ((1 : Nat) + 16 * (n : Int)) = some 1 := by
    intro n hn
    match n, hn with
    | 0, _ => decide | 1, _ => decide | 2, _ => decide | 3, _ => decide | 4, _ => decide | 5, _ => decide | 6, _ => decide | 7, _ => decide | 8, _ => decide | 9, _ => decide | 10, _ => decide | 11, _ => decide
    | n + 12, h => omega
  have r1 := fr gn gn9
  rw [← hgn] at r1
  refine to_z (d_past_gone (turn1 D F hf hu hv ho ak) y n hy hpr k hpc hi (by show z.ln ≤ _; have := F.ln; omega) hjn (by show Tab.atF (TF z.k1 z.g) t.hd = some 1; rw [hk1, hhd]; exact r1) hun (leaves1 B.J.q hf hu hv) mx' EN) ?_
  show (⟨⟨(TF z.k1 z.g).set 1 (false, Tab.gn (TF z.k1 z.g) 1), (LF B.J.q z.u z.v).set 1 _, (RF z.f z.u z.v).remF 1, _, put (thF z.t0 z.o1) 1 none, _, _, _⟩, _, _, _, _, _, _⟩ : PD) = _
  rw [thF_1, hf, hu, hv]
  rfl
/-- Main ended. -/
def Z.over0 (z : Z) : Z := { z with t0 := { z.t0.unw (z.t0.r 0) with en := true }, f := false, u := false, v := false, st := z.st + 3, ln := z.ln + 1 }
theorem z_over0 {B : KB} {m : Prg} {PS : List Prg} (D : DB B m PS) {z : Z} (F : Few z) (hf : z.f = false) (hu : z.u = true) (hv : z.v = false) (ak : z.t0.can.ak = false) (hpr : z.t0.prog = 0) (k : Nat) (hpc : z.t0.pc = k) (hi : k = m.L.length)
    (hjn : z.t0.jn = true) (hjr : z.t0.jr < 0) (hun : z.t0.can.un = false) (hown : z.mx.own ≠ 0) : DoesTo B evRun (ZS B z) (ZS B z.over0) := by
  refine to_z (d_past (turn0 D F hu hv ak) m 0 (by rw [D.ps]; rfl) hpr k hpc hi (by show z.ln ≤ _; have := F.ln; omega) hjn hjr hun (leaves0 B.J.q hf hu hv) z.mx (mu_endNot (by decide) hown)) ?_
  show (⟨⟨_, (LF B.J.q z.u z.v).set 0 _, (RF z.f z.u z.v).remF 0, _, put (put (put (thF z.t0 z.o1) 0 _) 0 _) 0 _, _, _, _⟩, _, _, _, _, _, _⟩ : PD) = _
  rw [thF_0, thF_0, thF_0, hf, hu, hv]
  rfl
/-- Main sleeps until k. -/
def Z.sleep0 (z : Z) (k g cap : Nat) (cur : Array Value) : Z := { z with t0 := { z.t0 with pc := z.t0.pc + 1, wt := sleepW }, f := false, u := false, v := false, st := z.st + 3, ln := z.ln + 1, W1 := z.W1.setF k (.slice (some ⟨g, 0, none⟩) 1 cap), e5 := some (g, .cells cur 422 (0, 0)) }
theorem z_sleep {B : KB} {m : Prg} {PS : List Prg} (D : DB B m PS) {z : Z} (F : Few z) (hf : z.f = false) (hu : z.u = true) (hv : z.v = false) (ak : z.t0.can.ak = false) (hpr : z.t0.prog = 0) (pc : Nat) (hpc : z.t0.pc = pc) (hk : pc ≤ 1000) (hi : m.L[pc]? = some ⟨7, 0, 0, 0, 62⟩)
    (h2 : z.t0.r 2 = 1) (h3 : z.t0.r 3 = 0) (h4 : z.t0.r 4 = 1) (k : Nat) (hk6 : k < 64) (hmo : 0 ≤ z.mo) (hmk : z.mo + 1 = k) (hre : 0 ≤ z.re ∧ z.re ≤ 1000) (Fr' : Free z.W1 z.mo) (hact : Can.actsF z.t0.can true = false) :
    DoesTo B evRun (ZS B z) (fun S => ∃ g cap cur, Row1 cur cap k (z.W1.st + 1) ∧ ZS B (z.sleep0 k g cap cur) S) := by
  have q := d_sleep (turn0 D F hu hv ak) m 0 (by rw [D.ps]; rfl) hpr pc hpc hi hk (by show z.ln ≤ _; have := F.ln; omega) (by show z.an ≤ _; have := F.an; have := F.ln; omega) h2 h3 h4 (leaves0 B.J.q hf hu hv) k hk6 hmo hmk hre Fr' hact
  intro W S N hW
  refine (q W S N hW).mono ?_
  rintro e' w' ⟨S', rfl, ⟨g, cap, cur, r1, h⟩, k1, f1⟩
  refine ⟨S', rfl, ⟨g, cap, cur, r1, ?_⟩, k1, f1⟩
  have e : ((z.pd B.J.q).slept z.t0 pc k g cap cur) = (z.sleep0 k g cap cur).pd B.J.q := by
    show (⟨⟨_, (LF B.J.q z.u z.v).set 0 _, (RF z.f z.u z.v).remF 0, _, put (thF z.t0 z.o1) 0 _, _, _, _⟩, _, _, _, _, _, _⟩ : PD) = _
    rw [thF_0, hf, hu, hv, ← hpc]
    rfl
  rw [e] at h
  exact h
/-- Main wakes. -/
def Z.wake0 (z : Z) (k : Nat) (a : Option Addr) (c : Nat) : Z := { z with t0 := ({ z.t0 with wt := Wt.no } : Th).ans 0 0, f := false, u := true, v := false, st := z.st + 4, ln := z.ln + 1, an := z.an + 1, W1 := z.W1.remF k (.slice a 0 c), mo := Clk.upF z.mo, re := Clk.upF z.re }
theorem z_wake {B : KB} {z : Z} (F : Few z) (hf : z.f = false) (hu : z.u = false) (hv : z.v = false) {k g cap : Nat} {cur : Array Value} {q : Int} (R1 : Row1 cur cap k q) (he5 : z.e5 = some (g, .cells cur 422 (0, 0)))
    (wt : z.t0.wt = sleepW) (eff : z.t0.eff = 5) (pol : z.t0.pol = 0) (hk : k < 64) (hr : z.W1.rings[k]? = some (.slice (some ⟨g, 0, none⟩) 1 cap)) (hbut : But z.W1 k) (hw : z.W1.wh.getD 0 0 = k + 1) (hn : 0 ≤ z.W1.n ∧ z.W1.n ≤ 1000) (hmo : (k : Int) ≤ Clk.upF z.mo) :
    DoesTo B evTick (ZS B z) (fun S => ∃ a c, ZS B (z.wake0 k a c) S) := by
  have hR : RF z.f z.u z.v = Rno := by rw [hf, hu]; rfl
  have hL : LF B.J.q z.u z.v = LF B.J.q false false := by rw [hu, hv]
  have qd := d_tick_wake (B := B) (y := z.pd B.J.q) (t := z.t0) (pr := 5) (k := k) (g := g) (cap := cap) (cur := cur) (q := q) (by show (RF z.f z.u z.v).sm = 0; rw [hR]; decide) (by show z.ln ≤ _; have := F.ln; omega) (by show z.an ≤ _; have := F.an; have := F.ln; omega) Wh.new_quiet R1 he5 rfl wt eff (by decide) (by decide) (by show ((LF B.J.q z.u z.v).getD 0 Hs.no).isIn = false; rw [hL]; rfl) (by show (RF z.f z.u z.v).pr.getD 0 0 = 0; rw [hR]; decide) (by show Lk ((RF z.f z.u z.v).tl.getD 5 0); rw [hR]; exact .inl (by decide)) F.s0 (by show z.st ≤ _; have := F.s1; have := F.ln; omega) (by show Wh.new.wh.getD 0 0 = 0; decide) hk hr hbut hw hn hmo
  intro W S N hW
  refine (qd W S N hW).mono ?_
  rintro e' w' ⟨S', rfl, ⟨a, c, h⟩, k1, f1⟩
  refine ⟨S', rfl, ⟨a, c, ?_⟩, k1, f1⟩
  have e : ((z.pd B.J.q).woken z.t0 5 k B.J.q a c) = (z.wake0 k a c).pd B.J.q := by
    show (⟨⟨_, (LF B.J.q z.u z.v).set 0 ⟨true, decide (z.t0.pol = 1), _, _⟩, (RF z.f z.u z.v).tailF 5 0, _, put (thF z.t0 z.o1) 0 _, _, _, _⟩, _, _, _, _, _, _⟩ : PD) = _
    rw [thF_0, hR, rno_tail, hL, show decide (z.t0.pol = 1) = false by rw [pol]; decide]
    rfl
  rw [e] at h
  exact h
end Dd
end Go.Proofs.YtagmlijhgncklaaGreatDoor.Ker
