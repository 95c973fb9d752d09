/-
  How a kernel with one mutex stands between events, and what a step, a note, a making, a join make of it. Conditions: those said.
  What a call on the mutex makes of how a kernel stands; what a making and a join make of it. Conditions: those said.
  What a making, a join, an end make of how a kernel with one mutex stands. Conditions: those said.
  The calls on a mutex, ready for use; a sleep; the ticks. Conditions: those said.
  What a tick makes of how a kernel with one mutex stands: a thread of no turn runs; nobody runs; nobody runs and the main thread wakes. Conditions: those said.
  The first steps until a mutex is made; runs and ticks in a row (the function 18). Conditions: those said.
  The job of the dying owner, as plain data: how the kernel stands, what each kind of instruction makes of it. Conditions: those said.
  The job of the dying owner, as plain data: a making, a join, an end, a sleep, a waking. Conditions: those said.
  The job of the dying owner: rows of runs. Conditions: those said.
  The job of the dying owner: the other's runs. Conditions: those said.
  The job of the dying owner: main sleeps, nobody runs, main wakes. Conditions: those said.
  The job of the dying owner: one round of main's loop. Conditions: those said.
  The job of the dying owner: rounds. Conditions: those said.
  The job of the dying owner: the first round. Conditions: those said.
  The job of the dying owner: all sixty rounds. Conditions: those said.
  The job of the dying owner as the row makes it: its programs in memory. Conditions: those said.
-/
import Derived.Test.YtagmlijhgncklaaGreatDoorW45
import Derived.Test.YtagmlijhgncklaaGreatDoorW43
import Derived.Test.YtagmlijhgncklaaGreatDoorW31
import Derived.Test.YtagmlijhgncklaaGreatDoorW42
import Derived.Test.YtagmlijhgncklaaGreatDoorW41
import Derived.Test.YtagmlijhgncklaaGreatDoorW32
set_option linter.unusedVariables false
namespace Go.Proofs.YtagmlijhgncklaaGreatDoor.Ker
open Go.RowKit Go.Proofs.YtagmlijhgncklaaGreatDoor Go.Proofs.YtagmlijhgncklaaGreatDoor.Code

/-- All is calm; there is one mutex. -/
structure CalmM (S : KS) (mx : Mx.Mu) : Prop where
  C : Calm ({ S with muT := muT0 } : KS)
  H : ∃ b q g, HasMu S b q g mx
theorem CalmM.P {S : KS} {mx : Mx.Mu} (C : CalmM S mx) : KP S := by
  obtain ⟨b, q, g, H⟩ := C.H
  exact { C.C.P with mu1 := by rw [H.T]; decide, mu2 := by rw [H.T]; decide, mug := by rw [H.T]; exact mu4_ok }
theorem CalmM.settle {S : KS} {mx : Mx.Mu} (C : CalmM S mx) (w : World) {B : KB} (hB : S.B = B) (h : KW w S) : Calls Tryz.prog 42 #[.pointer (some ⟨B.kb, 0, none⟩)] w fun e w' => e = .returned (.tuple #[]) ∧ Below w.heap.size w w' := by
  obtain ⟨mb, q, g, H⟩ := C.H
  have b : ∀ p t, S.th p = some t → S.baseF p = t.base := fun p t ht => by simp [KS.baseF, ht]
  exact settleM_c w S hB h C.P S.baseF (prioOk_base C.C.pol) (fun p t hp ht he => by rw [b p t ht]; exact ⟨(C.C.ba p t hp ht he).1, (C.C.ba p t hp ht he).2.1⟩) C.C.kd H (fun p t hp ht he => by rw [b p t ht]; exact (C.C.ba p t hp ht he).2.2)
theorem CalmM.ev {S : KS} {mx : Mx.Mu} (C : CalmM S mx) (v : Value) : CalmM (S.ev v) mx := ⟨C.C.ev v, by obtain ⟨b, q, g, H⟩ := C.H; exact ⟨b, q, g, H.same rfl rfl rfl⟩⟩
theorem do_m (w : World) (S : KS) {B : KB} (hB : S.B = B) (h : KW w S) (kind n : Int) (Q : KS → Prop) (HQ : ∀ Sf, Q Sf → Sf.B = S.B ∧ Sf.lo.ln ≤ 100000 ∧ ∃ mx, CalmM Sf mx)
    (hA : (kind = 1 ∧ ∀ W, KW W S → Calls Tryz.prog 44 #[.pointer (some ⟨B.kb, 0, none⟩)] W fun e w' => ∃ Sf, e = .returned (.tuple #[]) ∧ Q Sf ∧ KW w' Sf ∧ Fr S Sf W w')
      ∨ (kind = 2 ∧ ∀ W, KW W S → Calls Tryz.prog 45 #[.pointer (some ⟨B.kb, 0, none⟩)] W fun e w' => ∃ Sf, e = .returned (.tuple #[]) ∧ Q Sf ∧ KW w' Sf ∧ Fr S Sf W w')) :
    Calls Tryz.prog 13 #[.pointer (some ⟨B.kb, 0, none⟩), .agg #[.int .i64 kind, .int .i64 n]] w fun e w' => ∃ Sg v, e = .returned (.int .i64 0) ∧ Q Sg ∧ KW w' (Sg.ev v) ∧ Fr S (Sg.ev v) w w' := by
  refine do_g w S hB h kind n Q Q (fun Sg hg => ⟨(HQ Sg hg).1, (HQ Sg hg).2.1⟩) (fun W Sf hq k => ?_) hA
  obtain ⟨hb, _, mx, c⟩ := HQ Sf hq
  refine (c.settle W (hb.trans hB) k).mono ?_
  rintro e' w' ⟨rfl, b⟩
  exact ⟨Sf, rfl, hq, k.reads b, Fr.reads Sf b⟩
/-- What such a kernel's state is made of, but for blocks. -/
structure PD where
  x : Pl
  mx : Mx.Mu
  W0 : Wh
  W1 : Wh
  mo : Int
  re : Int
  e5 : Option (Nat × Obj)
structure NowD (S : KS) (B : KB) (y : PD) : Prop where
  B : S.B = B
  T : S.T = y.x.T
  L : S.L = y.x.L
  R : S.R = y.x.R
  st : S.st = y.x.st
  th : S.th = y.x.th
  ln : S.lo.ln = y.x.ln
  an : S.lo.an = y.x.an
  notes : S.lo.notes = y.x.notes
  W0 : S.W0 = y.W0
  W1 : S.W1 = y.W1
  mo : S.mo = y.mo
  re : S.re = y.re
  e5 : S.ext 5 = y.e5
  ok : CalmM S y.mx
theorem Turn.runD {S : KS} {B : KB} {y : PD} {p : Nat} {t : Th} (T : Turn B y.x p t) (N : NowD S B y) : Running S p t :=
  ⟨T.p16, by rw [N.B]; exact T.pn, by rw [N.th]; exact T.th, by rw [N.R]; exact T.first, by rw [N.R]; exact T.b1, by rw [N.R]; exact T.b2, by rw [N.R]; exact T.sm, by rw [N.st]; exact T.s0, by rw [N.st]; exact T.s1, T.ak⟩
theorem HasMuE.same {S S' : KS} {mx : Mx.Mu} (h : ∃ b q g, HasMu S b q g mx) (he : S'.ext = S.ext) (ht : S'.muT = S.muT) (hl : S'.muL = S.muL) : ∃ b q g, HasMu S' b q g mx := by
  obtain ⟨b, q, g, H⟩ := h
  exact ⟨b, q, g, H.same he ht hl⟩
end Go.Proofs.YtagmlijhgncklaaGreatDoor.Ker
namespace Go.Proofs.YtagmlijhgncklaaGreatDoor.Ker
open Go.RowKit Go.Proofs.YtagmlijhgncklaaGreatDoor Go.Proofs.YtagmlijhgncklaaGreatDoor.Code

theorem HasMu.turn {S : KS} {b q g : Nat} {m : Mx.Mu} (H : HasMu S b q g m) (m' : Mx.Mu) : HasMu (S.withMu b q m') b q g m' :=
  ⟨withMu_at S b q m', by obtain ⟨l, e⟩ := H.e3; exact ⟨l, (withMu_ne S b q m' (by decide)).trans e⟩, by obtain ⟨c, e⟩ := H.e4; exact ⟨c, (withMu_ne S b q m' (by decide)).trans e⟩, H.T, H.l⟩
theorem CalmM.mu {S : KS} {mx mx' : Mx.Mu} {b q g : Nat} (C : Calm ({ S with muT := muT0 } : KS)) (H : HasMu S b q g mx) : CalmM (S.withMu b q mx') mx' :=
  ⟨⟨{ C.P with }, C.pol, C.kd, C.ba, C.mu⟩, b, q, g, H.turn mx'⟩
theorem CalmM.ans {S : KS} {mx : Mx.Mu} (C : CalmM S mx) {p : Nat} {t : Th} (ht : S.th p = some t) (hp : p < 16) (v e : Int) (av : Value) : CalmM (S.ans p (t.ans v e) av) mx :=
  ⟨C.C.ans (S := { S with muT := muT0 }) ht hp v e av, HasMuE.same C.H rfl rfl rfl⟩
end Go.Proofs.YtagmlijhgncklaaGreatDoor.Ker
namespace Go.Proofs.YtagmlijhgncklaaGreatDoor.Ker
open Go.RowKit Go.Proofs.YtagmlijhgncklaaGreatDoor Go.Proofs.YtagmlijhgncklaaGreatDoor.Code

theorem d_create {B : KB} {y : PD} {p : Nat} {t : Th} (T : Turn B y.x p t) (z : Code.Prg) (n : Nat) (hx : B.J.PS[n]? = some z) (hpr : t.prog = n) (k : Nat) (hpc : t.pc = k) (hi : z.L[k]? = some ⟨7, 0, 0, 0, 1⟩) (hk : k ≤ 1000) (hln : y.x.ln ≤ 100000) (han : y.x.an ≤ 100000)
    (i pr : Nat) (g prog pol jn : Int) (hr2 : t.r 2 = prog) (hr3 : t.r 3 = pr) (hr4 : t.r 4 = pol) (hr5 : t.r 5 = jn)
    (hg0 : 0 ≤ prog) (hg1 : prog < B.J.PS.length) (hg2 : B.J.PS.length ≤ 32) (hpl : pol = 0 ∨ pol = 1) (hj : jn = 0 ∨ jn = 1) (hf : Tab.freeF y.x.T = some i) (hg : g = Tab.gn y.x.T i + 1) (hg9 : g ≤ 900) (hn : y.x.th i = none) (hat : Tab.atF (y.x.T.set i (true, g)) (i + 16 * g) = some i)
    (h1 : 1 ≤ pr) (h32 : pr < 32) (hin : (y.x.L.getD i Hs.no).isIn = false) (hz : y.x.R.pr.getD i 0 = 0) (hl : Lk (y.x.R.tl.getD pr 0)) : DoesTo B evRun (fun S => NowD S B y) (fun S => ∃ b c, NowD S B { y with x := y.x.created B p t k i pr g prog pol (decide (jn = 0)) b c }) := by
  intro W S N hW
  have hT := N.T
  have hB := N.B
  have Rn := T.runD N
  have hip : p ≠ i := fun e => by have q := T.th; rw [e, hn] at q; cases q
  have hiB : i < S.B.n := by have q := (Tab.free_some hf).1; rw [← hT, N.ok.P.T] at q; exact q
  have g0 : 0 ≤ g := by have := (N.ok.P.gen i).1; rw [hT] at this; omega
  have hqB : B.J.q = S.B.J.q := by rw [N.B]
  have hp2 : pol ≠ 2 := by omega
  have C0 : CalmM (S.stepped p t ((k : Int) + 1) t.r) y.mx := ⟨N.ok.C.stepped (S := { S with muT := muT0 }) Rn.th T.p16 _ _, HasMuE.same N.ok.H rfl rfl rfl⟩
  have ht0 : (S.stepped p t ((k : Int) + 1) t.r).th p = some { t with pc := (k : Int) + 1, r := t.r } := put_self _ _ _
  have hn0 : (S.stepped p t ((k : Int) + 1) t.r).th i = none := by show put S.th p _ i = none; rw [put_ne _ _ (Ne.symm hip), N.th]; exact hn
  have ok1 : ∀ b c av, CalmM (S.created p t k i pr g prog pol (decide (jn = 0)) b c av) y.mx := fun b c av => ⟨N.ok.C.created (S := { S with muT := muT0 }) Rn.th T.p16 hip hiB g0 hg9 hp2 h32, HasMuE.same N.ok.H rfl rfl rfl⟩
  refine (do_m W S N.B hW 1 0 (fun Sf => ∃ b c av, Sf = S.created p t k i pr g prog pol (decide (jn = 0)) b c av) ?_ (.inl ⟨rfl, fun W hW => run_call W S N.B hW N.ok.P p t Rn z n (by rw [N.B]; exact hx) hpr k hpc ⟨7, 0, 0, 0, 1⟩ hi _ rfl hk fun W1 hW1 => ?_⟩)).mono ?_
  · rintro Sf ⟨b, c, av, rfl⟩
    exact ⟨rfl, by show S.lo.ln ≤ _; rw [N.ln]; exact hln, _, ok1 b c av⟩
  · refine (call_ret W1 (S.stepped p t ((k : Int) + 1) t.r) N.B hW1 C0.P p { t with pc := (k : Int) + 1, r := t.r } T.p16 ht0 1 208 (i + 16 * g) false (fun S1 t1 => t1 = { t with pc := (k : Int) + 1, r := t.r } ∧ ∃ b c, S1 = (S.stepped p t ((k : Int) + 1) t.r).made i pr g (Th.new b c (i + 16 * g) prog pr pol (decide (jn = 0)))) (enters_of Tryz.func208 (by kernel_rfl) rfl) rfl (fun W => points_no W 1 (.inl rfl)) (fun h => by cases h) ?_ ?_).mono ?_
    · rintro S1 t1 ⟨rfl, b, c, rfl⟩
      exact ⟨rfl, by show put _ i _ p = _; rw [put_ne _ _ hip]; exact ht0, rfl, by show S.lo.an ≤ _; rw [N.an]; exact han⟩
    · intro W2 hW2
      refine (callCreate_c W2 (S.stepped p t ((k : Int) + 1) t.r) N.B hW2 C0.P p { t with pc := (k : Int) + 1, r := t.r } T.p16 ht0 i pr g prog pol jn hr2 hr3 hr4 hr5 hg0 (by show prog < S.B.J.PS.length; rw [N.B]; exact hg1) (by show S.B.J.PS.length ≤ 32; rw [N.B]; exact hg2) hpl hj (by show Tab.freeF S.T = _; rw [hT]; exact hf) (by show g = Tab.gn S.T i + 1; rw [hT]; exact hg) hg9 hn0 (by show Tab.atF (S.T.set i (true, g)) _ = _; rw [hT]; exact hat) h1 h32 (by show (S.L.getD i Hs.no).isIn = false; rw [N.L]; exact hin) (by show S.R.pr.getD i 0 = 0; rw [N.R]; exact hz) (by show Lk (S.R.tl.getD pr 0); rw [N.R]; exact hl) (by show 0 ≤ S.st + 1; have := Rn.s0; omega) (by show S.st + 1 ≤ 800000000; have := Rn.s1; omega)).mono ?_
      rintro e w' ⟨b, c, rfl, k1, f1⟩
      exact ⟨_, _, rfl, ⟨rfl, b, c, rfl⟩, k1, f1⟩
    · rintro e w' ⟨S1, t1, av, rfl, ⟨rfl, b, c, rfl⟩, k1, f1⟩
      exact ⟨_, rfl, ⟨b, c, av, rfl⟩, k1, f1⟩
  · rintro e w' ⟨Sf, v, rfl, ⟨b, c, av, rfl⟩, k1, f1⟩
    refine ⟨(S.created p t k i pr g prog pol (decide (jn = 0)) b c av).ev v, rfl, ⟨b, c, ⟨N.B, ?_, ?_, ?_, ?_, ?_, ?_, ?_, N.notes, N.W0, N.W1, N.mo, N.re, N.e5, (ok1 b c av).ev v⟩⟩, k1, f1⟩
    · show S.T.set i _ = y.x.T.set i _; rw [N.T]
    · show S.L.set i _ = y.x.L.set i _; rw [N.L, hqB]; rfl
    · show S.R.tailF pr i = y.x.R.tailF pr i; rw [N.R]
    · show S.st + 1 + 4 = y.x.st + 5; rw [N.st]; omega
    · show put (put (put S.th p _) i _) p _ = put (put (put y.x.th p _) i _) p _; rw [N.th]
    · show S.lo.ln + 1 = y.x.ln + 1; rw [N.ln]
    · show S.lo.an + 1 = y.x.an + 1; rw [N.an]
/-- A detached thread has ended: it is gone. -/
def Pl.left (x : Pl) (p : Nat) : Pl := { x with T := x.T.set p (false, Tab.gn x.T p), L := x.L.set p Hs.no, R := x.R.remF p, st := x.st + 3, th := put x.th p none, ln := x.ln + 1 }
end Go.Proofs.YtagmlijhgncklaaGreatDoor.Ker
namespace Go.Proofs.YtagmlijhgncklaaGreatDoor.Ker
open Go.RowKit Go.Proofs.YtagmlijhgncklaaGreatDoor Go.Proofs.YtagmlijhgncklaaGreatDoor.Code

/-- The main thread sleeps until k. -/
def PD.slept (y : PD) (t : Th) (pc k g cap : Nat) (cur : Array Value) : PD :=
  { y with x := { y.x with st := y.x.st + 3, th := put y.x.th 0 (some { t with pc := (pc : Int) + 1, wt := sleepW }), L := y.x.L.set 0 Hs.no, R := y.x.R.remF 0, ln := y.x.ln + 1 }, W1 := y.W1.setF k (.slice (some ⟨g, 0, none⟩) 1 cap), e5 := some (g, .cells cur 422 (0, 0)) }
/-- Nobody sleeps; the rings from now on are new. -/
structure Free (W : Wh) (m : Int) : Prop where
  rings : ∀ k : Nat, m < k → k < 64 → W.rings[k]? = some (.slice none 0 0)
  quiet : Quiet W
  wh : W.wh.getD 0 0 = 0
  st : 0 ≤ W.st ∧ W.st ≤ 1000
  n : W.n = 0
end Go.Proofs.YtagmlijhgncklaaGreatDoor.Ker
namespace Go.Proofs.YtagmlijhgncklaaGreatDoor.Ker
open Go.RowKit Go.Proofs.YtagmlijhgncklaaGreatDoor Go.Proofs.YtagmlijhgncklaaGreatDoor.Code

theorem CalmM.clock {S : KS} {mx : Mx.Mu} (C : CalmM S mx) : CalmM ({ S with re := Clk.upF S.re, mo := Clk.upF S.mo } : KS) mx :=
  ⟨C.C.ticked (S := { S with muT := muT0 }), HasMuE.same C.H rfl rfl rfl⟩
/-- The main thread wakes. -/
def PD.woken (y : PD) (t : Th) (pr k : Nat) (q : Int) (a : Option Addr) (c : Nat) : PD :=
  { y with x := { y.x with st := y.x.st + 4, ln := y.x.ln + 1, an := y.x.an + 1, th := put y.x.th 0 (some (({ t with wt := Wt.no } : Th).ans 0 0)), L := y.x.L.set 0 ⟨true, decide (t.pol = 1), pr, q⟩, R := y.x.R.tailF pr 0 }, W1 := y.W1.remF k (.slice a 0 c), mo := Clk.upF y.mo, re := Clk.upF y.re }
end Go.Proofs.YtagmlijhgncklaaGreatDoor.Ker
namespace Go.Proofs.YtagmlijhgncklaaGreatDoor.Ker
open Go.RowKit Go.Proofs.YtagmlijhgncklaaGreatDoor Go.Proofs.YtagmlijhgncklaaGreatDoor.Code

/-- k runs lead from what A says to what A' says. -/
def Steps (B : KB) : Nat → (KS → Prop) → (KS → Prop) → Prop
  | 0, A, A' => ∀ S, A S → A' S
  | k + 1, A, A' => ∃ M, DoesTo B evRun A M ∧ Steps B k M A'
theorem Steps.refl (B : KB) (A : KS → Prop) : Steps B 0 A A := fun _ h => h
theorem Steps.cons {B : KB} {k : Nat} {A M A' : KS → Prop} (h : DoesTo B evRun A M) (t : Steps B k M A') : Steps B (k + 1) A A' := ⟨M, h, t⟩
theorem Steps.pre {B : KB} : ∀ {k : Nat} {A0 A A' : KS → Prop}, (∀ S, A0 S → A S) → Steps B k A A' → Steps B k A0 A'
  | 0, _, _, _, h, t => fun S hS => t S (h S hS)
  | _ + 1, _, _, _, h, ⟨M, d, t⟩ => ⟨M, fun W S hS hW => d W S (h S hS) hW, t⟩
theorem Steps.post {B : KB} : ∀ {k : Nat} {A A1 A' : KS → Prop}, Steps B k A A1 → (∀ S, A1 S → A' S) → Steps B k A A'
  | 0, _, _, _, t, h => fun S hS => h S (t S hS)
  | _ + 1, _, _, _, ⟨M, d, t⟩, h => ⟨M, d, t.post h⟩
theorem Steps.trans {B : KB} : ∀ {k l : Nat} {A M A' : KS → Prop}, Steps B k A M → Steps B l M A' → Steps B (l + k) A A'
  | 0, _, _, _, _, h, t => t.pre h
  | k + 1, l, _, _, _, ⟨N, d, h⟩, t => ⟨N, d, h.trans t⟩
/-- Of an existing one. -/
theorem Steps.ex {B : KB} {α : Type} {k : Nat} {A : α → KS → Prop} {A' : KS → Prop} (h : ∀ a, Steps B k (A a) A') : Steps B k (fun S => ∃ a, A a S) A' := by
  induction k generalizing A with
  | zero => rintro S ⟨a, ha⟩; exact h a S ha
  | succ k ih =>
    refine ⟨fun S => ∃ a, (h a).choose S, ?_, ih fun a => (h a).choose_spec.2⟩
    rintro W S ⟨a, ha⟩ hW
    refine ((h a).choose_spec.1 W S ha hW).mono ?_
    rintro e w' ⟨S', rfl, h1, k1, f1⟩
    exact ⟨S', rfl, ⟨a, h1⟩, k1, f1⟩
end Go.Proofs.YtagmlijhgncklaaGreatDoor.Ker
namespace Go.Proofs.YtagmlijhgncklaaGreatDoor.Ker
namespace Dd
open Go.RowKit Go.Proofs.YtagmlijhgncklaaGreatDoor Go.Proofs.YtagmlijhgncklaaGreatDoor.Code

def Rm0 : Rd := Rd.new.tailF 5 0
def Rmt : Rd := Rm0.tailF 30 1
def Rm : Rd := Rmt.remF 1
def Rno : Rd := Rm.remF 0
/-- Who is in the sequences: main (u), the other (v). -/
def LF (q : Int) (u v : Bool) : List Hs := [if u then ⟨true, false, 5, q⟩ else Hs.no, if v then ⟨true, false, 30, q⟩ else Hs.no, Hs.no, Hs.no, Hs.no, Hs.no, Hs.no, Hs.no, Hs.no, Hs.no, Hs.no, Hs.no, Hs.no, Hs.no, Hs.no, Hs.no]
/-- f: the other was never there. -/
def RF (f u v : Bool) : Rd := if f then Rm0 else if u then (if v then Rmt else Rm) else Rno
def TF (k : Bool) (g : Int) : List (Bool × Int) := [(true, 1), (k, g), (false, 0), (false, 0), (false, 0), (false, 0), (false, 0), (false, 0)]
def thF (t : Th) (o : Option Th) : Nat → Option Th
  | 0 => some t
  | 1 => o
  | _ => none
theorem thF_0 (t t' : Th) (o : Option Th) : put (thF t o) 0 (some t') = thF t' o := by
  funext p
  match p with
  | 0 => rfl
  | 1 => rfl
  | _ + 2 => rfl
theorem thF_1 (t : Th) (o o' : Option Th) : put (thF t o) 1 o' = thF t o' := by
  funext p
  match p with
  | 0 => rfl
  | 1 => rfl
  | _ + 2 => rfl
structure Z where
  t0 : Th
  o1 : Option Th
  f : Bool
  u : Bool
  v : Bool
  k1 : Bool
  g : Int
  st : Int
  ln : Nat
  an : Nat
  notes : List (Int × Int)
  mx : Mx.Mu
  W1 : Wh
  mo : Int
  re : Int
  e5 : Option (Nat × Obj)
def Z.pd (z : Z) (q : Int) : PD := ⟨⟨TF z.k1 z.g, LF q z.u z.v, RF z.f z.u z.v, z.st, thF z.t0 z.o1, z.ln, z.an, z.notes⟩, z.mx, Wh.new, z.W1, z.mo, z.re, z.e5⟩
def ZS (B : KB) (z : Z) (S : KS) : Prop := NowD S B (z.pd B.J.q)
/-- The job: eight places, main's program, the other programs. -/
structure DB (B : KB) (m : Prg) (PS : List Prg) : Prop where
  n : B.n = 8
  ps : B.J.PS = m :: PS
  len : (m :: PS).length ≤ 32
/-- Few events so far. -/
structure Few (z : Z) : Prop where
  s0 : 0 ≤ z.st
  s1 : z.st ≤ 20 * z.ln + 20
  ln : z.ln ≤ 2000
  an : z.an ≤ z.ln
theorem turn0 {B : KB} {m : Prg} {PS : List Prg} (D : DB B m PS) {z : Z} (F : Few z) (hu : z.u = true) (hv : z.v = false) (ak : z.t0.can.ak = false) : Turn B (z.pd B.J.q).x 0 z.t0 := by
  have hR : (z.pd B.J.q).x.R = (if z.f then Rm0 else Rm) := by show RF z.f z.u z.v = _; rw [hu, hv]; rfl
  have hf : ∀ f : Bool, (if f then Rm0 else Rm).firstF = ((0 : Nat) : Int) ∧ 1 ≤ Lib.bitLen (if f then Rm0 else Rm).sm ∧ Lib.bitLen (if f then Rm0 else Rm).sm ≤ 32 ∧ (if f then Rm0 else Rm).sm ≠ 0 := by decide
  obtain ⟨f1, f2, f3, f4⟩ := hf z.f
  have h1 := F.s0
  have h2 := F.s1
  have h3 := F.ln
  exact ⟨by decide, by rw [D.n]; decide, rfl, by rw [hR]; exact f1, by rw [hR]; exact f2, by rw [hR]; exact f3, by rw [hR]; exact f4, h1, by show z.st ≤ _; omega, ak⟩
/-- Main sets a register. -/
def Z.set0 (z : Z) (d : Nat) (x : Int) : Z := { z with t0 := { z.t0 with pc := z.t0.pc + 1, r := put z.t0.r d x }, st := z.st + 1, ln := z.ln + 1 }
theorem Few.set0 {z : Z} (F : Few z) (h : z.ln < 2000) (d : Nat) (x : Int) : Few (z.set0 d x) :=
  ⟨by have := F.s0; show 0 ≤ z.st + 1; omega, by have := F.s1; show z.st + 1 ≤ 20 * ((z.ln + 1 : Nat) : Int) + 20; omega, by show z.ln + 1 ≤ 2000; omega, by have := F.an; show z.an ≤ z.ln + 1; omega⟩
end Dd
end Go.Proofs.YtagmlijhgncklaaGreatDoor.Ker
namespace Go.Proofs.YtagmlijhgncklaaGreatDoor.Ker
namespace Dd
open Go.RowKit Go.Proofs.YtagmlijhgncklaaGreatDoor Go.Proofs.YtagmlijhgncklaaGreatDoor.Code

/-- Main made the other. -/
def newT (g prog : Int) (jn : Bool) (b c : Nat) : Th := Th.new b c ((1 : Nat) + 16 * g) prog (30 : Nat) 0 jn
def Z.made (z : Z) (prog : Int) (jn : Bool) (b c : Nat) : Z := { z with t0 := ({ z.t0 with pc := z.t0.pc + 1 } : Th).ans ((1 : Nat) + 16 * (z.g + 1)) 0, o1 := some (newT (z.g + 1) prog jn b c), f := false, u := true, v := true, k1 := true, g := z.g + 1, st := z.st + 5, ln := z.ln + 1, an := z.an + 1 }
theorem z_create {B : KB} {m : Prg} {PS : List Prg} (D : DB B m PS) {z : Z} (F : Few z) (hu : z.u = true) (hv : z.v = false) (ho : z.o1 = none) (hk1 : z.k1 = false) (ak : z.t0.can.ak = false) (hpr : z.t0.prog = 0) (k : Nat) (hpc : z.t0.pc = k) (hk : k ≤ 1000) (hi : m.L[k]? = some ⟨7, 0, 0, 0, 1⟩)
    (prog jn : Int) (hr2 : z.t0.r 2 = prog) (hr3 : z.t0.r 3 = 30) (hr4 : z.t0.r 4 = 0) (hr5 : z.t0.r 5 = jn) (hg0 : 0 ≤ prog) (hg1 : prog < (m :: PS).length) (hj : jn = 0 ∨ jn = 1) (g0 : 0 ≤ z.g) (g9 : z.g ≤ 10) :
    DoesTo B evRun (ZS B z) (fun S => ∃ bc : Nat × Nat, ZS B (z.made prog (decide (jn = 0)) bc.1 bc.2) S) := by
  obtain ⟨gn, hgn⟩ : ∃ n : Nat, z.g = n := ⟨z.g.toNat, by omega⟩
  have gn9 : gn ≤ 10 := by omega
  have fr : ∀ n : Nat, n ≤ 10 → Tab.freeF (TF false (n : Int)) = some 1 ∧ Tab.gn (TF false (n : Int)) 1 = (n : Int) ∧ Tab.atF ((TF false (n : Int)).set 1 (true, (n : Int) + 1)) ((1 : Nat) + 16 * ((n : Int) + 1)) = some 1 := by
    intro n hn
    match n, hn with
    | 0, _ => decide | 1, _ => decide | 2, _ => decide | 3, _ => decide | 4, _ => decide | 5, _ => decide | 6, _ => decide | 7, _ => decide | 8, _ => decide | 9, _ => decide | 10, _ => decide
    | n + 11, h => omega
  obtain ⟨r1, r2, r3⟩ := fr gn gn9
  rw [← hgn] at r1 r2 r3
  have hR : ∀ f : Bool, (RF f true false).pr.getD 1 0 = 0 ∧ Lk ((RF f true false).tl.getD 30 0) ∧ (RF f true false).tailF 30 1 = Rmt := by
    intro f
    cases f
    · exact ⟨by decide, .inl (by decide), by decide⟩
    · exact ⟨by decide, .inl (by decide), by decide⟩
  obtain ⟨p1, p2, p3⟩ := hR z.f
  have q := d_create (turn0 D F hu hv ak) m 0 (by rw [D.ps]; rfl) hpr k hpc hi hk (by show z.ln ≤ _; have := F.ln; omega) (by show z.an ≤ _; have := F.an; have := F.ln; omega) 1 30 (z.g + 1) prog 0 jn hr2 hr3 hr4 hr5 hg0 (by rw [D.ps]; exact hg1) (by rw [D.ps]; exact D.len) (.inl rfl) hj (by show Tab.freeF (TF z.k1 z.g) = some 1; rw [hk1]; exact r1) (by show z.g + 1 = Tab.gn (TF z.k1 z.g) 1 + 1; rw [hk1, r2]) (by omega) (by show thF z.t0 z.o1 1 = none; exact ho) (by show Tab.atF ((TF z.k1 z.g).set 1 (true, z.g + 1)) _ = _; rw [hk1]; exact r3) (by decide) (by decide) (by show ((LF B.J.q z.u z.v).getD 1 Hs.no).isIn = false; rw [hu, hv]; rfl) (by show (RF z.f z.u z.v).pr.getD 1 0 = 0; rw [hu, hv]; exact p1) (by show Lk ((RF z.f z.u z.v).tl.getD 30 0); rw [hu, hv]; exact p2)
  intro W S N hW
  refine (q W S N hW).mono ?_
  rintro e' w' ⟨S', rfl, ⟨b, c, h⟩, k1, f1⟩
  refine ⟨S', rfl, ⟨(b, c), ?_⟩, k1, f1⟩
  have e : ({ z.pd B.J.q with x := (z.pd B.J.q).x.created B 0 z.t0 k 1 30 (z.g + 1) prog 0 (decide (jn = 0)) b c } : PD) = (z.made prog (decide (jn = 0)) b c).pd B.J.q := by
    show (⟨⟨(TF z.k1 z.g).set 1 _, (LF B.J.q z.u z.v).set 1 _, (RF z.f z.u z.v).tailF 30 1, _, put (put (put (thF z.t0 z.o1) 0 _) 1 _) 0 _, _, _, _⟩, _, _, _, _, _, _⟩ : PD) = _
    rw [thF_0, thF_1, thF_0, hu, hv, p3, ← hpc]
    rfl
  rw [e] at h
  exact h
end Dd
end Go.Proofs.YtagmlijhgncklaaGreatDoor.Ker
namespace Go.Proofs.YtagmlijhgncklaaGreatDoor.Ker
namespace Dd
open Go.RowKit Go.Proofs.YtagmlijhgncklaaGreatDoor Go.Proofs.YtagmlijhgncklaaGreatDoor.Code

def iSet (r : Nat) (x : Int) : Ins := ⟨1, r, 0, 0, x⟩
def iCall (n : Int) : Ins := ⟨7, 0, 0, 0, n⟩
/-- What never turns of main while it lives. -/
structure Main (z : Z) (k : Nat) : Prop where
  pr : z.t0.prog = 0
  pc : z.t0.pc = k
  can : z.t0.can = Can.newS
  pol : z.t0.pol = 0
  eff : z.t0.eff = 5
  jn : z.t0.jn = true
  jr : z.t0.jr < 0
theorem Main.set0 {z : Z} {k : Nat} (h : Main z k) (d : Nat) (x : Int) : Main (z.set0 d x) (k + 1) :=
  ⟨h.pr, by show z.t0.pc + 1 = _; rw [h.pc]; rfl, h.can, h.pol, h.eff, h.jn, h.jr⟩
theorem Main.ak {z : Z} {k : Nat} (h : Main z k) : z.t0.can.ak = false := by rw [h.can]; rfl
theorem Main.un {z : Z} {k : Nat} (h : Main z k) : z.t0.can.un = false := by rw [h.can]; rfl
/-- Main sets four registers. -/
def Z.four (z : Z) (a b c d : Int) : Z := (((z.set0 2 a).set0 3 b).set0 4 c).set0 5 d
end Dd
end Go.Proofs.YtagmlijhgncklaaGreatDoor.Ker
namespace Go.Proofs.YtagmlijhgncklaaGreatDoor.Ker
namespace Dd
open Go.RowKit Go.Proofs.YtagmlijhgncklaaGreatDoor Go.Proofs.YtagmlijhgncklaaGreatDoor.Code

/-- What never turns of the other while it lives. -/
structure Oth (t : Th) (n k : Nat) (g : Int) (jn : Bool) : Prop where
  pr : t.prog = n
  pc : t.pc = k
  can : t.can = Can.newS
  pol : t.pol = 0
  eff : t.eff = 30
  base : t.base = 30
  jn : t.jn = jn
  jr : t.jr < 0
  hd : t.hd = (1 : Nat) + 16 * g
theorem Oth.new (g : Int) (n : Nat) (jn : Bool) (b c : Nat) : Oth (newT g n jn b c) n 0 g jn := ⟨rfl, rfl, rfl, rfl, rfl, rfl, rfl, by show (-1 : Int) < 0; decide, rfl⟩
/-- The other lives, and runs. -/
structure Run1 (z : Z) (t : Th) (n k : Nat) (jn : Bool) : Prop where
  f : z.f = false
  u : z.u = true
  v : z.v = true
  o : z.o1 = some t
  k1 : z.k1 = true
  O : Oth t n k z.g jn
  F : Few z
/-- Behind two runs: the mutex set, and a call. -/
def Two (B : KB) (z : Z) (n k : Nat) (jn : Bool) (e : Int) (mx' : Mx.Mu) : Prop :=
  ∃ (z' : Z) (t' : Th), Steps B 2 (ZS B z) (ZS B z') ∧ Run1 z' t' n (k + 1 + 1) jn ∧ t'.r 1 = e ∧ z'.mx = mx' ∧ z'.ln = z.ln + 2 ∧ z'.t0 = z.t0 ∧ z'.notes = z.notes ∧ z'.g = z.g ∧ z'.W1 = z.W1 ∧ z'.mo = z.mo ∧ z'.re = z.re ∧ z'.e5 = z.e5
end Dd
end Go.Proofs.YtagmlijhgncklaaGreatDoor.Ker
namespace Go.Proofs.YtagmlijhgncklaaGreatDoor.Ker
namespace Dd
open Go.RowKit Go.Proofs.YtagmlijhgncklaaGreatDoor Go.Proofs.YtagmlijhgncklaaGreatDoor.Code

theorem Steps.no {B : KB} : ∀ {k : Nat} {A A' : KS → Prop}, (∀ S, ¬ A S) → Steps B k A A'
  | 0, _, _, h => fun S hS => absurd hS (h S)
  | _ + 1, _, _, h => ⟨fun _ => False, fun _ S hS _ => absurd hS (h S), Steps.no fun _ hS => hS⟩
/-- The wheel while nobody sleeps. -/
structure WhI (W : Wh) (m : Int) : Prop where
  F : Free W m
  ok : WhOk W
  st : W.st ≤ m
/-- Nothing happens, n times. -/
def Z.idles (z : Z) (n : Nat) : Z := { z with ln := z.ln + n }
end Dd
end Go.Proofs.YtagmlijhgncklaaGreatDoor.Ker
namespace Go.Proofs.YtagmlijhgncklaaGreatDoor.Ker
namespace Dd
open Go.RowKit Go.Proofs.YtagmlijhgncklaaGreatDoor Go.Proofs.YtagmlijhgncklaaGreatDoor.Code

/-- The program of main for n threads. -/
def blockL (i : Nat) : List Ins := [iSet 2 (i + 2 : Nat), iSet 3 30, iSet 4 0, iSet 5 1, iCall 1, iSet 2 1, iSet 3 0, iSet 4 1, iCall 62]
def headL : List Ins := [iSet 2 0, iSet 3 0, iSet 4 0, iSet 5 1, iCall 11, iSet 2 1, iSet 3 30, iSet 4 0, iSet 5 0, iCall 1, iSet 2 17, iCall 3]
def blocksL : Nat → List Ins
  | 0 => []
  | n + 1 => blocksL n ++ blockL n
def mainD (n : Nat) : List Ins := headL ++ blocksL n
/-- What each thread notes, and what becomes of the mutex. -/
def mxF (cs : List Bool) (i : Nat) : Mx.Mu := if i = 0 then ⟨-1, 0, 1⟩ else if cs.getD 0 false then ⟨-1, 0, 0⟩ else ⟨-1, 0, 2⟩
def eF (cs : List Bool) (i : Nat) : Int := if i = 0 then 130 else if cs.getD 0 false then 0 else 131
def notesF (cs : List Bool) : Nat → List (Int × Int)
  | 0 => []
  | i + 1 => notesF cs i ++ [(1, eF cs i)]
theorem notesF_len (cs : List Bool) (i : Nat) : (notesF cs i).length = i := by
  induction i with
  | zero => rfl
  | succ i ih => rw [notesF, List.length_append, ih]; rfl
end Dd
end Go.Proofs.YtagmlijhgncklaaGreatDoor.Ker
namespace Go.Proofs.YtagmlijhgncklaaGreatDoor.Ker
namespace Dd
open Go.RowKit Go.Proofs.YtagmlijhgncklaaGreatDoor Go.Proofs.YtagmlijhgncklaaGreatDoor.Code

/-- Main at the head of its i-th round, awake. -/
structure At (cs : List Bool) (i : Nat) (z : Z) : Prop where
  f : z.f = false
  u : z.u = true
  v : z.v = false
  o : z.o1 = none
  k1 : z.k1 = false
  g : z.g = 1 + i
  notes : z.notes = notesF cs i
  mx : z.mx = mxF cs i
  W1 : WhI z.W1 z.mo
  mo : z.mo = 1 + i
  re : z.re = 1 + i
  ln : z.ln = 21 * (1 + i)
  M : Main z (12 + 9 * i)
  F : Few z
end Dd
end Go.Proofs.YtagmlijhgncklaaGreatDoor.Ker
namespace Go.Proofs.YtagmlijhgncklaaGreatDoor.Ker
namespace Dd
open Go.RowKit Go.Proofs.YtagmlijhgncklaaGreatDoor Go.Proofs.YtagmlijhgncklaaGreatDoor.Code

/-- The mutex was made. -/
def Z.mutex (z : Z) : Z := { z with t0 := ({ z.t0 with pc := z.t0.pc + 1 } : Th).ans 16 0, st := z.st + 1, ln := z.ln + 1, an := z.an + 1 }
/-- The kernel as it is made. -/
def z0 (b c : Nat) : Z := ⟨Th.new b c ((0 : Nat) + 16 * 1) 0 (5 : Nat) 0 true, none, true, true, false, false, 0, 4, 0, 0, [], ⟨-1, 0, 0⟩, Wh.new, 0, 0, none⟩
end Dd
end Go.Proofs.YtagmlijhgncklaaGreatDoor.Ker
namespace Go.Proofs.YtagmlijhgncklaaGreatDoor.Ker
namespace Dd
open Go.RowKit Go.Proofs.YtagmlijhgncklaaGreatDoor Go.Proofs.YtagmlijhgncklaaGreatDoor.Code

theorem DoesTo.ex {B : KB} {ev : Value} {α : Type} {A : α → KS → Prop} {A' : KS → Prop} (h : ∀ a, DoesTo B ev (A a) A') : DoesTo B ev (fun S => ∃ a, A a S) A' := by
  rintro W S ⟨a, ha⟩ hW
  exact h a W S ha hW
theorem DoesTo.said {B : KB} {ev : Value} {p : Prop} {A A' : KS → Prop} (h : p → DoesTo B ev A A') : DoesTo B ev (fun S => p ∧ A S) A' := by
  rintro W S ⟨hp, ha⟩ hW
  exact h hp W S ha hW
theorem Steps.said {B : KB} {k : Nat} {p : Prop} {A A' : KS → Prop} (h : p → Steps B k A A') : Steps B k (fun S => p ∧ A S) A' := by
  by_cases hp : p
  · exact (h hp).pre fun S hS => hS.2
  · exact Steps.no fun S hS => hp hS.1
end Dd
end Go.Proofs.YtagmlijhgncklaaGreatDoor.Ker
namespace Go.Proofs.YtagmlijhgncklaaGreatDoor.Ker
namespace Dd
open Go.RowKit Go.Proofs.YtagmlijhgncklaaGreatDoor Go.Proofs.YtagmlijhgncklaaGreatDoor.Code

/-- A list of the caller's own, as a program in memory. -/
theorem own_prg {w : World} {B : Nat} {v : Value} {L : List Ins} (h : OwnI w B v L) (hl : 0 < L.length) : ∃ a ca, v = .slice (some ⟨a, 0, none⟩) L.length ca ∧ B ≤ a ∧ PrgH w a L := by
  rcases h.2 with ⟨_, h0⟩ | ⟨g, cap, cur, e, hb, hg, _, _, hs, ht⟩
  · omega
  · refine ⟨g, cap, e, hb, cur.toList, by simpa using hg, fun k i hk j hj => ?_⟩
    have hk2 : k < L.length := (List.getElem?_eq_some_iff.1 hk).1
    have q := flat_at L k i j hj hk
    rw [← ht] at q
    rw [List.getElem?_take_of_lt (by omega)] at q
    exact q
/-- Programs in memory, and the row of them. -/
structure Heirs (w : World) (B : Nat) (v : Value) (PS : List Prg) : Prop where
  row : w.ownsRow B 24 1 v PS.length (PS.map Prg.val)
  ps : ∀ x ∈ PS, PrgH w x.p x.L ∧ B ≤ x.p ∧ v.ownBlock ≠ some x.p
theorem Heirs.kept {w w' : World} {B : Nat} {v : Value} {PS : List Prg} (h : Heirs w B v PS) (k : ∀ b, (v.ownBlock = some b ∨ ∃ x ∈ PS, x.p = b) → w'.heap[b]? = w.heap[b]?) : Heirs w' B v PS :=
  ⟨owns_kept h.row fun b hb => k b (.inl hb), fun x hx => ⟨prg_move (h.ps x hx).1 (k x.p (.inr ⟨x, hx, rfl⟩)), (h.ps x hx).2⟩⟩
theorem Heirs.reads {w w' : World} {B : Nat} {v : Value} {PS : List Prg} (h : Heirs w B v PS) (b : Below w.heap.size w w') : Heirs w' B v PS :=
  h.kept fun c hc => b.block c (by
    rcases hc with hc | ⟨x, hx, rfl⟩
    · exact owns_lt h.row hc
    · exact prg_lt (h.ps x hx).1)
/-- A row of the caller's own grows; the programs lie apart from it. -/
theorem Heirs.grows {w w' : World} {B : Nat} {v : Value} {PS : List Prg} (h : Heirs w B v PS) {r : Option Nat} (g : w.grownBy w' r) (h1 : ∀ b, r = some b → v.ownBlock ≠ some b ∧ ∀ x ∈ PS, x.p ≠ b) : Heirs w' B v PS :=
  h.kept fun c hc => by
    have hlt : c < w.heap.size := by
      rcases hc with hc | ⟨x, hx, rfl⟩
      · exact owns_lt h.row hc
      · exact prg_lt (h.ps x hx).1
    refine g.block c hlt fun e => ?_
    rcases hc with hc | ⟨x, hx, rfl⟩
    · exact (h1 c e.symm).1 hc
    · exact (h1 x.p e.symm).2 x hx rfl
end Dd
end Go.Proofs.YtagmlijhgncklaaGreatDoor.Ker
