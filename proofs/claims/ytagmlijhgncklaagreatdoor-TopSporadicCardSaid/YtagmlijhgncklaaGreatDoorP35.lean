/-
  Do of a run in which a thread comes to its end behind its last instruction, over the translation of this seat. Conditions: the blocks that are named hold what is said.
  How a kernel stands: all that the next event asks for, as plain data; what each event makes of it. Conditions: those said.
  What an exit, an end, a join, a tick make of how a kernel stands. Conditions: those said.
  What a tick makes of how a kernel stands, where a robin runs. Conditions: those said.
  The kernel of the known rows (alive), as plain data: eight runs, one behind the other. Conditions: those said.
  The eight runs of the known rows as one chain. Conditions: those said.
  The known rows of the Top statements (alive), over the translation of this seat. There are no conditions.
  What a sporadic server's functions compute, over the translation of this seat. Conditions: the blocks that are named hold what is said.
  The program that makes robins, as a list. Plain. There are no conditions but those said.
  Main makes its robins, one by one, and ends: how the kernel stands behind each instruction. Plain. There are no conditions but those said.
-/
import Derived.Test.YtagmlijhgncklaaGreatDoorP33
import Derived.Test.YtagmlijhgncklaaGreatDoorP34
import Derived.BigQuiet
set_option linter.unusedVariables false
namespace Go.Proofs.YtagmlijhgncklaaGreatDoor.Ker
open Go.RowKit Go.Proofs.YtagmlijhgncklaaGreatDoor Go.Proofs.YtagmlijhgncklaaGreatDoor.Code

/-- One more step of the turns' own count. -/
def KS.one (S : KS) : KS := { S with st := S.st + 1 }
theorem Calm.one {S : KS} (C : Calm S) : Calm S.one where
  P := { C.P with }
  pol := C.pol
  kd := C.kd
  ba := C.ba
  mu := C.mu
theorem do_past (w : World) (S : KS) {B : KB} (hB : S.B = B) (h : KW w S) (C : Calm S) (p p0 : Nat) (t : Th) (Rn : Running S p t) (x : Code.Prg) (n : Nat) (hx : S.B.J.PS[n]? = some x) (hpr : t.prog = n) (k : Nat) (hpc : t.pc = k) (hi : k = x.L.length) (hln : S.lo.ln ≤ 100000)
    (hjn : t.jn = true) (hjr : t.jr < 0) (hun : t.can.un = false) (I : InSeq S.one p p0) :
    Calls Tryz.prog 13 #[.pointer (some ⟨B.kb, 0, none⟩), .agg #[.int .i64 1, .int .i64 0]] w fun e w' => ∃ v, e = .returned (.int .i64 0) ∧ KW w' ((S.one.over p t (t.r 0)).ev v) ∧ Fr S ((S.one.over p t (t.r 0)).ev v) w w' := by
  subst hB
  have ht : S.one.th p = some t := Rn.th
  obtain ⟨Sf, hSf⟩ : ∃ Sf, Sf = S.one.over p t (t.r 0) := ⟨_, rfl⟩
  refine (do_c w S rfl h 1 0 (fun S1 => S1 = Sf) ?_ (.inl ⟨rfl, fun W hW => run_past W S rfl hW C.P p t Rn x n hx hpr k hpc hi (fun S1 => S1 = Sf) fun W1 hW1 => (over_stays W1 S.one rfl hW1 C.one.P p p0 t Rn.p16 ht (C.pol p t Rn.th) C.mu hjn hjr hun I).mono ?_⟩)).mono ?_
  · rintro S1 rfl
    rw [hSf]
    exact ⟨rfl, C.one.over ht Rn.p16 _, hln⟩
  · rintro e w' ⟨rfl, k1, f1⟩
    rw [hSf]
    exact ⟨_, rfl, rfl, k1, f1⟩
  · rintro e w' ⟨S1, v, rfl, rfl, k1, f1⟩
    rw [hSf] at k1 f1
    exact ⟨v, rfl, k1, f1⟩
end Go.Proofs.YtagmlijhgncklaaGreatDoor.Ker
namespace Go.Proofs.YtagmlijhgncklaaGreatDoor.Ker
open Go.RowKit Go.Proofs.YtagmlijhgncklaaGreatDoor Go.Proofs.YtagmlijhgncklaaGreatDoor.Code

/-- What a kernel's state is made of, but for blocks. -/
structure Pl where
  T : List (Bool × Int)
  L : List Hs
  R : Rd
  st : Int
  th : Nat → Option Th
  ln : Nat
  an : Nat
  notes : List (Int × Int)
structure Now (S : KS) (B : KB) (x : Pl) : Prop where
  B : S.B = B
  T : S.T = x.T
  L : S.L = x.L
  R : S.R = x.R
  st : S.st = x.st
  th : S.th = x.th
  ln : S.lo.ln = x.ln
  an : S.lo.an = x.an
  notes : S.lo.notes = x.notes
  calm : Calm S
  q0 : Quiet S.W0
  q1 : Quiet S.W1
/-- An event leads from what A says to what A' says. -/
def DoesTo (B : KB) (ev : Value) (A A' : KS → Prop) : Prop := ∀ (W : World) (S : KS), A S → KW W S → Calls Tryz.prog 13 #[.pointer (some ⟨B.kb, 0, none⟩), ev] W fun e w' => ∃ S', e = .returned (.int .i64 0) ∧ A' S' ∧ KW w' S' ∧ Fr S S' W w'
def evRun : Value := .agg #[.int .i64 1, .int .i64 0]
def evTick : Value := .agg #[.int .i64 2, .int .i64 0]
/-- Whose turn it is, as plain data. -/
structure Turn (B : KB) (x : Pl) (p : Nat) (t : Th) : Prop where
  p16 : p < 16
  pn : p < B.n
  th : x.th p = some t
  first : x.R.firstF = p
  b1 : 1 ≤ Lib.bitLen x.R.sm
  b2 : Lib.bitLen x.R.sm ≤ 32
  sm : x.R.sm ≠ 0
  s0 : 0 ≤ x.st
  s1 : x.st ≤ 500000000
  ak : t.can.ak = false
theorem Turn.run {S : KS} {B : KB} {x : Pl} {p : Nat} {t : Th} (T : Turn B x p t) (N : Now S B x) : Running S p t :=
  ⟨T.p16, by rw [N.B]; exact T.pn, by rw [N.th]; exact T.th, by rw [N.R]; exact T.first, by rw [N.R]; exact T.b1, by rw [N.R]; exact T.b2, by rw [N.R]; exact T.sm, by rw [N.st]; exact T.s0, by rw [N.st]; exact T.s1, T.ak⟩
/-- A step. -/
def Pl.stepped (x : Pl) (p : Nat) (t : Th) (pc' : Int) (r' : Nat → Int) : Pl := { x with st := x.st + 1, th := put x.th p (some { t with pc := pc', r := r' }), ln := x.ln + 1 }
theorem now_step {B : KB} {x : Pl} {p : Nat} {t : Th} (T : Turn B x p t) (y : Code.Prg) (n : Nat) (hx : B.J.PS[n]? = some y) (hpr : t.prog = n) (k : Nat) (hpc : t.pc = k) (i : Code.Ins) (hi : y.L[k]? = some i) (hln : x.ln ≤ 100000)
    (pc' : Int) (r' : Nat → Int) (hop : i.op ≠ 0 ∧ i.op ≠ 7 ∧ i.op ≠ 8) (A : StepsTo i k t.r pc' r') : DoesTo B evRun (fun S => Now S B x) (fun S => Now S B (x.stepped p t pc' r')) := by
  intro W S N hW
  refine (do_step W S N.B hW N.calm p t (T.run N) y n (by rw [N.B]; exact hx) hpr k hpc i hi (by rw [N.ln]; exact hln) pc' r' hop A).mono ?_
  rintro e w' ⟨v, rfl, k1, f1⟩
  have ht : S.th p = some t := (T.run N).th
  refine ⟨(S.stepped p t pc' r').ev v, rfl, ⟨N.B, N.T, N.L, N.R, ?_, ?_, ?_, N.an, N.notes, (N.calm.stepped ht T.p16 pc' r').ev v, N.q0, N.q1⟩, k1, f1⟩
  · show S.st + 1 = x.st + 1; rw [N.st]
  · show put S.th p _ = put x.th p _; rw [N.th]
  · show S.lo.ln + 1 = x.ln + 1; rw [N.ln]
/-- A note. -/
def Pl.noted (x : Pl) (p : Nat) (t : Th) (k a : Nat) : Pl := { x with st := x.st + 1, th := put x.th p (some { t with pc := (k : Int) + 1 }), ln := x.ln + 1, notes := x.notes ++ [((p : Int), t.r a)] }
theorem now_note {B : KB} {x : Pl} {p : Nat} {t : Th} (T : Turn B x p t) (y : Code.Prg) (n : Nat) (hx : B.J.PS[n]? = some y) (hpr : t.prog = n) (k : Nat) (hpc : t.pc = k) (i : Code.Ins) (hi : y.L[k]? = some i) (hln : x.ln ≤ 100000)
    (a : Nat) (hop : i.op = 8) (hia : i.a = a) (ha8 : a < 8) (hk : k ≤ 1000) (hnn : x.notes.length ≤ 1000) : DoesTo B evRun (fun S => Now S B x) (fun S => Now S B (x.noted p t k a)) := by
  intro W S N hW
  refine (do_note W S N.B hW N.calm p t (T.run N) y n (by rw [N.B]; exact hx) hpr k hpc i hi (by rw [N.ln]; exact hln) a hop hia ha8 hk (by rw [N.notes]; exact hnn)).mono ?_
  rintro e w' ⟨u, v, rfl, k1, f1⟩
  have ht : S.th p = some t := (T.run N).th
  refine ⟨(S.noted p t k a u).ev v, rfl, ⟨N.B, N.T, N.L, N.R, ?_, ?_, ?_, N.an, ?_, (N.calm.noted ht T.p16 k a u).ev v, N.q0, N.q1⟩, k1, f1⟩
  · show S.st + 1 = x.st + 1; rw [N.st]
  · show put S.th p _ = put x.th p _; rw [N.th]
  · show S.lo.ln + 1 = x.ln + 1; rw [N.ln]
  · show S.lo.notes ++ _ = x.notes ++ _; rw [N.notes]
/-- A thread is made; where its blocks lie is not said. -/
def Pl.created (x : Pl) (B : KB) (p : Nat) (t : Th) (k i pr : Nat) (g prog pol : Int) (jn : Bool) (b c : Nat) : Pl :=
  { x with T := x.T.set i (true, g), L := x.L.set i ⟨true, decide (pol = 1), pr, B.J.q⟩, R := x.R.tailF pr i, st := x.st + 5, ln := x.ln + 1, an := x.an + 1, th := put (put (put x.th p (some { t with pc := (k : Int) + 1 })) i (some (Th.new b c (i + 16 * g) prog pr pol jn))) p (some (({ t with pc := (k : Int) + 1 } : Th).ans (i + 16 * g) 0)) }
theorem now_create {B : KB} {x : Pl} {p : Nat} {t : Th} (T : Turn B x p t) (y : Code.Prg) (n : Nat) (hx : B.J.PS[n]? = some y) (hpr : t.prog = n) (k : Nat) (hpc : t.pc = k) (hi : y.L[k]? = some ⟨7, 0, 0, 0, 1⟩) (hk : k ≤ 1000) (hln : x.ln ≤ 100000) (han : x.an ≤ 100000)
    (i pr : Nat) (g prog pol jn : Int) (hr2 : t.r 2 = prog) (hr3 : t.r 3 = pr) (hr4 : t.r 4 = pol) (hr5 : t.r 5 = jn)
    (hg0 : 0 ≤ prog) (hg1 : prog < B.J.PS.length) (hg2 : B.J.PS.length ≤ 32) (hpl : pol = 0 ∨ pol = 1) (hj : jn = 0 ∨ jn = 1) (hf : Tab.freeF x.T = some i) (hg : g = Tab.gn x.T i + 1) (hg9 : g ≤ 900) (hn : x.th i = none) (hat : Tab.atF (x.T.set i (true, g)) (i + 16 * g) = some i)
    (h1 : 1 ≤ pr) (h32 : pr < 32) (hin : (x.L.getD i Hs.no).isIn = false) (hz : x.R.pr.getD i 0 = 0) (hl : Lk (x.R.tl.getD pr 0)) : DoesTo B evRun (fun S => Now S B x) (fun S => ∃ b c, Now S B (x.created B p t k i pr g prog pol (decide (jn = 0)) b c)) := by
  intro W S N hW
  have hT := N.T
  refine (do_create W S N.B hW N.calm p t (T.run N) y n (by rw [N.B]; exact hx) hpr k hpc hi hk (by rw [N.ln]; exact hln) (by rw [N.an]; exact han) i pr g prog pol jn hr2 hr3 hr4 hr5 hg0 (by rw [N.B]; exact hg1) (by rw [N.B]; exact hg2) hpl hj (by rw [hT]; exact hf) (by rw [hT]; exact hg) hg9 (by rw [N.th]; exact hn) (by rw [hT]; exact hat) h1 h32 (by rw [N.L]; exact hin) (by rw [N.R]; exact hz) (by rw [N.R]; exact hl)).mono ?_
  rintro e w' ⟨b, c, av, v, rfl, k1, f1⟩
  have ht : S.th p = some t := (T.run N).th
  have hip : p ≠ i := fun e => by have q := T.th; rw [e, hn] at q; cases q
  have hiB : i < S.B.n := by have q := (Tab.free_some hf).1; rw [← hT, N.calm.P.T] at q; exact q
  have g0 : 0 ≤ g := by have := (N.calm.P.gen i).1; rw [hT] at this; omega
  have hqB : B.J.q = S.B.J.q := by rw [N.B]
  refine ⟨(S.created p t k i pr g prog pol (decide (jn = 0)) b c av).ev v, rfl, ⟨b, c, ⟨N.B, ?_, ?_, ?_, ?_, ?_, ?_, ?_, N.notes, (N.calm.created (k := k) (g := g) (prog := prog) (jn := decide (jn = 0)) (b := b) (c := c) (av := av) ht T.p16 hip hiB g0 hg9 (by omega) h32).ev v, N.q0, N.q1⟩⟩, k1, f1⟩
  · show S.T.set i _ = x.T.set i _; rw [N.T]
  · show S.L.set i _ = x.L.set i _; rw [N.L, hqB]; rfl
  · show S.R.tailF pr i = x.R.tailF pr i; rw [N.R]
  · show S.st + 1 + 4 = x.st + 5; rw [N.st]; omega
  · show put (put (put S.th p _) i _) p _ = put (put (put x.th p _) i _) p _; rw [N.th]
  · show S.lo.ln + 1 = x.ln + 1; rw [N.ln]
  · show S.lo.an + 1 = x.an + 1; rw [N.an]
end Go.Proofs.YtagmlijhgncklaaGreatDoor.Ker
namespace Go.Proofs.YtagmlijhgncklaaGreatDoor.Ker
open Go.RowKit Go.Proofs.YtagmlijhgncklaaGreatDoor Go.Proofs.YtagmlijhgncklaaGreatDoor.Code

/-- A thread has ended with v. -/
def Pl.over (x : Pl) (p : Nat) (t : Th) (v : Int) : Pl := { x with L := x.L.set p Hs.no, R := x.R.remF p, st := x.st + 3, th := put (put (put x.th p (some t)) p (some (t.unw v))) p (some { t.unw v with en := true }), ln := x.ln + 1 }
/-- It may leave the sequences. -/
structure Leaves (x : Pl) (p p0 : Nat) : Prop where
  isIn : (x.L.getD p Hs.no).isIn = true
  q1 : 1 ≤ p0
  q32 : p0 < 32
  pr : x.R.pr.getD p 0 = p0
  pv : Lk (x.R.pv.getD p 0)
  nx : Lk (x.R.nx.getD p 0)
theorem now_exit {B : KB} {x : Pl} {p p0 : Nat} {t : Th} (T : Turn B x p t) (y : Code.Prg) (n : Nat) (hx : B.J.PS[n]? = some y) (hpr : t.prog = n) (k : Nat) (hpc : t.pc = k) (hi : y.L[k]? = some ⟨7, 0, 0, 0, 2⟩) (hk : k ≤ 1000) (hln : x.ln ≤ 100000) (han : x.an ≤ 100000)
    (hjn : t.jn = true) (hjr : t.jr < 0) (hun : t.can.un = false) (I : Leaves x p p0) : DoesTo B evRun (fun S => Now S B x) (fun S => Now S B (x.over p { t with pc := (k : Int) + 1 } (t.r 2))) := by
  intro W S N hW
  have ht : S.th p = some t := (T.run N).th
  refine (do_exit W S N.B hW N.calm p p0 t (T.run N) y n (by rw [N.B]; exact hx) hpr k hpc hi hk (by rw [N.ln]; exact hln) (by rw [N.an]; exact han) hjn hjr hun
    ⟨by show (S.L.getD p Hs.no).isIn = true; rw [N.L]; exact I.isIn, I.q1, I.q32, by show S.R.pr.getD p 0 = p0; rw [N.R]; exact I.pr, by show Lk (S.R.pv.getD p 0); rw [N.R]; exact I.pv, by show Lk (S.R.nx.getD p 0); rw [N.R]; exact I.nx, by show 0 ≤ S.st + 1; rw [N.st]; have := T.s0; omega, by show S.st + 1 ≤ 600000000; rw [N.st]; have := T.s1; omega⟩).mono ?_
  rintro e w' ⟨v, rfl, k1, f1⟩
  have C0 := N.calm.stepped ht T.p16 ((k : Int) + 1) t.r
  have ht0 : (S.stepped p t ((k : Int) + 1) t.r).th p = some { t with pc := (k : Int) + 1, r := t.r } := put_self _ _ _
  refine ⟨((S.stepped p t ((k : Int) + 1) t.r).over p { t with pc := (k : Int) + 1, r := t.r } (t.r 2)).ev v, rfl, ⟨N.B, N.T, ?_, ?_, ?_, ?_, ?_, N.an, N.notes, (C0.over ht0 T.p16 (t.r 2)).ev v, N.q0, N.q1⟩, k1, f1⟩
  · show S.L.set p _ = x.L.set p _; rw [N.L]
  · show S.R.remF p = x.R.remF p; rw [N.R]
  · show S.st + 1 + 2 = x.st + 3; rw [N.st]; omega
  · show put (put (put S.th p _) p _) p _ = put (put (put x.th p _) p _) p _; rw [N.th]
  · show S.lo.ln + 1 = x.ln + 1; rw [N.ln]
theorem now_past {B : KB} {x : Pl} {p p0 : Nat} {t : Th} (T : Turn B x p t) (y : Code.Prg) (n : Nat) (hx : B.J.PS[n]? = some y) (hpr : t.prog = n) (k : Nat) (hpc : t.pc = k) (hi : k = y.L.length) (hln : x.ln ≤ 100000)
    (hjn : t.jn = true) (hjr : t.jr < 0) (hun : t.can.un = false) (I : Leaves x p p0) : DoesTo B evRun (fun S => Now S B x) (fun S => Now S B (x.over p t (t.r 0))) := by
  intro W S N hW
  have ht : S.th p = some t := (T.run N).th
  refine (do_past W S N.B hW N.calm p p0 t (T.run N) y n (by rw [N.B]; exact hx) hpr k hpc hi (by rw [N.ln]; exact hln) hjn hjr hun
    ⟨by show (S.L.getD p Hs.no).isIn = true; rw [N.L]; exact I.isIn, I.q1, I.q32, by show S.R.pr.getD p 0 = p0; rw [N.R]; exact I.pr, by show Lk (S.R.pv.getD p 0); rw [N.R]; exact I.pv, by show Lk (S.R.nx.getD p 0); rw [N.R]; exact I.nx, by show 0 ≤ S.st + 1; rw [N.st]; have := T.s0; omega, by show S.st + 1 ≤ 600000000; rw [N.st]; have := T.s1; omega⟩).mono ?_
  rintro e w' ⟨v, rfl, k1, f1⟩
  have ht0 : S.one.th p = some t := ht
  refine ⟨(S.one.over p t (t.r 0)).ev v, rfl, ⟨N.B, N.T, ?_, ?_, ?_, ?_, ?_, N.an, N.notes, (N.calm.one.over ht0 T.p16 (t.r 0)).ev v, N.q0, N.q1⟩, k1, f1⟩
  · show S.L.set p _ = x.L.set p _; rw [N.L]
  · show S.R.remF p = x.R.remF p; rw [N.R]
  · show S.st + 1 + 2 = x.st + 3; rw [N.st]; omega
  · show put (put S.th p _) p _ = put (put (put x.th p _) p _) p _
    rw [N.th, put_put, put_put, put_put]
  · show S.lo.ln + 1 = x.ln + 1; rw [N.ln]
/-- A thread has joined q, which had ended with v. -/
def Pl.joined (x : Pl) (p : Nat) (t : Th) (k q : Nat) (v : Int) : Pl := { x with T := x.T.set q (false, Tab.gn x.T q), st := x.st + 1, th := put (put (put x.th p (some { t with pc := (k : Int) + 1 })) q none) p (some (({ t with pc := (k : Int) + 1 } : Th).ans v 0)), ln := x.ln + 1, an := x.an + 1 }
theorem now_join {B : KB} {x : Pl} {p q : Nat} {t z : Th} (T : Turn B x p t) (y : Code.Prg) (n : Nat) (hx : B.J.PS[n]? = some y) (hpr : t.prog = n) (k : Nat) (hpc : t.pc = k) (hi : y.L[k]? = some ⟨7, 0, 0, 0, 3⟩) (hk : k ≤ 1000) (hln : x.ln ≤ 100000) (han : x.an ≤ 100000)
    (hq : q < 16) (hz : x.th q = some z) (hpq : q ≠ p) (hf : Tab.atF x.T (t.r 2) = some q) (hyd : z.hd = t.r 2) (hjn : z.jn = true) (hjr : z.jr < 0) (hen : z.en = true) (hact : Can.actsF t.can true = false) : DoesTo B evRun (fun S => Now S B x) (fun S => Now S B (x.joined p t k q z.val)) := by
  intro W S N hW
  have ht : S.th p = some t := (T.run N).th
  refine (do_join W S N.B hW N.calm p q t z (T.run N) y n (by rw [N.B]; exact hx) hpr k hpc hi hk (by rw [N.ln]; exact hln) (by rw [N.an]; exact han) hq (by rw [N.th]; exact hz) hpq (by rw [N.T]; exact hf) hyd hjn hjr hen hact).mono ?_
  rintro e w' ⟨av, v, rfl, k1, f1⟩
  have C0 := N.calm.stepped ht T.p16 ((k : Int) + 1) t.r
  have hqn : q < S.B.n := N.calm.P.thn q z (by rw [N.th]; exact hz)
  have ht1 : ((S.stepped p t ((k : Int) + 1) t.r).gone q).th p = some { t with pc := (k : Int) + 1, r := t.r } := by
    show put (put S.th p _) q none p = _
    rw [put_ne _ _ (Ne.symm hpq), put_self]
  refine ⟨(S.joined p t k q z.val av).ev v, rfl, ⟨N.B, ?_, N.L, N.R, ?_, ?_, ?_, ?_, N.notes, ((C0.gone hqn).ans ht1 T.p16 z.val 0 av).ev v, N.q0, N.q1⟩, k1, f1⟩
  · show S.T.set q (false, Tab.gn S.T q) = x.T.set q _; rw [N.T]
  · show S.st + 1 = x.st + 1; rw [N.st]
  · show put (put (put S.th p _) q _) p _ = put (put (put x.th p _) q _) p _; rw [N.th]
  · show S.lo.ln + 1 = x.ln + 1; rw [N.ln]
  · show S.lo.an + 1 = x.an + 1; rw [N.an]
end Go.Proofs.YtagmlijhgncklaaGreatDoor.Ker
namespace Go.Proofs.YtagmlijhgncklaaGreatDoor.Ker
open Go.RowKit Go.Proofs.YtagmlijhgncklaaGreatDoor Go.Proofs.YtagmlijhgncklaaGreatDoor.Code

def Pl.ticked (x : Pl) (L : List Hs) (R : Rd) (d : Int) : Pl := { x with L := L, R := R, st := x.st + 1 + d, ln := x.ln + 1 }
theorem now_tick {B : KB} {x : Pl} {p : Nat} {t : Th} (T : Turn B x p t) (hln : x.ln ≤ 100000) (L : List Hs) (R : Rd) (d : Int) (hL : L.length = 16) (hR : RdOk R) (a b : Value)
    (A : ∀ W, Tn W B.tb B.rb B.J.q x.L x.R (x.st + 1) → Calls Tryz.prog 83 #[.pointer (some ⟨B.tb, 0, none⟩)] W fun e w' => e = .returned (.tuple #[a, b]) ∧ Tn w' B.tb B.rb B.J.q L R (x.st + 1 + d) ∧ Upd2 W B.tb B.rb w') : DoesTo B evTick (fun S => Now S B x) (fun S => Now S B (x.ticked L R d)) := by
  intro W S N hW
  have hB := N.B
  subst hB
  have A : ∀ W, Tn W S.B.tb S.B.rb S.B.J.q S.L S.R (S.st + 1) → Calls Tryz.prog 83 #[.pointer (some ⟨S.B.tb, 0, none⟩)] W fun e w' => e = .returned (.tuple #[a, b]) ∧ Tn w' S.B.tb S.B.rb S.B.J.q L R (S.st + 1 + d) ∧ Upd2 W S.B.tb S.B.rb w' := by
    rw [N.L, N.R, N.st]
    exact A
  have C2 : Calm ({ S with L := L, R := R, st := S.st + 1 + d } : KS) := ⟨{ N.calm.P with L := hL, R := hR }, N.calm.pol, N.calm.kd, N.calm.ba, N.calm.mu⟩
  refine (do_tick W S { S with L := L, R := R, st := S.st + 1 + d } rfl hW N.calm p t (T.run N) N.q0 N.q1 ⟨rfl, rfl, rfl, rfl, rfl, rfl⟩ C2 (by show S.lo.ln ≤ _; rw [N.ln]; exact hln) a b ?_).mono ?_
  · intro W1 hW1
    refine (A W1 (hW1.tn N.calm.P.L N.calm.P.R)).mono ?_
    rintro e w' ⟨rfl, T1, U⟩
    have q := hW1.turns (S := { S with st := S.st + 1 }) T1 U
    exact ⟨rfl, q.1, q.2⟩
  · rintro e w' ⟨v, rfl, k1, f1⟩
    refine ⟨(({ S with L := L, R := R, st := S.st + 1 + d } : KS).ticked).ev v, rfl, ⟨rfl, N.T, rfl, rfl, ?_, N.th, ?_, N.an, N.notes, C2.ticked.ev v, N.q0, N.q1⟩, k1, f1⟩
    · show S.st + 1 + d = x.st + 1 + d; rw [N.st]
    · show S.lo.ln + 1 = x.ln + 1; rw [N.ln]
/-- A robin whose quantum is not over. -/
theorem now_less {B : KB} {x : Pl} {p : Nat} {t : Th} (T : Turn B x p t) (hln : x.ln ≤ 100000) (hL : x.L.length = 16) (hR : RdOk x.R) (hr : (x.L.getD p Hs.no).rob = true) (hl : 1 < (x.L.getD p Hs.no).lf) (hl2 : (x.L.getD p Hs.no).lf ≤ 100) :
    DoesTo B evTick (fun S => Now S B x) (fun S => Now S B (x.ticked (x.L.set p { x.L.getD p Hs.no with lf := (x.L.getD p Hs.no).lf - 1 }) x.R 1)) :=
  now_tick T hln _ _ 1 (by rw [List.length_set]; exact hL) hR _ _ fun W TW => tick_less W B.tb B.rb B.J.q x.L x.R (x.st + 1) p TW T.first T.p16 hr hl hl2 T.b1 T.b2 T.sm (by have := T.s0; omega) (by have := T.s1; omega)
/-- A robin whose quantum is over goes behind the others. -/
theorem now_last {B : KB} {x : Pl} {p pr : Nat} {t : Th} (T : Turn B x p t) (hln : x.ln ≤ 100000) (hL : x.L.length = 16) (hR : RdOk x.R) (hr : (x.L.getD p Hs.no).rob = true) (hl : (x.L.getD p Hs.no).lf ≤ 1) (hp : (x.L.getD p Hs.no).pr = pr) (hp1 : 1 ≤ pr) (hp2 : pr < 32) (hz : x.R.pr.getD p 0 = pr) (hv : Lk (x.R.pv.getD p 0)) (hn : Lk (x.R.nx.getD p 0)) (hlk : Lk ((x.R.remF p).tl.getD pr 0)) :
    DoesTo B evTick (fun S => Now S B x) (fun S => Now S B (x.ticked (x.L.set p { x.L.getD p Hs.no with lf := B.J.q }) ((x.R.remF p).tailF pr p) 7)) :=
  now_tick T hln _ _ 7 (by rw [List.length_set]; exact hL) (RdOk.tailF (RdOk.remF hR p) hp2 p) _ _ fun W TW => by
    have q := tick_last W B.tb B.rb B.J.q x.L x.R (x.st + 1) p pr TW T.first T.p16 hr hl hp hp1 hp2 hz hv hn hlk T.b1 T.b2 T.sm (by have := T.s0; omega) (by have := T.s1; omega)
    exact q
/-- The kernel that is made stands so. -/
def Pl.first (B : KB) (n pr b c : Nat) : Pl := ⟨(List.replicate n (false, 0)).set 0 (true, 1), (List.replicate 16 Hs.no).set 0 ⟨true, false, pr, B.J.q⟩, Rd.new.tailF pr 0, 4, put (fun _ => none) 0 (some (Th.new b c ((0 : Nat) + 16 * 1) 0 pr 0 true)), 0, 0, []⟩
theorem now_first {B : KB} {lo : Lo} {n o pr b c : Nat} (C : Calm (KS.first B lo n o pr b c)) (h1 : lo.ln = 0) (h2 : lo.notes = []) (h3 : lo.an = 0) : Now (KS.first B lo n o pr b c) B (Pl.first B n pr b c) :=
  ⟨rfl, rfl, rfl, rfl, rfl, rfl, h1, h3, h2, C, Wh.new_quiet, Wh.new_quiet⟩
end Go.Proofs.YtagmlijhgncklaaGreatDoor.Ker
namespace Go.Proofs.YtagmlijhgncklaaGreatDoor.Ker
open Go.RowKit Go.Proofs.YtagmlijhgncklaaGreatDoor Go.Proofs.YtagmlijhgncklaaGreatDoor.Code

def mainL : List Ins := [⟨1, 2, 0, 0, 1⟩, ⟨1, 3, 0, 0, 9⟩, ⟨7, 0, 0, 0, 1⟩, ⟨1, 2, 0, 0, 17⟩, ⟨7, 0, 0, 0, 3⟩, ⟨8, 0, 0, 0, 0⟩]
def otherL : List Ins := [⟨1, 2, 0, 0, 7⟩, ⟨7, 0, 0, 0, 2⟩]
structure AlB (B : KB) (m y : Prg) : Prop where
  n : B.n = 4
  q : B.J.q = 2
  PS : B.J.PS = [m, y]
  m : m.L = mainL
  y : y.L = otherL
theorem Turn.ofs {B : KB} {x : Pl} {p : Nat} {t : Th} (p16 : p < 16) (pn : p < B.n) (th : x.th p = some t) (R : Rd) (hR : x.R = R) (first : R.firstF = p) (b1 : 1 ≤ Lib.bitLen R.sm) (b2 : Lib.bitLen R.sm ≤ 32) (sm : R.sm ≠ 0) (st : Nat) (hst : x.st = st) (s1 : st ≤ 500000000) (ak : t.can.ak = false) : Turn B x p t := by
  subst hR
  exact ⟨p16, pn, th, first, b1, b2, sm, by omega, by omega, ak⟩
def R1 : Rd := Rd.new.tailF 5 0
def R2 : Rd := R1.tailF 9 1
def R3 : Rd := R2.remF 1
variable (B : KB) (b c b2 c2 : Nat)
def a0 : Th := Th.new b c ((0 : Nat) + 16 * 1) 0 (5 : Nat) 0 true
def a1 : Th := { a0 b c with pc := 1, r := put (a0 b c).r 2 1 }
def a2 : Th := { a1 b c with pc := 2, r := put (a1 b c).r 3 9 }
def a3 : Th := ({ a2 b c with pc := 3 } : Th).ans ((1 : Nat) + 16 * 1) 0
def a4 : Th := { a3 b c with pc := 4, r := put (a3 b c).r 2 17 }
def a5 : Th := ({ a4 b c with pc := 5 } : Th).ans 7 0
def o0 : Th := Th.new b2 c2 ((1 : Nat) + 16 * 1) 1 (9 : Nat) 0 true
def o1 : Th := { o0 b2 c2 with pc := 1, r := put (o0 b2 c2).r 2 7 }
def o2 : Th := { ({ o1 b2 c2 with pc := 2 } : Th).unw 7 with en := true }
def x0 : Pl := Pl.first B 4 5 b c
def x1 : Pl := (x0 B b c).stepped 0 (a0 b c) (((0 : Nat) : Int) + 1) (put (a0 b c).r 2 1)
def x2 : Pl := (x1 B b c).stepped 0 (a1 b c) (((1 : Nat) : Int) + 1) (put (a1 b c).r 3 9)
def x3 : Pl := (x2 B b c).created B 0 (a2 b c) 2 1 9 1 1 0 true b2 c2
/-- Behind Runs, which counts one step. -/
def x3r : Pl := { x3 B b c b2 c2 with st := (x3 B b c b2 c2).st + 1 }
def x4 : Pl := (x3r B b c b2 c2).stepped 1 (o0 b2 c2) (((0 : Nat) : Int) + 1) (put (o0 b2 c2).r 2 7)
def x5 : Pl := (x4 B b c b2 c2).over 1 { o1 b2 c2 with pc := ((1 : Nat) : Int) + 1 } ((o1 b2 c2).r 2)
def x6 : Pl := (x5 B b c b2 c2).stepped 0 (a3 b c) (((3 : Nat) : Int) + 1) (put (a3 b c).r 2 17)
def x7 : Pl := (x6 B b c b2 c2).joined 0 (a4 b c) 4 1 (o2 b2 c2).val
def x8 : Pl := (x7 B b c b2 c2).noted 0 (a5 b c) 5 0
variable {B b c b2 c2} {m y : Prg}
theorem al1 (A : AlB B m y) : DoesTo B evRun (fun S => Now S B (x0 B b c)) (fun S => Now S B (x1 B b c)) :=
  now_step (t := a0 b c) (Turn.ofs (by decide) (by rw [A.n]; decide) rfl R1 rfl (by decide) (by decide) (by decide) (by decide) 4 (by rfl) (by decide) rfl) m 0 (by rw [A.PS]; rfl) rfl 0 rfl ⟨1, 2, 0, 0, 1⟩ (by rw [A.m]; rfl) (by show (0 : Nat) ≤ 100000; decide) _ _ (by decide) (step_set 2 (by decide) 1 0 (by decide) _)
theorem al2 (A : AlB B m y) : DoesTo B evRun (fun S => Now S B (x1 B b c)) (fun S => Now S B (x2 B b c)) :=
  now_step (t := a1 b c) (Turn.ofs (by decide) (by rw [A.n]; decide) rfl R1 rfl (by decide) (by decide) (by decide) (by decide) 5 (by rfl) (by decide) rfl) m 0 (by rw [A.PS]; rfl) rfl 1 rfl ⟨1, 3, 0, 0, 9⟩ (by rw [A.m]; rfl) (by show (1 : Nat) ≤ 100000; decide) _ _ (by decide) (step_set 3 (by decide) 9 1 (by decide) _)
theorem al3 (A : AlB B m y) : DoesTo B evRun (fun S => Now S B (x2 B b c)) (fun S => ∃ b2 c2, Now S B (x3 B b c b2 c2)) :=
  now_create (t := a2 b c) (Turn.ofs (by decide) (by rw [A.n]; decide) rfl R1 rfl (by decide) (by decide) (by decide) (by decide) 6 (by rfl) (by decide) rfl) m 0 (by rw [A.PS]; rfl) rfl 2 rfl (by rw [A.m]; rfl) (by decide) (by show (2 : Nat) ≤ 100000; decide) (by show (0 : Nat) ≤ 100000; decide) 1 9 1 1 0 0 rfl rfl rfl rfl (by decide) (by rw [A.PS]; show (1 : Int) < ((2 : Nat) : Int); decide) (by rw [A.PS]; show (2 : Nat) ≤ 32; decide) (.inl rfl) (.inl rfl) (by rfl) (by rfl) (by decide) rfl (by rfl) (by decide) (by decide) (by rfl) (by rfl) (.inl (by rfl))
theorem al4 (A : AlB B m y) : DoesTo B evRun (fun S => Now S B (x3r B b c b2 c2)) (fun S => Now S B (x4 B b c b2 c2)) :=
  now_step (t := o0 b2 c2) (Turn.ofs (by decide) (by rw [A.n]; decide) rfl R2 rfl (by decide) (by decide) (by decide) (by decide) 12 (by rfl) (by decide) rfl) y 1 (by rw [A.PS]; rfl) rfl 0 rfl ⟨1, 2, 0, 0, 7⟩ (by rw [A.y]; rfl) (by show (3 : Nat) ≤ 100000; decide) _ _ (by decide) (step_set 2 (by decide) 7 0 (by decide) _)
theorem al5 (A : AlB B m y) : DoesTo B evRun (fun S => Now S B (x4 B b c b2 c2)) (fun S => Now S B (x5 B b c b2 c2)) :=
  now_exit (p0 := 9) (t := o1 b2 c2) (Turn.ofs (by decide) (by rw [A.n]; decide) rfl R2 rfl (by decide) (by decide) (by decide) (by decide) 13 (by rfl) (by decide) rfl) y 1 (by rw [A.PS]; rfl) rfl 1 rfl (by rw [A.y]; rfl) (by decide) (by show (4 : Nat) ≤ 100000; decide) (by show (1 : Nat) ≤ 100000; decide) rfl (by show (-1 : Int) < 0; decide) rfl ⟨rfl, by decide, by decide, by rfl, .inl (by rfl), .inl (by rfl)⟩
theorem al6 (A : AlB B m y) : DoesTo B evRun (fun S => Now S B (x5 B b c b2 c2)) (fun S => Now S B (x6 B b c b2 c2)) :=
  now_step (t := a3 b c) (Turn.ofs (by decide) (by rw [A.n]; decide) rfl R3 rfl (by decide) (by decide) (by decide) (by decide) 16 (by rfl) (by decide) rfl) m 0 (by rw [A.PS]; rfl) rfl 3 rfl ⟨1, 2, 0, 0, 17⟩ (by rw [A.m]; rfl) (by show (5 : Nat) ≤ 100000; decide) _ _ (by decide) (step_set 2 (by decide) 17 3 (by decide) _)
theorem al7 (A : AlB B m y) : DoesTo B evRun (fun S => Now S B (x6 B b c b2 c2)) (fun S => Now S B (x7 B b c b2 c2)) :=
  now_join (q := 1) (t := a4 b c) (z := o2 b2 c2) (Turn.ofs (by decide) (by rw [A.n]; decide) rfl R3 rfl (by decide) (by decide) (by decide) (by decide) 17 (by rfl) (by decide) rfl) m 0 (by rw [A.PS]; rfl) rfl 4 rfl (by rw [A.m]; rfl) (by decide) (by show (6 : Nat) ≤ 100000; decide) (by show (1 : Nat) ≤ 100000; decide) (by decide) rfl (by decide) (by rfl) rfl rfl (by show (-1 : Int) < 0; decide) rfl rfl
theorem al8 (A : AlB B m y) : DoesTo B evRun (fun S => Now S B (x7 B b c b2 c2)) (fun S => Now S B (x8 B b c b2 c2)) :=
  now_note (t := a5 b c) (Turn.ofs (by decide) (by rw [A.n]; decide) rfl R3 rfl (by decide) (by decide) (by decide) (by decide) 18 (by rfl) (by decide) rfl) m 0 (by rw [A.PS]; rfl) rfl 5 rfl ⟨8, 0, 0, 0, 0⟩ (by rw [A.m]; rfl) (by show (7 : Nat) ≤ 100000; decide) 0 rfl rfl (by decide) (by decide) (by show (0 : Nat) ≤ 1000; decide)
theorem now_one {S : KS} {B : KB} {x : Pl} (N : Now S B x) : Now ({ S with st := S.st + 1 } : KS) B { x with st := x.st + 1 } :=
  ⟨N.B, N.T, N.L, N.R, by show S.st + 1 = x.st + 1; rw [N.st], N.th, N.ln, N.an, N.notes, N.calm.one, N.q0, N.q1⟩
theorem al_notes : (x8 B b c b2 c2).notes = [(0, 7)] := rfl
end Go.Proofs.YtagmlijhgncklaaGreatDoor.Ker
namespace Go.Proofs.YtagmlijhgncklaaGreatDoor.Ker
open Go.RowKit Go.Proofs.YtagmlijhgncklaaGreatDoor Go.Proofs.YtagmlijhgncklaaGreatDoor.Code

/-- Behind j runs. -/
def AlS (B : KB) (b c : Nat) : Nat → KS → Prop
  | 0, S => Now S B (x0 B b c)
  | 1, S => Now S B (x1 B b c)
  | 2, S => Now S B (x2 B b c)
  | 3, S => ∃ b2 c2, Now S B (x3 B b c b2 c2)
  | 4, S => ∃ b2 c2, Now S B (x3r B b c b2 c2)
  | 5, S => ∃ b2 c2, Now S B (x4 B b c b2 c2)
  | 6, S => ∃ b2 c2, Now S B (x5 B b c b2 c2)
  | 7, S => ∃ b2 c2, Now S B (x6 B b c b2 c2)
  | 8, S => ∃ b2 c2, Now S B (x7 B b c b2 c2)
  | 9, S => ∃ b2 c2, Now S B (x8 B b c b2 c2)
  | _ + 10, _ => False
theorem does_some {B : KB} {ev : Value} {X Y : Nat → Nat → Pl} (h : ∀ b2 c2, DoesTo B ev (fun S => Now S B (X b2 c2)) (fun S => Now S B (Y b2 c2))) : DoesTo B ev (fun S => ∃ b2 c2, Now S B (X b2 c2)) (fun S => ∃ b2 c2, Now S B (Y b2 c2)) := by
  rintro W S ⟨b2, c2, hN⟩ hW
  refine (h b2 c2 W S hN hW).mono ?_
  rintro e w' ⟨S', rfl, hS, k, f⟩
  exact ⟨S', rfl, ⟨b2, c2, hS⟩, k, f⟩
theorem al_next {B : KB} {b c : Nat} {m y : Prg} (A : AlB B m y) (j : Nat) (hj : j < 9) (h3 : j ≠ 3) : DoesTo B evRun (AlS B b c j) (AlS B b c (j + 1)) := by
  match j, hj with
  | 0, _ => exact al1 A
  | 1, _ => exact al2 A
  | 2, _ => exact al3 A
  | 3, _ => exact absurd rfl h3
  | 4, _ => exact does_some fun b2 c2 => al4 A
  | 5, _ => exact does_some fun b2 c2 => al5 A
  | 6, _ => exact does_some fun b2 c2 => al6 A
  | 7, _ => exact does_some fun b2 c2 => al7 A
  | 8, _ => exact does_some fun b2 c2 => al8 A
  | _ + 9, h => exact absurd h (by omega)
theorem alB_of {B : KB} {PS : List Prg} {b cap : Nat} {t o s q pr : Int} (hJ : B.J = ⟨t, o, s, q, pr, PS, b, cap⟩) (hq : q = 2) (hL : PS.map Prg.L = [mainL, otherL]) (hn : B.n = 4) : ∃ m y, AlB B m y := by
  match PS, hL, hJ with
  | [m, y], hL, hJ =>
    simp at hL
    exact ⟨m, y, hn, by rw [hJ]; exact hq, by rw [hJ], hL.1, hL.2⟩
  | [], hL, _ => simp at hL
  | [_], hL, _ => simp at hL
  | _ :: _ :: _ :: _, hL, _ => simp at hL
end Go.Proofs.YtagmlijhgncklaaGreatDoor.Ker
namespace Go.Proofs.YtagmlijhgncklaaGreatDoor.Ker
open Go.RowKit Go.Proofs.YtagmlijhgncklaaGreatDoor Go.Proofs.YtagmlijhgncklaaGreatDoor.Code

theorem main_ok : ∀ i ∈ mainL, i.Ok 6 := by
  intro i hi
  simp [mainL] at hi
  rcases hi with rfl | rfl | rfl | rfl | rfl | rfl <;> simp [Ins.Ok, RegOk]
theorem other_ok : ∀ i ∈ otherL, i.Ok 2 := by
  intro i hi
  simp [otherL] at hi
  rcases hi with rfl | rfl <;> simp [Ins.Ok, RegOk]
def alJ (a b c : Nat) : Job := ⟨4, 4, 4, 2, 5, [⟨a, mainL, 6⟩, ⟨b, otherL, 2⟩], c, 2⟩
theorem alJ_ok (a b c : Nat) : (alJ a b c).Ok := by
  refine ⟨by show (1 : Int) ≤ 4; decide, by show (4 : Int) ≤ 16; decide, by show (1 : Int) ≤ 4; decide, by show (4 : Int) ≤ 8; decide, by show (1 : Int) ≤ 4; decide, by show (4 : Int) ≤ 32; decide, by show (1 : Int) ≤ 2; decide, by show (2 : Int) ≤ 100; decide, by show (1 : Int) ≤ 5; decide, by show (5 : Int) ≤ 31; decide, by show 1 ≤ 2; decide, by show 2 ≤ 32; decide, ?_⟩
  intro x hx
  simp [alJ] at hx
  rcases hx with rfl | rfl
  · exact ⟨main_ok, by show (6 : Nat) ≤ 256; decide⟩
  · exact ⟨other_ok, by show (2 : Nat) ≤ 256; decide⟩
theorem alJ_pgs {w : World} {a b c : Nat} (ha : w.heap[a]? = some (.cells (mainL.flatMap Ins.cells).toArray 29 (0, 0))) (hb : w.heap[b]? = some (.cells (otherL.flatMap Ins.cells).toArray 29 (0, 0))) (hc : w.heap[c]? = some (.cells #[.slice (some ⟨a, 0, none⟩) 6 6, .slice (some ⟨b, 0, none⟩) 2 2] 24 (0, 0))) : PgsH w c (alJ a b c).PS := by
  refine ⟨⟨[.slice (some ⟨a, 0, none⟩) 6 6, .slice (some ⟨b, 0, none⟩) 2 2], hc, ?_⟩, ?_⟩
  · intro k x hk
    match k, hk with
    | 0, hk => cases hk; rfl
    | 1, hk => cases hk; rfl
  · intro x hx
    simp [alJ] at hx
    rcases hx with rfl | rfl
    · exact ⟨_, ha, fun k i hk j hj => flat_at mainL k i j hj hk⟩
    · exact ⟨_, hb, fun k i hk j hj => flat_at otherL k i j hj hk⟩
set_option maxHeartbeats 2000000 in
set_option maxRecDepth 100000 in
theorem alive_c (w : World) : Calls Tryz.prog 7 #[] w fun e w' => e = .returned (.bool true) ∧ Below w.heap.size w w' := by
  have S21 : ∀ W, Calls Tryz.prog 19 #[.int .i64 2, .int .i64 1] W fun e w' => e = .returned (.agg #[.int .i64 1, .int .i64 2, .int .i64 0, .int .i64 0, .int .i64 1]) ∧ Below W.heap.size W w' := fun W => Set_c W 2 1
  have S39 : ∀ W, Calls Tryz.prog 19 #[.int .i64 3, .int .i64 9] W fun e w' => e = .returned (.agg #[.int .i64 1, .int .i64 3, .int .i64 0, .int .i64 0, .int .i64 9]) ∧ Below W.heap.size W w' := fun W => Set_c W 3 9
  have S217 : ∀ W, Calls Tryz.prog 19 #[.int .i64 2, .int .i64 17] W fun e w' => e = .returned (.agg #[.int .i64 1, .int .i64 2, .int .i64 0, .int .i64 0, .int .i64 17]) ∧ Below W.heap.size W w' := fun W => Set_c W 2 17
  have S27 : ∀ W, Calls Tryz.prog 19 #[.int .i64 2, .int .i64 7] W fun e w' => e = .returned (.agg #[.int .i64 1, .int .i64 2, .int .i64 0, .int .i64 0, .int .i64 7]) ∧ Below W.heap.size W w' := fun W => Set_c W 2 7
  have C1 : ∀ W, Calls Tryz.prog 10 #[.int .i64 1] W fun e w' => e = .returned (.agg #[.int .i64 7, .int .i64 0, .int .i64 0, .int .i64 0, .int .i64 1]) ∧ Below W.heap.size W w' := fun W => Call_c W 1
  have C2 : ∀ W, Calls Tryz.prog 10 #[.int .i64 2] W fun e w' => e = .returned (.agg #[.int .i64 7, .int .i64 0, .int .i64 0, .int .i64 0, .int .i64 2]) ∧ Below W.heap.size W w' := fun W => Call_c W 2
  have C3 : ∀ W, Calls Tryz.prog 10 #[.int .i64 3] W fun e w' => e = .returned (.agg #[.int .i64 7, .int .i64 0, .int .i64 0, .int .i64 0, .int .i64 3]) ∧ Below W.heap.size W w' := fun W => Call_c W 3
  go_enter Tryz.func7, Tryz.ntmps7
  go_upto_region 2 with (first
    | (go_at_call 19; with_reducible refine (S21 _).mono ?_; rintro e w1 ⟨rfl, b1⟩; have HB1 := Lib.hid b1; clear b1)
    | (go_at_call 19; with_reducible refine (S39 _).mono ?_; rintro e w2 ⟨rfl, b2⟩; have HB2 := Lib.hid (HB1.out.trans (b2.mono HB1.out.size)); clear b2)
    | (go_at_call 10; with_reducible refine (C1 _).mono ?_; rintro e w3 ⟨rfl, b3⟩; have HB3 := Lib.hid (HB2.out.trans (b3.mono HB2.out.size)); clear b3)
    | (go_at_call 19; with_reducible refine (S217 _).mono ?_; rintro e w4 ⟨rfl, b4⟩; have HB4 := Lib.hid (HB3.out.trans (b4.mono HB3.out.size)); clear b4)
    | (go_at_call 10; with_reducible refine (C3 _).mono ?_; rintro e w5 ⟨rfl, b5⟩; have HB5 := Lib.hid (HB4.out.trans (b5.mono HB4.out.size)); clear b5))
  have xa : (w5.alloc (.cells #[.int .i64 1, .int .i64 2, .int .i64 0, .int .i64 0, .int .i64 1, .int .i64 1, .int .i64 3, .int .i64 0, .int .i64 0, .int .i64 9, .int .i64 7, .int .i64 0, .int .i64 0, .int .i64 0, .int .i64 1, .int .i64 1, .int .i64 2, .int .i64 0, .int .i64 0, .int .i64 17, .int .i64 7, .int .i64 0, .int .i64 0, .int .i64 0, .int .i64 3, .int .i64 8, .int .i64 0, .int .i64 0, .int .i64 0, .int .i64 0] 29)).heap[w5.heap.size]? = some (.cells (mainL.flatMap Ins.cells).toArray 29 (0, 0)) := heap_alloc_new w5 _
  obtain ⟨a, ha⟩ : ∃ a, a = w5.heap.size := ⟨_, rfl⟩
  rw [← ha] at xa ⊢
  refine world_wp (fun W => Below w.heap.size w W ∧ W.heap[a]? = some (.cells (mainL.flatMap Ins.cells).toArray 29 (0, 0))) ⟨HB5.out.alloc HB5.out.size _, xa⟩ ?_
  clear xa ha HB1 HB2 HB3 HB4 HB5 S21 S39 S217 C1 C3
  clear w1 w2 w3 w4 w5
  rintro W ⟨hb, xa⟩
  have HB := Lib.hid hb
  have HA := Lib.hid xa
  clear hb xa
  go_upto_region 3 with (first
    | (go_at_call 19; with_reducible refine (S27 _).mono ?_; rintro e w1 ⟨rfl, b1⟩; have HA1 := Lib.hid (below_has b1 HA.out); have HB1 := Lib.hid (HB.out.trans (b1.mono HB.out.size)); clear b1)
    | (go_at_call 10; with_reducible refine (C2 _).mono ?_; rintro e w2 ⟨rfl, b2⟩; have HA2 := Lib.hid (below_has b2 HA1.out); have HB2 := Lib.hid (HB1.out.trans (b2.mono HB1.out.size)); clear b2))
  have xb : (w2.alloc (.cells #[.int .i64 1, .int .i64 2, .int .i64 0, .int .i64 0, .int .i64 7, .int .i64 7, .int .i64 0, .int .i64 0, .int .i64 0, .int .i64 2] 29)).heap[w2.heap.size]? = some (.cells (otherL.flatMap Ins.cells).toArray 29 (0, 0)) := heap_alloc_new w2 _
  have xa := below_alloc_has (o := .cells #[.int .i64 1, .int .i64 2, .int .i64 0, .int .i64 0, .int .i64 7, .int .i64 7, .int .i64 0, .int .i64 0, .int .i64 0, .int .i64 2] 29) HA2.out
  obtain ⟨b, hb⟩ : ∃ b, b = w2.heap.size := ⟨_, rfl⟩
  rw [← hb] at xb ⊢
  refine world_wp (fun W => Below w.heap.size w W ∧ W.heap[a]? = some (.cells (mainL.flatMap Ins.cells).toArray 29 (0, 0)) ∧ W.heap[b]? = some (.cells (otherL.flatMap Ins.cells).toArray 29 (0, 0))) ⟨HB2.out.alloc HB2.out.size _, xa, xb⟩ ?_
  clear xa xb hb HA1 HA2 HB1 HB2 HA HB S27 C2
  clear W w1 w2
  rintro W ⟨hb, xa, xb⟩
  have c1 := (Below.refl W.heap.size W).alloc (Nat.le_refl _) (.cells #[.slice (some ⟨a, 0, none⟩) 6 6, .slice (some ⟨b, 0, none⟩) 2 2] 24)
  have HP : Hid (PgsH (W.alloc (.cells #[.slice (some ⟨a, 0, none⟩) 6 6, .slice (some ⟨b, 0, none⟩) 2 2] 24)) W.heap.size (alJ a b W.heap.size).PS) := Lib.hid (alJ_pgs (below_has c1 xa) (below_has c1 xb) (heap_alloc_new W _))
  have HB := Lib.hid (hb.trans (c1.mono hb.size))
  have JC := fun V => Job_c V (alJ a b W.heap.size).PS W.heap.size 2
  have NC := fun V h => new_c V (alJ a b W.heap.size) h (alJ_ok a b W.heap.size) 4 4 5 rfl rfl rfl
  clear hb xa xb c1
  go_upto_region 4 with (first
    | (go_at_call 11; refine (JC _).mono ?_; rintro e w1 ⟨rfl, b1⟩; have HP1 := Lib.hid (HP.out.reads b1); have HB1 := Lib.hid (HB.out.trans (b1.mono HB.out.size)); clear b1 JC)
    | (go_at_call 12; refine (NC _ HP1.out).mono ?_; rintro e w2 ⟨B, lo, tb, tc, rfl, hJ, hn, l1, l2, l3, l4, k2, cm, b2, hl⟩; have HK2 := Lib.hid k2; have HN0 := Lib.hid (now_first cm l1 l3 l4); have HB2 := Lib.hid (HB1.out.trans (b2.mono HB1.out.size)); have HJJ := Lib.hid hJ; have HNN := Lib.hid hn; have HLL := Lib.hid hl; clear NC k2 cm l1 l2 l3 l4 b2 hJ hn hl))
  obtain ⟨m, y, AB⟩ : ∃ m y, AlB B m y := by
    obtain ⟨PS, b', cap, h1, h2⟩ := HJJ.out
    exact alB_of h1 rfl h2 HNN.out
  have HAB := Lib.hid AB
  have HSW : RowKit.Hid (∃ S, AlS B tb tc 0 S ∧ KW w2 S ∧ Fr (KS.first B lo 4 4 5 tb tc) S w2 w2) := Lib.hid ⟨_, HN0.out, HK2.out, Fr.refl _ _⟩
  clear AB
  go_wp2_with fail
  go_loopw [5] (fun i wr => ∃ (j : Nat) (S : KS), i = .int .i64 j ∧ j ≤ 3 ∧ AlS B tb tc j S ∧ KW wr S ∧ Fr (KS.first B lo 4 4 5 tb tc) S w2 wr) (fun i _ => 3 - (intOf i).toNat)
  case atStart =>
    obtain ⟨S, h1, h2, h3⟩ := HSW.out
    exact ⟨0, S, rfl, by omega, h1, h2, h3⟩
  case round =>
    obtain ⟨j, S, rfl, hj, hA, hK, hF⟩ := hrel
    have HA := Lib.hid hA
    have HK := Lib.hid hK
    have HF := Lib.hid hF
    clear hA hK hF
    by_cases hlt : j < 3
    · have i1 : (0 : Int) ≤ j := by omega
      go_wp2_with (first
        | (go_at_call 14; refine (Run_c wr).mono ?_; rintro e w3 ⟨rfl, b3⟩; have HK3 := Lib.hid (HK.out.reads b3); have HF3 := Lib.hid (HF.out.trans (Fr.reads S b3)); clear b3)
        | (go_at_call 13; refine (al_next HAB.out j (by omega) (by omega) w3 S HA.out HK3.out).mono ?_; rintro e w4 ⟨S4, rfl, hA4, k4, f4⟩; have HA4 := Lib.hid hA4; have HK4 := Lib.hid k4; have HF4 := Lib.hid (HF3.out.trans f4); clear hA4 k4 f4))
      go_roundw
      case rel => exact ⟨j + 1, S4, by go_num, by omega, HA4.out, HK4.out, HF4.out⟩
      case measure => simp [intOf]; omega
    · obtain rfl : j = 3 := by omega
      obtain ⟨b2, c2, N3⟩ : ∃ b2 c2, Now S B (x3 B tb tc b2 c2) := HA.out
      have RU := Runs_c wr S N3.B HK.out N3.calm.P (by rw [N3.R]; show 1 ≤ Lib.bitLen R2.sm; decide) (by rw [N3.R]; show Lib.bitLen R2.sm ≤ 32; decide) (by rw [N3.R]; show R2.sm ≠ 0; decide) (by rw [N3.st]; show (0 : Int) ≤ ((11 : Nat) : Int); decide) (by rw [N3.st]; show ((11 : Nat) : Int) ≤ 800000000; decide)
      rw [show S.R.firstF = 1 by rw [N3.R]; show R2.firstF = 1; decide] at RU
      obtain ⟨S5, hS5⟩ : ∃ S5 : KS, S5 = { S with st := S.st + 1 } := ⟨_, rfl⟩
      have HA5 : RowKit.Hid (AlS B tb tc 4 S5) := Lib.hid (by rw [hS5]; exact ⟨b2, c2, now_one N3⟩)
      rw [← hS5] at RU
      clear N3 hS5
      go_wp2_with (go_at_call 16; refine RU.mono ?_; rintro e w5 ⟨rfl, k5, f5⟩; have HK5 := Lib.hid k5; have HF5 := Lib.hid (HF.out.trans f5); clear k5 f5 RU)
      go_loopw [8] (fun i wr => ∃ (j : Nat) (S : KS), i = .int .i64 j ∧ j ≤ 5 ∧ AlS B tb tc (4 + j) S ∧ KW wr S ∧ Fr (KS.first B lo 4 4 5 tb tc) S w2 wr) (fun i _ => 5 - (intOf i).toNat)
      case atStart => exact ⟨0, S5, rfl, by omega, HA5.out, HK5.out, HF5.out⟩
      case round =>
        clear HA HK HF HA5 HK5 HF5 HSW hlt hj
        obtain ⟨j, S6, rfl, hj, hA, hK, hF⟩ := hrel
        have HA := Lib.hid hA
        have HK := Lib.hid hK
        have HF := Lib.hid hF
        clear hA hK hF
        by_cases hlt : j < 5
        · have i1 : (0 : Int) ≤ j := by omega
          go_wp2_with (first
            | (go_at_call 14; refine (Run_c _).mono ?_; rintro e w7 ⟨rfl, b7⟩; have HK7 := Lib.hid (HK.out.reads b7); have HF7 := Lib.hid (HF.out.trans (Fr.reads S6 b7)); clear b7)
            | (go_at_call 13; refine (al_next HAB.out (4 + j) (by omega) (by omega) w7 S6 HA.out HK7.out).mono ?_; rintro e w8 ⟨S8, rfl, hA8, k8, f8⟩; have HA8 := Lib.hid hA8; have HK8 := Lib.hid k8; have HF8 := Lib.hid (HF7.out.trans f8); clear hA8 k8 f8))
          go_roundw
          case rel => exact ⟨j + 1, S8, by go_num, by omega, HA8.out, HK8.out, HF8.out⟩
          case measure => simp [intOf]; omega
        · obtain rfl : j = 5 := by omega
          obtain ⟨b2', c2', N8⟩ : ∃ b2 c2, Now S6 B (x8 B tb tc b2 c2) := HA.out
          have hno : S6.lo.notes = [(0, 7)] := N8.notes
          have hnt := HK.out.nt
          rw [hno] at hnt
          obtain ⟨g, cp, hnv⟩ : ∃ g cp, S6.lo.nv = .slice (some ⟨g, 0, none⟩) 1 cp := by
            rcases hnt.2 with ⟨_, e⟩ | ⟨g, cp, cur, e, _⟩
            · cases e
            · exact ⟨g, cp, e⟩
          have NT := Notes_c wr S6 N8.B HK.out (by rw [hno]; decide) g cp (by rw [hno]; exact hnv)
          rw [hno] at NT
          have HE : RowKit.Hid (Below w.heap.size w wr) := Lib.hid ⟨HF.out.os.trans HB2.out.os, HF.out.tape.trans HB2.out.tape, HF.out.output.trans HB2.out.output, Nat.le_trans HB2.out.size HF.out.size, fun k hk => (HF.out.block k (Nat.lt_of_lt_of_le hk HB2.out.size) (HLL.out k (Nat.lt_of_lt_of_le hk HB1.out.size))).trans (HB2.out.block k hk)⟩
          clear hnt hno hnv N8
          go_wp2_with (go_at_call 15; refine NT.mono ?_; rintro e w9 ⟨v, rfl, ow, nn, b9⟩
                       obtain ⟨g9, q9, rfl⟩ : ∃ g q, v = .slice (some ⟨g, 0, none⟩) 1 q := by
                         rcases ow.2 with ⟨e, _⟩ | ⟨g, q, cur, e, _⟩
                         · exact absurd e nn
                         · exact ⟨g, q, e⟩
                       have y0 : w9.cell? ⟨g9, 0, none⟩ = some (.int .i64 0) := by
                         have q := World.ownsRow.cellAt ow 0 (by decide)
                         simpa using q
                       have y1 : w9.cell? ⟨g9, 1, none⟩ = some (.int .i64 7) := by
                         have q := World.ownsRow.cellAt ow 1 (by decide)
                         simpa using q
                       have HB9 := Lib.hid b9
                       clear ow nn b9 NT)
          go_ret
          exact ⟨rfl, HE.out.trans (HB9.out.mono HE.out.size)⟩
end Go.Proofs.YtagmlijhgncklaaGreatDoor.Ker
namespace Go.Proofs.YtagmlijhgncklaaGreatDoor.Spo
open Go.RowKit Go.Proofs.YtagmlijhgncklaaGreatDoor

/-- A server: budget, period, what is left, is it active, since when, what was used, its pieces. -/
structure Sv where
  bu : Int
  pe : Int
  lf : Int
  ac : Bool
  si : Int
  us : Int
  pv : Value
  ps : List (Int × Int)
def svO (s : Sv) : Obj := .cells #[.int .i64 s.bu, .int .i64 s.pe, .int .i64 4, .int .i64 s.lf, .bool s.ac, .int .i64 s.si, .int .i64 s.us, s.pv] 344 (0, 0)
def pcC (l : List (Int × Int)) : List Value := l.flatMap fun x => [.int .i64 x.1, .int .i64 x.2]
/-- The pieces lie where they say. -/
def PcW (w : World) (s : Sv) : Prop := w.ownsRow 0 348 2 s.pv s.ps.length (pcC s.ps)
theorem PcW.slice {w : World} {s : Sv} (h : PcW w s) : ∃ a c, s.pv = .slice a s.ps.length c := by
  rcases h.2 with ⟨e, n⟩ | ⟨g, c, _, e, _⟩
  · exact ⟨none, 0, by rw [e, n]⟩
  · exact ⟨some ⟨g, 0, none⟩, c, e⟩
theorem is_c (w : World) (b : Nat) (s : Sv) (h : w.heap[b]? = some (svO s)) (hb : 0 < s.bu) : Calls Tryz.prog 151 #[.pointer (some ⟨b, 0, none⟩)] w fun e w' => e = .returned (.bool true) ∧ w = w' := by
  have c0 : w.cell? ⟨b, 0, none⟩ = some (.int .i64 s.bu) := has_cell 0 h rfl
  clear h
  go_enter Tryz.func151, Tryz.ntmps151
  go_wp2
  go_ret
  exact ⟨rfl, rfl⟩
def highF (s : Sv) : Bool := decide (0 < s.lf) && decide (s.ps.length < 4)
theorem high_c (w : World) (b : Nat) (s : Sv) (h : w.heap[b]? = some (svO s)) (hb : 0 < s.bu) {x : Option Addr} {cap : Nat} (hs : s.pv = .slice x s.ps.length cap) {r : Bool} (hr : highF s = r) : Calls Tryz.prog 81 #[.pointer (some ⟨b, 0, none⟩)] w fun e w' => e = .returned (.bool r) ∧ Below w.heap.size w w' := by
  have A : ∀ n, Calls Tryz.prog 151 #[.pointer (some ⟨b, 0, none⟩)] (w.drewN n) fun e w' => e = .returned (.bool true) ∧ w.drewN n = w' := fun n => is_c (w.drewN n) b s h hb
  have c2 : w.cell? ⟨b, 2, none⟩ = some (.int .i64 4) := has_cell 2 h rfl
  have c3 : w.cell? ⟨b, 3, none⟩ = some (.int .i64 s.lf) := has_cell 3 h rfl
  have c7 : w.cell? ⟨b, 7, none⟩ = some (.slice x s.ps.length cap) := by rw [← hs]; exact has_cell 7 h rfl
  have F : ∀ p q : Bool, p = decide (0 < s.lf) → q = decide ((s.ps.length : Int) < 4) → (p && q) = r := fun p q e1 e2 => by
    rw [e1, e2, ← hr]
    unfold highF
    congr 2
    simp
    omega
  have HF := Lib.hid F
  clear h hs hr F
  by_cases h0 : 0 < s.lf
  · by_cases h1 : (s.ps.length : Int) < 4
    · have hr : true = r := HF.out true true (by simpa using h0) (by simpa using h1)
      subst hr
      clear HF
      go_enter Tryz.func81, Tryz.ntmps81
      go_wp2_with fail
      go_quiet ((first | (go_at_call 151; exact quiet_left (A _))))
      go_wp2_with fail
      go_ret
      exact ⟨rfl, below_drewN (Below.refl _ _) _⟩
    · have d1 : decide ((s.ps.length : Int) < 4) = false := by simpa using h1
      have hr : false = r := HF.out true false (by simpa using h0) d1.symm
      subst hr
      clear HF h1
      go_enter Tryz.func81, Tryz.ntmps81
      go_wp2_with fail
      go_quiet ((first | (go_at_call 151; exact quiet_left (A _))))
      go_wp2_with fail
      go_ret
      exact ⟨rfl, below_drewN (Below.refl _ _) _⟩
  · have d0 : decide (0 < s.lf) = false := by simpa using h0
    have hr : false = r := by
      have := HF.out false (decide ((s.ps.length : Int) < 4)) d0.symm rfl
      simpa using this
    subst hr
    clear HF h0
    go_enter Tryz.func81, Tryz.ntmps81
    go_wp2_with fail
    go_quiet ((first | (go_at_call 151; exact quiet_left (A _))))
    go_wp2_with fail
    go_ret
    exact ⟨rfl, below_drewN (Below.refl _ _) _⟩
theorem time_c (w : World) (n : Int) (h0 : 0 ≤ n) (h1 : n ≤ 1099511627776) : Calls Tryz.prog 305 #[.int .i64 n] w fun e w' => e = .returned (.bool true) ∧ w = w' := by
  go_enter Tryz.func305, Tryz.ntmps305
  go_wp2
  go_ret
  exact ⟨rfl, rfl⟩
theorem start_c (w : World) (b : Nat) (s : Sv) (h : w.heap[b]? = some (svO s)) (hb : 0 < s.bu) (ha : s.ac = false) (now : Int) (h0 : 0 ≤ now) (h1 : now ≤ 1099511627776) :
    Calls Tryz.prog 159 #[.pointer (some ⟨b, 0, none⟩), .int .i64 now] w fun e w' => e = .returned (.int .i64 0) ∧ Upd w b (svO { s with ac := true, si := now, us := 0 }) w' := by
  have A := is_c w b s h hb
  have c4 : w.cell? ⟨b, 4, none⟩ = some (.bool false) := by rw [← ha]; exact has_cell 4 h rfl
  have c5 : w.cell? ⟨b, 5, none⟩ = some (.int .i64 s.si) := has_cell 5 h rfl
  have c6 : w.cell? ⟨b, 6, none⟩ = some (.int .i64 s.us) := has_cell 6 h rfl
  have fz := has_free h
  have U := (((Upd.refl h).setCell 4 (.bool true)).setCell 5 (.int .i64 now)).setCell 6 (.int .i64 0)
  have HU := Lib.hid (U.to (o' := svO { s with ac := true, si := now, us := 0 }) rfl)
  clear h U
  go_enter Tryz.func159, Tryz.ntmps159
  go_wp2_with (first | (go_at_call 151; refine A.mono ?_; rintro e w' ⟨rfl, rfl⟩) | (go_at_call 305; refine (time_c _ _ h0 h1).mono ?_; rintro e w' ⟨rfl, rfl⟩))
  go_ret
  exact ⟨rfl, HU.out⟩
theorem start_already (w : World) (b : Nat) (s : Sv) (h : w.heap[b]? = some (svO s)) (hb : 0 < s.bu) (ha : s.ac = true) (now : Int) (h0 : 0 ≤ now) (h1 : now ≤ 1099511627776) :
    Calls Tryz.prog 159 #[.pointer (some ⟨b, 0, none⟩), .int .i64 now] w fun e w' => e = .returned (.int .i64 7) ∧ w = w' := by
  have A := is_c w b s h hb
  have c4 : w.cell? ⟨b, 4, none⟩ = some (.bool true) := by rw [← ha]; exact has_cell 4 h rfl
  clear h
  go_enter Tryz.func159, Tryz.ntmps159
  go_wp2_with (first | (go_at_call 151; refine A.mono ?_; rintro e w' ⟨rfl, rfl⟩) | (go_at_call 305; refine (time_c _ _ h0 h1).mono ?_; rintro e w' ⟨rfl, rfl⟩))
  go_ret
  exact ⟨rfl, rfl⟩
theorem active_no (w : World) (b : Nat) (s : Sv) (h : w.heap[b]? = some (svO s)) (hb : 0 < s.bu) (ha : s.ac = false) :
    Calls Tryz.prog 80 #[.pointer (some ⟨b, 0, none⟩)] w fun e w' => e = .returned (.tuple #[.int .i64 0, .int .i64 0, .bool false]) ∧ w = w' := by
  have A := is_c w b s h hb
  have c4 : w.cell? ⟨b, 4, none⟩ = some (.bool false) := by rw [← ha]; exact has_cell 4 h rfl
  clear h
  go_enter Tryz.func80, Tryz.ntmps80
  go_wp2_with (first | (go_at_call 151; refine A.mono ?_; rintro e w' ⟨rfl, rfl⟩))
  go_ret3
  exact ⟨rfl, rfl⟩
theorem active_yes (w : World) (b : Nat) (s : Sv) (h : w.heap[b]? = some (svO s)) (hb : 0 < s.bu) (ha : s.ac = true) :
    Calls Tryz.prog 80 #[.pointer (some ⟨b, 0, none⟩)] w fun e w' => e = .returned (.tuple #[.int .i64 s.si, .int .i64 s.us, .bool true]) ∧ Below w.heap.size w w' := by
  have A := is_c w b s h hb
  have c4 : w.cell? ⟨b, 4, none⟩ = some (.bool true) := by rw [← ha]; exact has_cell 4 h rfl
  have c5 : w.cell? ⟨b, 5, none⟩ = some (.int .i64 s.si) := has_cell 5 h rfl
  have c6 : w.cell? ⟨b, 6, none⟩ = some (.int .i64 s.us) := has_cell 6 h rfl
  clear h
  go_enter Tryz.func80, Tryz.ntmps80
  go_wp2_with (first | (go_at_call 151; refine A.mono ?_; rintro e w' ⟨rfl, rfl⟩))
  go_quiet (fail)
  go_wp2_with fail
  go_ret3
  exact ⟨rfl, below_drewN (Below.refl _ _) _⟩
/-- A server has turned: its block and its pieces' block; what is elsewhere is as it was. -/
structure SvTo (w : World) (b : Nat) (s s' : Sv) (w' : World) : Prop where
  os : w'.os = w.os
  tape : w'.tape = w.tape
  output : w'.output = w.output
  size : w.heap.size ≤ w'.heap.size
  has : w'.heap[b]? = some (svO s')
  pc : PcW w' s'
  keep : ∀ k, k < w.heap.size → k ≠ b → s.pv.ownBlock ≠ some k → w'.heap[k]? = w.heap[k]?
  blk : s'.pv.ownBlock = s.pv.ownBlock ∨ ∀ g, s'.pv.ownBlock = some g → w.heap.size ≤ g
/-- The pieces' block is not the server's own. -/
def Apart (b : Nat) (s : Sv) : Prop := s.pv.ownBlock ≠ some b
theorem pc_lt {w : World} {s : Sv} (h : PcW w s) {g : Nat} (hg : s.pv.ownBlock = some g) : g < w.heap.size := Ker.owns_lt h hg
theorem SvTo.apart {w w' : World} {b : Nat} {s s' : Sv} (h : SvTo w b s s' w') (a : Apart b s) (hb : b < w.heap.size) : Apart b s' := by
  intro e
  rcases h.blk with q | q
  · exact a (q.symm.trans e)
  · have := q b e; omega
theorem SvTo.trans {w w1 w2 : World} {b : Nat} {s s1 s2 : Sv} (h : SvTo w b s s1 w1) (k : SvTo w1 b s1 s2 w2) : SvTo w b s s2 w2 := by
  refine ⟨k.os.trans h.os, k.tape.trans h.tape, k.output.trans h.output, Nat.le_trans h.size k.size, k.has, k.pc, fun j hj hjb hjp => ?_, ?_⟩
  · refine (k.keep j (Nat.lt_of_lt_of_le hj h.size) hjb ?_).trans (h.keep j hj hjb hjp)
    intro e
    rcases h.blk with q | q
    · exact hjp (q.symm.trans e)
    · have := q j e; omega
  · rcases k.blk with q | q
    · rcases h.blk with r | r
      · exact .inl (q.trans r)
      · exact .inr fun g hg => r g (q.symm.trans hg)
    · exact .inr fun g hg => Nat.le_trans h.size (q g hg)
/-- The server's own block alone has turned. -/
theorem SvTo.own {w w' : World} {b : Nat} {s s' : Sv} (hp : PcW w s) (a : Apart b s) (e1 : s'.pv = s.pv) (e2 : s'.ps = s.ps) (U : Upd w b (svO s') w') : SvTo w b s s' w' :=
  ⟨U.2.os, U.2.tape, U.2.output, U.2.size, U.1, by
    unfold PcW
    rw [e1, e2]
    exact Ker.owns_kept hp fun g hg => U.2.block g (pc_lt hp hg) (by intro e; cases e; exact a hg), fun k hk hkb _ => U.2.block k hk (by intro e; cases e; exact hkb rfl), .inl (by rw [e1])⟩
theorem SvTo.reads {w w1 w2 : World} {b : Nat} {s s1 : Sv} (h : SvTo w b s s1 w1) (k : Below w1.heap.size w1 w2) : SvTo w b s s1 w2 :=
  ⟨k.os.trans h.os, k.tape.trans h.tape, k.output.trans h.output, Nat.le_trans h.size k.size, below_has k h.has, Ker.owns_kept h.pc fun g hg => k.block g (pc_lt h.pc hg), fun j hj a c => (k.block j (Nat.lt_of_lt_of_le hj h.size)).trans (h.keep j hj a c), h.blk⟩
theorem info348 : (Tryz.prog.info? 348).map (fun i => (i.zero, i.size, i.bytes)) = some (some (.agg #[.int .i64 0, .int .i64 0]), 2, 16) := by kernel_rfl
end Go.Proofs.YtagmlijhgncklaaGreatDoor.Spo
namespace Go.Proofs.YtagmlijhgncklaaGreatDoor.Ker
open Go.RowKit Go.Proofs.YtagmlijhgncklaaGreatDoor Go.Proofs.YtagmlijhgncklaaGreatDoor.Code

def robinL : List Ins := [⟨1, 2, 0, 0, 1⟩, ⟨1, 3, 0, 0, 9⟩, ⟨1, 4, 0, 0, 1⟩, ⟨1, 5, 0, 0, 0⟩, ⟨7, 0, 0, 0, 1⟩]
def robinsL : Nat → List Ins
  | 0 => []
  | n + 1 => robinsL n ++ robinL
theorem robins_put (L : List Ins) : L ++ setsF 2 [1, 9, 1, 0] ++ [⟨7, 0, 0, 0, 1⟩] = L ++ robinL := by simp [setsF, robinL]
theorem robins_len (n : Nat) : (robinsL n).length = 5 * n := by
  induction n with
  | zero => rfl
  | succ n ih => rw [robinsL, List.length_append, ih]; show 5 * n + 5 = _; omega
theorem robins_get (n i r : Nat) (hi : i < n) (hr : r < 5) : (robinsL n)[5 * i + r]? = robinL[r]? := by
  induction n with
  | zero => omega
  | succ n ih =>
    rw [robinsL]
    by_cases h : i < n
    · rw [List.getElem?_append_left (by rw [robins_len]; omega)]
      exact ih h
    · obtain rfl : i = n := by omega
      rw [List.getElem?_append_right (by rw [robins_len]; omega), robins_len, Nat.add_sub_cancel_left]
theorem robins_ok (n : Nat) (m : Int) : ∀ i ∈ robinsL n, i.Ok m := by
  induction n with
  | zero => intro i hi; cases hi
  | succ n ih =>
    intro i hi
    rcases List.mem_append.1 hi with hi | hi
    · exact ih i hi
    · simp [robinL] at hi
      rcases hi with rfl | rfl | rfl | rfl | rfl <;> simp [Ins.Ok, RegOk]
def loopL : List Ins := [⟨3, 7, 7, 6, 0⟩, ⟨5, 0, 0, 0, 0⟩]
theorem loop_ok : ∀ i ∈ loopL, i.Ok 2 := by
  intro i hi
  simp [loopL] at hi
  rcases hi with rfl | rfl <;> simp [Ins.Ok, RegOk]
end Go.Proofs.YtagmlijhgncklaaGreatDoor.Ker
namespace Go.Proofs.YtagmlijhgncklaaGreatDoor.Ker
open Go.RowKit Go.Proofs.YtagmlijhgncklaaGreatDoor Go.Proofs.YtagmlijhgncklaaGreatDoor.Code

def lkb (a : Int) : Bool := decide (a = -1) || (decide (0 ≤ a) && decide (a < 16))
theorem lk_of {a : Int} (h : lkb a = true) : Lk a := by
  simp only [lkb, Bool.or_eq_true, Bool.and_eq_true, decide_eq_true_eq] at h
  rcases h with h | ⟨h1, h2⟩
  · exact .inl h
  · exact .inr ⟨a.toNat, by omega, by omega⟩
/-- Some state of which P is so stands. -/
def Som (B : KB) (P : Pl → Prop) (S : KS) : Prop := ∃ x, P x ∧ Now S B x
theorem does_som {B : KB} {ev : Value} {P Q : Pl → Prop} (h : ∀ x, P x → ∃ A : KS → Prop, DoesTo B ev (fun S => Now S B x) A ∧ ∀ S, A S → Som B Q S) : DoesTo B ev (Som B P) (Som B Q) := by
  rintro W S ⟨x, hx, hN⟩ hW
  obtain ⟨A, hD, hA⟩ := h x hx
  refine (hD W S hN hW).mono ?_
  rintro e w' ⟨S', rfl, hS, k, f⟩
  exact ⟨S', rfl, hA S' hS, k, f⟩
theorem hs_set (L : List Hs) (i : Nat) (a : Hs) (j : Nat) (hi : i < L.length) : (L.set i a).getD j Hs.no = if j = i then a else L.getD j Hs.no := by
  simp only [List.getD_eq_getElem?_getD, List.getElem?_set]
  by_cases e : i = j
  · subst e
    rw [if_pos rfl, if_pos hi, if_pos rfl]
    rfl
  · rw [if_neg e, if_neg (Ne.symm e)]
/-- The job's kernel. -/
structure RobB (B : KB) (n : Nat) (q : Int) (m y : Prg) : Prop where
  n8 : B.n = 8
  q : B.J.q = q
  PS : B.J.PS = [m, y]
  m : m.L = robinsL n
  y : y.L = loopL
def robT : Nat → List (Bool × Int)
  | 0 => (List.replicate 8 (false, 0)).set 0 (true, 1)
  | i + 1 => (robT i).set (i + 1) (true, 1)
/-- Main's thread, behind r instructions of its i-th robin. -/
structure MainTh (i r : Nat) (t : Th) : Prop where
  prog : t.prog = (0 : Nat)
  pc : t.pc = (5 * i + r : Nat)
  ak : t.can.ak = false
  un : t.can.un = false
  jn : t.jn = true
  jr : t.jr < 0
  r2 : 1 ≤ r → t.r 2 = 1
  r3 : 2 ≤ r → t.r 3 = 9
  r4 : 3 ≤ r → t.r 4 = 1
  r5 : 4 ≤ r → t.r 5 = 0
/-- A robin's thread. -/
structure RobTh (t : Th) : Prop where
  prog : t.prog = (1 : Nat)
  pc : t.pc = (0 : Nat) ∨ t.pc = (1 : Nat)
  ak : t.can.ak = false
/-- Main is behind i robins, and r instructions of the next one. -/
structure MainAt (q : Int) (i r : Nat) (x : Pl) : Prop where
  T : x.T = robT i
  Ll : x.L.length = 16
  L0 : x.L.getD 0 Hs.no = ⟨true, false, 31, q⟩
  L1 : ∀ k, 1 ≤ k → k ≤ i → x.L.getD k Hs.no = ⟨true, true, 9, q⟩
  L2 : ∀ k, i < k → x.L.getD k Hs.no = Hs.no
  R : x.R = robins i
  st : x.st = (4 + 9 * i + r : Nat)
  ln : x.ln = 5 * i + r
  an : x.an = i
  notes : x.notes = []
  t0 : ∃ t, x.th 0 = some t ∧ MainTh i r t
  t1 : ∀ k, 1 ≤ k → k ≤ i → ∃ t, x.th k = some t ∧ RobTh t
  t2 : ∀ k, i < k → x.th k = none
theorem robins_first : ∀ i, i < 7 → (robins i).firstF = (0 : Nat) ∧ 1 ≤ Lib.bitLen (robins i).sm ∧ Lib.bitLen (robins i).sm ≤ 32 ∧ (robins i).sm ≠ 0 := by decide +kernel
theorem MainAt.turn {B : KB} {n : Nat} {q : Int} {m y : Prg} (A : RobB B n q m y) {i r : Nat} {x : Pl} (M : MainAt q i r x) (hi : i < 7) (hr : r < 5) {t : Th} (ht : x.th 0 = some t) (T : MainTh i r t) : Turn B x 0 t := by
  obtain ⟨f, b1, b2, s⟩ := robins_first i hi
  exact Turn.ofs (by decide) (by rw [A.n8]; decide) ht (robins i) M.R f b1 b2 s (4 + 9 * i + r) M.st (by omega) T.ak
theorem one_ok : (1 : Int) ≠ 0 ∧ (1 : Int) ≠ 7 ∧ (1 : Int) ≠ 8 := by decide
theorem main_set {B : KB} {n : Nat} {q : Int} {m y : Prg} (A : RobB B n q m y) (hn : n < 7) {i r : Nat} (hi : i < n) (hr : r < 4) : DoesTo B evRun (Som B (MainAt q i r)) (Som B (MainAt q i (r + 1))) := by
  refine does_som fun x M => ?_
  obtain ⟨t, ht, T⟩ := M.t0
  have TU := M.turn A (by omega) (by omega) ht T
  have base : ∀ (d : Nat) (v : Int), robinL[r]? = some ⟨1, d, 0, 0, v⟩ → d < 8 → (1 ≤ r + 1 → put t.r d v 2 = 1) → (2 ≤ r + 1 → put t.r d v 3 = 9) → (3 ≤ r + 1 → put t.r d v 4 = 1) → (4 ≤ r + 1 → put t.r d v 5 = 0) → ∃ A : KS → Prop, DoesTo B evRun (fun S => Now S B x) A ∧ ∀ S, A S → Som B (MainAt q i (r + 1)) S := by
    intro d v hd d8 q2 q3 q4 q5
    have hpc : ((5 * i + r : Nat) : Int) + 1 = (5 * i + (r + 1) : Nat) := by omega
    refine ⟨_, now_step TU m 0 (by rw [A.PS]; rfl) T.prog (5 * i + r) T.pc ⟨1, d, 0, 0, v⟩ (by rw [A.m, robins_get n i r hi (by omega)]; exact hd) (by rw [M.ln]; omega) _ _ one_ok (step_set d d8 v (5 * i + r) (by omega) t.r), fun S hS => ⟨_, ?_, hS⟩⟩
    refine ⟨M.T, M.Ll, M.L0, M.L1, M.L2, M.R, ?_, ?_, M.an, M.notes, ⟨_, put_self x.th 0 _, ⟨T.prog, hpc, T.ak, T.un, T.jn, T.jr, q2, q3, q4, q5⟩⟩, ?_, ?_⟩
    · show x.st + 1 = _; rw [M.st]; omega
    · show x.ln + 1 = _; rw [M.ln]; omega
    · intro k k1 k2
      show ∃ t', put x.th 0 _ k = some t' ∧ _
      rw [put_ne _ _ (by omega)]
      exact M.t1 k k1 k2
    · intro k k1
      show put x.th 0 _ k = none
      rw [put_ne _ _ (by omega)]
      exact M.t2 k k1
  obtain rfl | rfl | rfl | rfl : r = 0 ∨ r = 1 ∨ r = 2 ∨ r = 3 := by omega
  · exact base 2 1 rfl (by decide) (fun _ => put_self _ _ _) (fun h => absurd h (by decide)) (fun h => absurd h (by decide)) (fun h => absurd h (by decide))
  · exact base 3 9 rfl (by decide) (fun _ => (put_ne _ _ (by decide)).trans (T.r2 (by decide))) (fun _ => put_self _ _ _) (fun h => absurd h (by decide)) (fun h => absurd h (by decide))
  · exact base 4 1 rfl (by decide) (fun _ => (put_ne _ _ (by decide)).trans (T.r2 (by decide))) (fun _ => (put_ne _ _ (by decide)).trans (T.r3 (by decide))) (fun _ => put_self _ _ _) (fun h => absurd h (by decide))
  · exact base 5 0 rfl (by decide) (fun _ => (put_ne _ _ (by decide)).trans (T.r2 (by decide))) (fun _ => (put_ne _ _ (by decide)).trans (T.r3 (by decide))) (fun _ => (put_ne _ _ (by decide)).trans (T.r4 (by decide))) (fun _ => put_self _ _ _)
theorem Pl.created_th (x : Pl) (B : KB) (p : Nat) (t : Th) (k i pr : Nat) (g prog pol : Int) (jn : Bool) (b c : Nat) : (x.created B p t k i pr g prog pol jn b c).th = put (put (put x.th p (some { t with pc := (k : Int) + 1 })) i (some (Th.new b c (i + 16 * g) prog pr pol jn))) p (some (({ t with pc := (k : Int) + 1 } : Th).ans (i + 16 * g) 0)) := rfl
theorem robT_facts : ∀ i, i < 6 → Tab.freeF (robT i) = some (i + 1) ∧ Tab.gn (robT i) (i + 1) = 0 ∧ Tab.atF ((robT i).set (i + 1) (true, 1)) (((i + 1 : Nat) : Int) + 16 * 1) = some (i + 1) := by decide +kernel
theorem robins_facts : ∀ i, i < 6 → (robins i).pr.getD (i + 1) 0 = 0 ∧ lkb ((robins i).tl.getD 9 0) = true := by decide +kernel
theorem main_make {B : KB} {n : Nat} {q : Int} {m y : Prg} (A : RobB B n q m y) (hn : n < 7) {i : Nat} (hi : i < n) : DoesTo B evRun (Som B (MainAt q i 4)) (Som B (MainAt q (i + 1) 0)) := by
  refine does_som fun x M => ?_
  obtain ⟨t, ht, T⟩ := M.t0
  have TU := M.turn A (by omega) (by omega) ht T
  obtain ⟨f1, f2, f3⟩ := robT_facts i (by omega)
  obtain ⟨g1, g2⟩ := robins_facts i (by omega)
  refine ⟨_, now_create TU m 0 (by rw [A.PS]; rfl) T.prog (5 * i + 4) T.pc (by rw [A.m, robins_get n i 4 hi (by omega)]; rfl) (by omega) (by rw [M.ln]; omega) (by rw [M.an]; omega) (i + 1) 9 1 1 1 0 (T.r2 (by omega)) (T.r3 (by omega)) (T.r4 (by omega)) (T.r5 (by omega)) (by decide) (by rw [A.PS]; show (1 : Int) < ((2 : Nat) : Int); decide) (by rw [A.PS]; show (2 : Nat) ≤ 32; decide) (.inr rfl) (.inl rfl) (by rw [M.T]; exact f1) (by rw [M.T, f2]; rfl) (by decide) (M.t2 _ (by omega)) (by rw [M.T]; exact f3) (by decide) (by decide) (by rw [M.L2 _ (by omega)]; rfl) (by rw [M.R]; exact g1) (by rw [M.R]; exact lk_of g2), ?_⟩
  rintro S ⟨b, c, hS⟩
  refine ⟨_, ?_, hS⟩
  refine ⟨?_, ?_, ?_, ?_, ?_, ?_, ?_, ?_, ?_, M.notes, ⟨({ t with pc := ((5 * i + 4 : Nat) : Int) + 1 } : Th).ans (((i + 1 : Nat) : Int) + 16 * 1) 0, ?_, ?_⟩, ?_, ?_⟩
  · show x.T.set (i + 1) (true, 1) = _; rw [M.T]; rfl
  · show (x.L.set _ _).length = 16; rw [List.length_set]; exact M.Ll
  · show (x.L.set (i + 1) _).getD 0 Hs.no = _
    rw [hs_set _ _ _ _ (by rw [M.Ll]; omega), if_neg (by omega)]
    exact M.L0
  · intro k k1 k2
    show (x.L.set (i + 1) _).getD k Hs.no = _
    rw [hs_set _ _ _ _ (by rw [M.Ll]; omega)]
    by_cases e : k = i + 1
    · rw [if_pos e, A.q]; rfl
    · rw [if_neg e]; exact M.L1 k k1 (by omega)
  · intro k k1
    show (x.L.set (i + 1) _).getD k Hs.no = _
    rw [hs_set _ _ _ _ (by rw [M.Ll]; omega), if_neg (by omega)]
    exact M.L2 k (by omega)
  · show x.R.tailF 9 (i + 1) = _; rw [M.R]; rfl
  · show x.st + 5 = _; rw [M.st]; omega
  · show x.ln + 1 = _; rw [M.ln]; omega
  · show x.an + 1 = _; rw [M.an]
  · rw [Pl.created_th, put_self]
  · exact ⟨T.prog, by show ((5 * i + 4 : Nat) : Int) + 1 = _; omega, T.ak, T.un, T.jn, T.jr, fun h => absurd h (by omega), fun h => absurd h (by omega), fun h => absurd h (by omega), fun h => absurd h (by omega)⟩
  · intro k k1 k2
    rw [Pl.created_th, put_ne _ _ (by omega)]
    by_cases e : k = i + 1
    · subst e
      refine ⟨Th.new b c (((i + 1 : Nat) : Int) + 16 * 1) 1 (9 : Nat) 1 true, ?_, ⟨rfl, .inl rfl, rfl⟩⟩
      rw [put_self]; rfl
    · rw [put_ne _ _ e, put_ne _ _ (by omega)]
      exact M.t1 k k1 (by omega)
  · intro k k1
    rw [Pl.created_th, put_ne _ _ (by omega), put_ne _ _ (by omega), put_ne _ _ (by omega)]
    exact M.t2 k (by omega)
/-- The i-th robin's turn: lf ticks are left to it; at most sb steps, lb events were. -/
structure RingAt (n : Nat) (q : Int) (i : Nat) (lf : Int) (sb lb : Nat) (x : Pl) : Prop where
  R : x.R = ring n i
  Ll : x.L.length = 16
  L1 : ∀ k, 1 ≤ k → k ≤ n → x.L.getD k Hs.no = ⟨true, true, 9, if k = i + 1 then lf else q⟩
  st0 : 0 ≤ x.st
  st : x.st ≤ sb
  ln : x.ln ≤ lb
  t1 : ∀ k, 1 ≤ k → k ≤ n → ∃ t, x.th k = some t ∧ RobTh t
theorem robins_leave : ∀ n, n < 7 → (robins n).pr.getD 0 0 = (31 : Nat) ∧ lkb ((robins n).pv.getD 0 0) = true ∧ lkb ((robins n).nx.getD 0 0) = true := by decide +kernel
theorem main_ends {B : KB} {n : Nat} {q : Int} {m y : Prg} (A : RobB B n q m y) (h0 : 0 < n) (hn : n < 7) : DoesTo B evRun (Som B (MainAt q n 0)) (Som B (RingAt n q 0 q 100 100)) := by
  refine does_som fun x M => ?_
  obtain ⟨t, ht, T⟩ := M.t0
  have TU := M.turn A (by omega) (by omega) ht T
  obtain ⟨f1, f2, f3⟩ := robins_leave n hn
  refine ⟨_, now_past (p0 := 31) TU m 0 (by rw [A.PS]; rfl) T.prog (5 * n + 0) T.pc (by rw [A.m, robins_len]; rfl) (by rw [M.ln]; omega) T.jn T.jr T.un ⟨by rw [M.L0], by decide, by decide, by rw [M.R]; exact f1, by rw [M.R]; exact lk_of f2, by rw [M.R]; exact lk_of f3⟩, fun S hS => ⟨_, ?_, hS⟩⟩
  refine ⟨?_, ?_, ?_, ?_, ?_, ?_, ?_⟩
  · show x.R.remF 0 = _; rw [M.R]; exact ring_start n hn h0
  · show (x.L.set _ _).length = 16; rw [List.length_set]; exact M.Ll
  · intro k k1 k2
    show (x.L.set 0 _).getD k Hs.no = _
    rw [hs_set _ _ _ _ (by rw [M.Ll]; omega), if_neg (by omega), ite_self]
    exact M.L1 k k1 k2
  · show 0 ≤ x.st + 3; rw [M.st]; omega
  · show x.st + 3 ≤ _; rw [M.st]; omega
  · show x.ln + 1 ≤ _; rw [M.ln]; omega
  · intro k k1 k2
    show ∃ t', put (put (put x.th 0 _) 0 _) 0 _ k = some t' ∧ _
    rw [put_ne _ _ (by omega), put_ne _ _ (by omega), put_ne _ _ (by omega)]
    exact M.t1 k k1 k2
theorem ring_facts : ∀ n, n < 7 → ∀ i, i < n → 1 ≤ Lib.bitLen (ring n i).sm ∧ Lib.bitLen (ring n i).sm ≤ 32 ∧ (ring n i).sm ≠ 0 ∧ (ring n i).pr.getD (i + 1) 0 = (9 : Nat) ∧ lkb ((ring n i).pv.getD (i + 1) 0) = true ∧ lkb ((ring n i).nx.getD (i + 1) 0) = true ∧ lkb (((ring n i).remF (i + 1)).tl.getD 9 0) = true := by decide +kernel
theorem ring_ok : ∀ n, n < 7 → ∀ i, i < n → RdOk (ring n i) := fun n hn i hi => by
  have h : ∀ n, n < 7 → ∀ i, i < n → (ring n i).hd.length = 32 ∧ (ring n i).tl.length = 32 ∧ (ring n i).nx.length = 16 ∧ (ring n i).pv.length = 16 ∧ (ring n i).pr.length = 16 := by decide +kernel
  obtain ⟨a, b, c, d, e⟩ := h n hn i hi
  exact ⟨by show 512 < _; decide, a, b, c, d, e⟩
theorem RingAt.turn {B : KB} {n : Nat} {q : Int} {m y : Prg} (A : RobB B n q m y) {i sb lb : Nat} {lf : Int} {x : Pl} (M : RingAt n q i lf sb lb x) (hn : n < 7) (hi : i < n) (hs : sb ≤ 100000) {t : Th} (ht : x.th (i + 1) = some t) (T : RobTh t) : Turn B x (i + 1) t := by
  obtain ⟨b1, b2, s, _⟩ := ring_facts n hn i hi
  have e0 := M.st0
  have e1 := M.st
  exact Turn.ofs (by omega) (by rw [A.n8]; omega) ht (ring n i) M.R (ring_first n hn i hi) b1 b2 s x.st.toNat (by omega) (by omega) T.ak
theorem ring_run {B : KB} {n : Nat} {q : Int} {m y : Prg} (A : RobB B n q m y) (hn : n < 7) {i sb lb : Nat} (hi : i < n) (hs : sb ≤ 100000) (hl : lb ≤ 100000) {lf : Int} : DoesTo B evRun (Som B (RingAt n q i lf sb lb)) (Som B (RingAt n q i lf (sb + 1) (lb + 1))) := by
  refine does_som fun x M => ?_
  obtain ⟨t, ht, T⟩ := M.t1 (i + 1) (by omega) (by omega)
  have TU := M.turn A hn hi hs ht T
  have e0 := M.st0
  have e1 := M.st
  have e2 := M.ln
  have fin : ∀ (pc' : Int) (r' : Nat → Int), (pc' = (0 : Nat) ∨ pc' = (1 : Nat)) → RingAt n q i lf (sb + 1) (lb + 1) (x.stepped (i + 1) t pc' r') := fun pc' r' h => by
    refine ⟨M.R, M.Ll, M.L1, ?_, ?_, ?_, ?_⟩
    · show 0 ≤ x.st + 1; omega
    · show x.st + 1 ≤ _; omega
    · show x.ln + 1 ≤ _; omega
    · intro k k1 k2
      show ∃ t', put x.th (i + 1) _ k = some t' ∧ _
      by_cases e : k = i + 1
      · subst e
        exact ⟨_, put_self x.th (i + 1) _, ⟨T.prog, h, T.ak⟩⟩
      · rw [put_ne _ _ e]; exact M.t1 k k1 k2
  rcases T.pc with hp | hp
  · exact ⟨_, now_step TU y 1 (by rw [A.PS]; rfl) T.prog 0 hp ⟨3, 7, 7, 6, 0⟩ (by rw [A.y]; rfl) (by omega) _ _ (by decide) (step_add 7 7 6 (by decide) (by decide) (by decide) 0 (by decide) t.r), fun S hS => ⟨_, fin _ _ (.inr rfl), hS⟩⟩
  · exact ⟨_, now_step TU y 1 (by rw [A.PS]; rfl) T.prog 1 hp ⟨5, 0, 0, 0, 0⟩ (by rw [A.y]; rfl) (by omega) _ _ (by decide) (step_jump 0 1 (by decide) t.r), fun S hS => ⟨_, fin _ _ (.inl rfl), hS⟩⟩
theorem ring_less {B : KB} {n : Nat} {q : Int} {m y : Prg} (A : RobB B n q m y) (hn : n < 7) {i sb lb : Nat} (hi : i < n) (hs : sb ≤ 100000) (hl : lb ≤ 100000) {lf : Int} (h1 : 1 < lf) (h2 : lf ≤ 100) : DoesTo B evTick (Som B (RingAt n q i lf sb lb)) (Som B (RingAt n q i (lf - 1) (sb + 8) (lb + 1))) := by
  refine does_som fun x M => ?_
  obtain ⟨t, ht, T⟩ := M.t1 (i + 1) (by omega) (by omega)
  have TU := M.turn A hn hi hs ht T
  have e0 := M.st0
  have e1 := M.st
  have e2 := M.ln
  have eL := M.L1 (i + 1) (by omega) (by omega)
  rw [if_pos rfl] at eL
  refine ⟨_, now_less TU (by omega) M.Ll (by rw [M.R]; exact ring_ok n hn i hi) (by rw [eL]) (by rw [eL]; exact h1) (by rw [eL]; exact h2), fun S hS => ⟨_, ?_, hS⟩⟩
  refine ⟨M.R, ?_, ?_, ?_, ?_, ?_, M.t1⟩
  · show (x.L.set _ _).length = 16; rw [List.length_set]; exact M.Ll
  · intro k k1 k2
    show (x.L.set (i + 1) _).getD k Hs.no = _
    rw [hs_set _ _ _ _ (by rw [M.Ll]; omega), eL]
    by_cases e : k = i + 1
    · rw [if_pos e, if_pos e]
    · rw [if_neg e, M.L1 k k1 k2, if_neg e, if_neg e]
  · show 0 ≤ x.st + 1 + 1; omega
  · show x.st + 1 + 1 ≤ _; omega
  · show x.ln + 1 ≤ _; omega
theorem ring_last {B : KB} {n : Nat} {q : Int} {m y : Prg} (A : RobB B n q m y) (hn : n < 7) {i sb lb : Nat} (hi : i < n) (hs : sb ≤ 100000) (hl : lb ≤ 100000) {lf : Int} (h1 : lf ≤ 1) : DoesTo B evTick (Som B (RingAt n q i lf sb lb)) (Som B (RingAt n q ((i + 1) % n) q (sb + 8) (lb + 1))) := by
  refine does_som fun x M => ?_
  obtain ⟨t, ht, T⟩ := M.t1 (i + 1) (by omega) (by omega)
  have TU := M.turn A hn hi hs ht T
  have e0 := M.st0
  have e1 := M.st
  have e2 := M.ln
  obtain ⟨_, _, _, g1, g2, g3, g4⟩ := ring_facts n hn i hi
  have eL := M.L1 (i + 1) (by omega) (by omega)
  rw [if_pos rfl] at eL
  refine ⟨_, now_last (pr := 9) TU (by omega) M.Ll (by rw [M.R]; exact ring_ok n hn i hi) (by rw [eL]) (by rw [eL]; exact h1) (by rw [eL]; rfl) (by decide) (by decide) (by rw [M.R]; exact g1) (by rw [M.R]; exact lk_of g2) (by rw [M.R]; exact lk_of g3) (by rw [M.R]; exact lk_of g4), fun S hS => ⟨_, ?_, hS⟩⟩
  refine ⟨?_, ?_, ?_, ?_, ?_, ?_, M.t1⟩
  · show (x.R.remF (i + 1)).tailF 9 (i + 1) = _; rw [M.R]; exact ring_turn n hn i hi
  · show (x.L.set _ _).length = 16; rw [List.length_set]; exact M.Ll
  · intro k k1 k2
    show (x.L.set (i + 1) _).getD k Hs.no = _
    rw [hs_set _ _ _ _ (by rw [M.Ll]; omega), eL, A.q, ite_self]
    by_cases e : k = i + 1
    · rw [if_pos e]
    · rw [if_neg e, M.L1 k k1 k2, if_neg e]
  · show 0 ≤ x.st + 1 + 7; omega
  · show x.st + 1 + 7 ≤ _; omega
  · show x.ln + 1 ≤ _; omega
def nextI (n i : Nat) (lf : Int) : Nat := if 1 < lf then i else (i + 1) % n
def nextL (q lf : Int) : Int := if 1 < lf then lf - 1 else q
theorem ring_tick {B : KB} {n : Nat} {q : Int} {m y : Prg} (A : RobB B n q m y) (hn : n < 7) {i sb lb : Nat} (hi : i < n) (hs : sb ≤ 100000) (hl : lb ≤ 100000) {lf : Int} (h2 : lf ≤ 100) : DoesTo B evTick (Som B (RingAt n q i lf sb lb)) (Som B (RingAt n q (nextI n i lf) (nextL q lf) (sb + 8) (lb + 1))) := by
  unfold nextI nextL
  by_cases h : 1 < lf
  · rw [if_pos h, if_pos h]; exact ring_less A hn hi hs hl h h2
  · rw [if_neg h, if_neg h]; exact ring_last A hn hi hs hl (by omega)
theorem ring_runs {B : KB} {n : Nat} {q : Int} {i sb lb : Nat} {lf : Int} {S : KS} (h : Som B (RingAt n q i lf sb lb) S) : Som B (RingAt n q i lf (sb + 1) lb) ({ S with st := S.st + 1 } : KS) := by
  obtain ⟨x, M, N⟩ := h
  have e0 := M.st0
  have e1 := M.st
  exact ⟨{ x with st := x.st + 1 }, ⟨M.R, M.Ll, M.L1, by show 0 ≤ x.st + 1; omega, by show x.st + 1 ≤ _; omega, M.ln, M.t1⟩, now_one N⟩
/-- How often each has run. -/
structure HasAt (n : Nat) (q : Int) (i : Nat) (lf : Int) (c : Nat) (f : Nat → Int) : Prop where
  l0 : 1 ≤ lf
  l1 : lf ≤ q
  f0 : ∀ k, 0 ≤ f k ∧ f k ≤ c
  fk : ∃ m : Int, 0 ≤ m ∧ ∀ k, 1 ≤ k → k ≤ n → f k = m + if k ≤ i then q else if k = i + 1 then q - lf else 0
theorem HasAt.fair {n : Nat} {q : Int} {i : Nat} {lf : Int} {c : Nat} {f : Nat → Int} (h : HasAt n q i lf c f) (a b : Nat) (a1 : 1 ≤ a) (an : a ≤ n) (b1 : 1 ≤ b) (bn : b ≤ n) : f a ≤ f b + q := by
  obtain ⟨m, m0, hk⟩ := h.fk
  have l0 := h.l0
  have l1 := h.l1
  rw [hk a a1 an, hk b b1 bn]
  split <;> split <;> (try split) <;> (try split) <;> omega
theorem HasAt.next {n : Nat} {q : Int} {i : Nat} {lf : Int} {c : Nat} {f : Nat → Int} (h : HasAt n q i lf c f) (hi : i < n) : HasAt n q (nextI n i lf) (nextL q lf) (c + 1) (put f (i + 1) (f (i + 1) + 1)) := by
  obtain ⟨l0, l1, f0, m, m0, hk⟩ := h
  have fb : ∀ k, 0 ≤ put f (i + 1) (f (i + 1) + 1) k ∧ put f (i + 1) (f (i + 1) + 1) k ≤ (c + 1 : Nat) := fun k => by
    unfold put
    have := f0 k
    have := f0 (i + 1)
    split <;> omega
  unfold nextI nextL
  by_cases h : 1 < lf
  · rw [if_pos h, if_pos h]
    refine ⟨by omega, by omega, fb, m, m0, fun k k1 kn => ?_⟩
    have a := hk k k1 kn
    have b := hk (i + 1) (by omega) (by omega)
    unfold put
    by_cases e : k = i + 1
    · subst e; rw [if_pos rfl, a]; rw [if_neg (by omega), if_pos rfl, if_neg (by omega), if_pos rfl]; omega
    · rw [if_neg e, a, if_neg e, if_neg e]
  · rw [if_neg h, if_neg h]
    obtain rfl : lf = 1 := by omega
    by_cases e : i + 1 < n
    · rw [Nat.mod_eq_of_lt e]
      refine ⟨by omega, by omega, fb, m, m0, fun k k1 kn => ?_⟩
      have a := hk k k1 kn
      unfold put
      by_cases e : k = i + 1
      · subst e; rw [if_pos rfl, a]; rw [if_neg (by omega), if_pos rfl, if_pos (by omega)]; omega
      · rw [if_neg e, a, if_neg e]
        by_cases e2 : k ≤ i
        · rw [if_pos e2, if_pos (by omega)]
        · rw [if_neg e2, if_neg (by omega)]
          split <;> omega
    · obtain rfl : n = i + 1 := by omega
      rw [Nat.mod_self]
      refine ⟨by omega, by omega, fb, m + q, by omega, fun k k1 kn => ?_⟩
      have a := hk k k1 kn
      unfold put
      rw [if_neg (by omega : ¬ k ≤ 0)]
      by_cases e : k = i + 1
      · subst e; rw [if_pos rfl, a]; rw [if_neg (by omega), if_pos rfl]; split <;> omega
      · rw [if_neg e, a, if_pos (by omega)]; split <;> omega
theorem HasAt.zero (n : Nat) (q : Int) (hq : 1 ≤ q) : HasAt n q 0 q 0 (fun _ => 0) :=
  ⟨hq, Int.le_refl _, fun _ => ⟨Int.le_refl _, Int.le_refl _⟩, 0, Int.le_refl _, fun k k1 _ => by rw [if_neg (by omega)]; split <;> omega⟩
end Go.Proofs.YtagmlijhgncklaaGreatDoor.Ker
