/-
  The job of the dying owner: rows of runs. Conditions: those said.
  The job of the dying owner: the other's runs. Conditions: those said.
  The job of the dying owner: the other's whole life. Conditions: those said.
  The job of the dying owner: main sleeps, nobody runs, main wakes. Conditions: those said.
  The job of the dying owner: one round of main's loop. Conditions: those said.
  The job of the dying owner: rounds. Conditions: those said.
  The job of the dying owner: the first round. Conditions: those said.
  The job of the dying owner: the first twenty runs. Conditions: those said.
  The job of the dying owner: all sixty rounds. Conditions: those said.
  The job of the dying owner as the row makes it: its programs in memory. Conditions: those said.
-/
import Derived.Test.YtagmlijhgncklaaGreatDoorD42
import Derived.Test.YtagmlijhgncklaaGreatDoorD39
import Derived.Test.YtagmlijhgncklaaGreatDoorD36
set_option linter.unusedVariables false
namespace Go.Proofs.YtagmlijhgncklaaGreatDoor.Ker
namespace Dd
open Go.RowKit Go.Proofs.YtagmlijhgncklaaGreatDoor Go.Proofs.YtagmlijhgncklaaGreatDoor.Code

def iSet (r : Nat) (x : Int) : Ins := ⟨1, r, 0, 0, x⟩
def iCall (n : Int) : Ins := ⟨7, 0, 0, 0, n⟩
/-- What never turns of main while it lives. -/
structure Main (z : Z) (k : Nat) : Prop where
  pr : z.t0.prog = 0
  pc : z.t0.pc = k
  can : z.t0.can = Can.newS
  pol : z.t0.pol = 0
  eff : z.t0.eff = 5
  jn : z.t0.jn = true
  jr : z.t0.jr < 0
theorem Main.set0 {z : Z} {k : Nat} (h : Main z k) (d : Nat) (x : Int) : Main (z.set0 d x) (k + 1) :=
  ⟨h.pr, by show z.t0.pc + 1 = _; rw [h.pc]; rfl, h.can, h.pol, h.eff, h.jn, h.jr⟩
theorem Main.ak {z : Z} {k : Nat} (h : Main z k) : z.t0.can.ak = false := by rw [h.can]; rfl
theorem Main.act {z : Z} {k : Nat} (h : Main z k) : Can.actsF z.t0.can true = false := by rw [h.can]; rfl
theorem Main.un {z : Z} {k : Nat} (h : Main z k) : z.t0.can.un = false := by rw [h.can]; rfl
theorem set0_get (z : Z) (d : Nat) (x : Int) : (z.set0 d x).t0.r d = x := put_self z.t0.r d x
theorem set0_ne (z : Z) {d i : Nat} (x : Int) (h : i ≠ d) : (z.set0 d x).t0.r i = z.t0.r i := put_ne z.t0.r x h
/-- Main sets four registers. -/
def Z.four (z : Z) (a b c d : Int) : Z := (((z.set0 2 a).set0 3 b).set0 4 c).set0 5 d
theorem s_four {B : KB} {m : Prg} {PS : List Prg} (D : DB B m PS) {z : Z} {k : Nat} (M : Main z k) (F : Few z) (hl : z.ln + 4 ≤ 2000) (hk : k + 4 ≤ 1000) (hu : z.u = true) (hv : z.v = false) (a b c d : Int) (i0 : m.L[k]? = some (iSet 2 a)) (i1 : m.L[k + 1]? = some (iSet 3 b)) (i2 : m.L[k + 1 + 1]? = some (iSet 4 c)) (i3 : m.L[k + 1 + 1 + 1]? = some (iSet 5 d)) :
    Steps B 4 (ZS B z) (ZS B (z.four a b c d)) ∧ Main (z.four a b c d) (k + 1 + 1 + 1 + 1) ∧ Few (z.four a b c d) ∧ (z.four a b c d).t0.r 2 = a ∧ (z.four a b c d).t0.r 3 = b ∧ (z.four a b c d).t0.r 4 = c ∧ (z.four a b c d).t0.r 5 = d := by
  have M1 := M.set0 2 a
  have M2 := M1.set0 3 b
  have M3 := M2.set0 4 c
  have M4 := M3.set0 5 d
  have F1 := F.set0 (by omega) 2 a
  have F2 := F1.set0 (by show z.ln + 1 < 2000; omega) 3 b
  have F3 := F2.set0 (by show z.ln + 1 + 1 < 2000; omega) 4 c
  have F4 := F3.set0 (by show z.ln + 1 + 1 + 1 < 2000; omega) 5 d
  refine ⟨.cons (z_set0 D F hu hv M.ak M.pr k M.pc (by omega) 2 (by decide) a i0) (.cons (z_set0 D F1 hu hv M1.ak M1.pr _ M1.pc (by omega) 3 (by decide) b i1) (.cons (z_set0 D F2 hu hv M2.ak M2.pr _ M2.pc (by omega) 4 (by decide) c i2) (.cons (z_set0 D F3 hu hv M3.ak M3.pr _ M3.pc (by omega) 5 (by decide) d i3) (.refl B _)))), M4, F4, ?_, ?_, ?_, set0_get _ 5 d⟩
  · exact (set0_ne _ d (by decide)).trans ((set0_ne _ c (by decide)).trans ((set0_ne _ b (by decide)).trans (set0_get z 2 a)))
  · exact (set0_ne _ d (by decide)).trans ((set0_ne _ c (by decide)).trans (set0_get _ 3 b))
  · exact (set0_ne _ d (by decide)).trans (set0_get _ 4 c)
/-- Main makes the other. -/
theorem s_make {B : KB} {m : Prg} {PS : List Prg} (D : DB B m PS) {z : Z} {k : Nat} (M : Main z k) (F : Few z) (hl : z.ln + 5 ≤ 2000) (hk : k + 5 ≤ 1000) (hu : z.u = true) (hv : z.v = false) (ho : z.o1 = none) (hk1 : z.k1 = false) (g0 : 0 ≤ z.g) (g9 : z.g ≤ 10) (prog jn : Int) (hg0 : 0 ≤ prog) (hg1 : prog < (m :: PS).length) (hj : jn = 0 ∨ jn = 1)
    (i0 : m.L[k]? = some (iSet 2 prog)) (i1 : m.L[k + 1]? = some (iSet 3 30)) (i2 : m.L[k + 1 + 1]? = some (iSet 4 0)) (i3 : m.L[k + 1 + 1 + 1]? = some (iSet 5 jn)) (i4 : m.L[k + 1 + 1 + 1 + 1]? = some (iCall 1)) :
    Steps B 5 (ZS B z) (fun S => ∃ bc : Nat × Nat, ZS B ((z.four prog 30 0 jn).made prog (decide (jn = 0)) bc.1 bc.2) S) ∧ ∀ b c, Main ((z.four prog 30 0 jn).made prog (decide (jn = 0)) b c) (k + 5) ∧ Few ((z.four prog 30 0 jn).made prog (decide (jn = 0)) b c) := by
  obtain ⟨s4, M4, F4, r2, r3, r4, r5⟩ := s_four D M F (by omega) (by omega) hu hv prog 30 0 jn i0 i1 i2 i3
  have q := z_create D F4 hu hv ho hk1 M4.ak M4.pr _ M4.pc (by omega) i4 prog jn r2 r3 r4 r5 hg0 hg1 hj g0 g9
  refine ⟨s4.trans (.cons q (.refl B _)), fun b c => ⟨⟨M4.pr, ?_, M4.can, M4.pol, M4.eff, M4.jn, M4.jr⟩, ⟨?_, ?_, ?_, ?_⟩⟩⟩
  · show (z.four prog 30 0 jn).t0.pc + 1 = _
    rw [M4.pc]; rfl
  · have := F4.s0; show 0 ≤ (z.four prog 30 0 jn).st + 5; omega
  · have := F4.s1; show (z.four prog 30 0 jn).st + 5 ≤ 20 * (((z.four prog 30 0 jn).ln + 1 : Nat) : Int) + 20; omega
  · show z.ln + 4 + 1 ≤ 2000; omega
  · have := F4.an; show (z.four prog 30 0 jn).an + 1 ≤ (z.four prog 30 0 jn).ln + 1; omega
end Dd
end Go.Proofs.YtagmlijhgncklaaGreatDoor.Ker
namespace Go.Proofs.YtagmlijhgncklaaGreatDoor.Ker
namespace Dd
open Go.RowKit Go.Proofs.YtagmlijhgncklaaGreatDoor Go.Proofs.YtagmlijhgncklaaGreatDoor.Code

def pan (e : Int) : Ending := .panicked [{ v := .iface 134 (.int .i64 e), recovered := false }]
/-- What a call on the mutex answers the other. -/
def Ans (F : Nat) (mx : Mx.Mu) (e : Int) (mx' : Mx.Mu) : Prop := ∀ (B : KB) (t : Th), t.pol ≠ 2 → t.r 2 = 16 → t.eff = 30 → t.base = 30 → (e = 0 ∧ MuCall F B 1 t mx mx' (.returned (.int .i64 0))) ∨ MuCall F B 1 t mx mx' (pan e)
theorem ans_lock0 : Ans 220 ⟨-1, 0, 0⟩ 0 ⟨1, 1, 0⟩ := fun _ _ hp h2 he hb => .inl ⟨rfl, mu_lock (by decide) hp h2 (by omega) (by omega) rfl rfl⟩
theorem ans_lock1 : Ans 220 ⟨-1, 0, 1⟩ 130 ⟨1, 1, 1⟩ := fun _ _ hp h2 he hb => .inr (mu_lockDead (by decide) hp h2 (by omega) (by omega) rfl rfl)
theorem ans_lock2 : Ans 220 ⟨-1, 0, 2⟩ 131 ⟨-1, 0, 2⟩ := fun _ _ hp h2 he hb => .inr (mu_lockLost (by decide) hp h2 (by omega) (by omega) rfl)
theorem ans_cons1 : Ans 224 ⟨1, 1, 1⟩ 0 ⟨1, 1, 0⟩ := fun _ _ _ h2 _ _ => .inl ⟨rfl, mu_cons (mx := ⟨1, 1, 1⟩) (by decide) h2 rfl rfl⟩
theorem ans_consN {mx : Mx.Mu} (h : mx.st ≠ 1) : Ans 224 mx 22 mx := fun _ _ _ h2 _ _ => .inr (mu_consNot (by decide) h2 h)
theorem ans_unl0 : Ans 223 ⟨1, 1, 0⟩ 0 ⟨-1, 0, 0⟩ := fun _ _ _ h2 _ _ => .inl ⟨rfl, mu_unlock (by decide) h2 rfl rfl rfl⟩
theorem ans_unl1 : Ans 223 ⟨1, 1, 1⟩ 0 ⟨-1, 0, 2⟩ := fun _ _ _ h2 _ _ => .inl ⟨rfl, mu_unlockLeft (by decide) h2 rfl rfl rfl⟩
theorem ans_unlN {mx : Mx.Mu} (h : mx.own ≠ (1 : Nat)) : Ans 223 mx 1 mx := fun _ _ _ h2 _ _ => .inr (mu_unlockNot (by decide) h2 h)
/-- What never turns of the other while it lives. -/
structure Oth (t : Th) (n k : Nat) (g : Int) (jn : Bool) : Prop where
  pr : t.prog = n
  pc : t.pc = k
  can : t.can = Can.newS
  pol : t.pol = 0
  eff : t.eff = 30
  base : t.base = 30
  jn : t.jn = jn
  jr : t.jr < 0
  hd : t.hd = (1 : Nat) + 16 * g
theorem Oth.new (g : Int) (n : Nat) (jn : Bool) (b c : Nat) : Oth (newT g n jn b c) n 0 g jn := ⟨rfl, rfl, rfl, rfl, rfl, rfl, rfl, by show (-1 : Int) < 0; decide, rfl⟩
/-- The other lives, and runs. -/
structure Run1 (z : Z) (t : Th) (n k : Nat) (jn : Bool) : Prop where
  f : z.f = false
  u : z.u = true
  v : z.v = true
  o : z.o1 = some t
  k1 : z.k1 = true
  O : Oth t n k z.g jn
  F : Few z
theorem r_set {B : KB} {m y : Prg} {PS : List Prg} (D : DB B m PS) {z : Z} {t : Th} {n k : Nat} {jn : Bool} (R : Run1 z t n k jn) (hl : z.ln < 2000) (hk : k ≤ 1000) (hy : B.J.PS[n]? = some y) (hi : y.L[k]? = some (iSet 2 16)) :
    DoesTo B evRun (ZS B z) (ZS B (z.set1 t 2 16)) ∧ Run1 (z.set1 t 2 16) { t with pc := t.pc + 1, r := put t.r 2 16 } n (k + 1) jn := by
  refine ⟨z_set1 D R.F R.f R.u R.v R.o (by rw [R.O.can]; rfl) y n hy R.O.pr k R.O.pc hk 2 (by decide) 16 hi, R.f, R.u, R.v, rfl, R.k1, ⟨R.O.pr, by show t.pc + 1 = _; rw [R.O.pc]; rfl, R.O.can, R.O.pol, R.O.eff, R.O.base, R.O.jn, R.O.jr, R.O.hd⟩, ?_⟩
  have F := R.F
  exact ⟨by have := F.s0; show 0 ≤ z.st + 1; omega, by have := F.s1; show z.st + 1 ≤ 20 * ((z.ln + 1 : Nat) : Int) + 20; omega, by show z.ln + 1 ≤ 2000; omega, by have := F.an; show z.an ≤ z.ln + 1; omega⟩
theorem r_ans {B : KB} {m y : Prg} {PS : List Prg} (D : DB B m PS) {z : Z} {t : Th} {n k : Nat} {jn : Bool} (R : Run1 z t n k jn) (hl : z.ln < 2000) (hk : k ≤ 1000) (hy : B.J.PS[n]? = some y) (num : Int) (hi : y.L[k]? = some (iCall num)) (hr2 : t.r 2 = 16)
    (Fn' : Nat) (hF : ∀ args w, (callFunc Fn' args).run Tryz.prog w = .ok (.enter Fn' args) w) (hn : ((callsE.map entV).find? fun x => x.1 == num) = some (num, .func (.func Fn') #[] #[])) (hpt : ∀ W, Calls Tryz.prog 147 #[.int .i64 num] W fun e w' => e = .returned (.bool false) ∧ W = w')
    (e : Int) (mx' : Mx.Mu) (A : Ans Fn' z.mx e mx') :
    DoesTo B evRun (ZS B z) (ZS B (z.mud1 t 0 e mx')) ∧ Run1 (z.mud1 t 0 e mx') (({ t with pc := t.pc + 1 } : Th).ans 0 e) n (k + 1) jn := by
  refine ⟨?_, R.f, R.u, R.v, rfl, R.k1, ⟨R.O.pr, by show t.pc + 1 = _; rw [R.O.pc]; rfl, R.O.can, R.O.pol, R.O.eff, R.O.base, R.O.jn, R.O.jr, R.O.hd⟩, ?_⟩
  · rcases A B { t with pc := (k : Int) + 1, r := t.r } (by show t.pol ≠ 2; rw [R.O.pol]; decide) hr2 R.O.eff R.O.base with ⟨rfl, A1⟩ | A1
    · exact z_ret1 D R.F R.f R.u R.v R.o (by rw [R.O.can]; rfl) y n hy R.O.pr k R.O.pc hk num hi Fn' hF hn hpt 0 mx' A1
    · exact z_posix1 D R.F R.f R.u R.v R.o (by rw [R.O.can]; rfl) y n hy R.O.pr k R.O.pc hk num hi Fn' hF hn hpt e mx' A1
  · have F := R.F
    exact ⟨by have := F.s0; show 0 ≤ z.st + 1; omega, by have := F.s1; show z.st + 1 ≤ 20 * ((z.ln + 1 : Nat) : Int) + 20; omega, by show z.ln + 1 ≤ 2000; omega, by have := F.an; show z.an + 1 ≤ z.ln + 1; omega⟩
theorem r_note {B : KB} {m y : Prg} {PS : List Prg} (D : DB B m PS) {z : Z} {t : Th} {n k : Nat} {jn : Bool} (R : Run1 z t n k jn) (hl : z.ln < 2000) (hk : k ≤ 1000) (hy : B.J.PS[n]? = some y) (hi : y.L[k]? = some ⟨8, 0, 1, 0, 0⟩) (hnn : z.notes.length ≤ 1000) :
    DoesTo B evRun (ZS B z) (ZS B (z.note1 t)) ∧ Run1 (z.note1 t) { t with pc := t.pc + 1 } n (k + 1) jn := by
  refine ⟨z_note1 D R.F R.f R.u R.v R.o (by rw [R.O.can]; rfl) y n hy R.O.pr k R.O.pc hk hi hnn, R.f, R.u, R.v, rfl, R.k1, ⟨R.O.pr, by show t.pc + 1 = _; rw [R.O.pc]; rfl, R.O.can, R.O.pol, R.O.eff, R.O.base, R.O.jn, R.O.jr, R.O.hd⟩, ?_⟩
  have F := R.F
  exact ⟨by have := F.s0; show 0 ≤ z.st + 1; omega, by have := F.s1; show z.st + 1 ≤ 20 * ((z.ln + 1 : Nat) : Int) + 20; omega, by show z.ln + 1 ≤ 2000; omega, by have := F.an; show z.an ≤ z.ln + 1; omega⟩
/-- Behind two runs: the mutex set, and a call. -/
def Two (B : KB) (z : Z) (n k : Nat) (jn : Bool) (e : Int) (mx' : Mx.Mu) : Prop :=
  ∃ (z' : Z) (t' : Th), Steps B 2 (ZS B z) (ZS B z') ∧ Run1 z' t' n (k + 1 + 1) jn ∧ t'.r 1 = e ∧ z'.mx = mx' ∧ z'.ln = z.ln + 2 ∧ z'.t0 = z.t0 ∧ z'.notes = z.notes ∧ z'.g = z.g ∧ z'.W1 = z.W1 ∧ z'.mo = z.mo ∧ z'.re = z.re ∧ z'.e5 = z.e5
/-- Set the mutex, and call. -/
theorem r_two {B : KB} {m y : Prg} {PS : List Prg} (D : DB B m PS) {z : Z} {t : Th} {n k : Nat} {jn : Bool} (R : Run1 z t n k jn) (hl : z.ln + 1 < 2000) (hk : k + 1 ≤ 1000) (hy : B.J.PS[n]? = some y) (num : Int) (hi0 : y.L[k]? = some (iSet 2 16)) (hi : y.L[k + 1]? = some (iCall num))
    (Fn' : Nat) (hF : ∀ args w, (callFunc Fn' args).run Tryz.prog w = .ok (.enter Fn' args) w) (hn : ((callsE.map entV).find? fun x => x.1 == num) = some (num, .func (.func Fn') #[] #[])) (hpt : ∀ W, Calls Tryz.prog 147 #[.int .i64 num] W fun e w' => e = .returned (.bool false) ∧ W = w')
    (e : Int) (mx' : Mx.Mu) (A : Ans Fn' z.mx e mx') :
    Two B z n k jn e mx' := by
  obtain ⟨d1, R1⟩ := r_set D R (by omega) (by omega) hy hi0
  obtain ⟨d2, R2⟩ := r_ans D R1 (by show z.ln + 1 < 2000; omega) hk hy num hi (put_self t.r 2 16) Fn' hF hn hpt e mx' A
  exact ⟨_, _, .cons d1 (.cons d2 (.refl B _)), R2, put_self (put (put t.r 2 16) 0 0) 1 e, rfl, rfl, rfl, rfl, rfl, rfl, rfl, rfl, rfl⟩
theorem r_lock {B : KB} {m y : Prg} {PS : List Prg} (D : DB B m PS) {z : Z} {t : Th} {n k : Nat} {jn : Bool} (R : Run1 z t n k jn) (hl : z.ln + 1 < 2000) (hk : k + 1 ≤ 1000) (hy : B.J.PS[n]? = some y) (hi0 : y.L[k]? = some (iSet 2 16)) (hi : y.L[k + 1]? = some (iCall 13)) (e : Int) (mx' : Mx.Mu) (A : Ans 220 z.mx e mx') : Two B z n k jn e mx' :=
  r_two D R hl hk hy 13 hi0 hi 220 (enters_of Tryz.func220 (by kernel_rfl) rfl) rfl (fun W => points_no W 13 (by decide)) e mx' A
theorem r_unlock {B : KB} {m y : Prg} {PS : List Prg} (D : DB B m PS) {z : Z} {t : Th} {n k : Nat} {jn : Bool} (R : Run1 z t n k jn) (hl : z.ln + 1 < 2000) (hk : k + 1 ≤ 1000) (hy : B.J.PS[n]? = some y) (hi0 : y.L[k]? = some (iSet 2 16)) (hi : y.L[k + 1]? = some (iCall 16)) (e : Int) (mx' : Mx.Mu) (A : Ans 223 z.mx e mx') : Two B z n k jn e mx' :=
  r_two D R hl hk hy 16 hi0 hi 223 (enters_of Tryz.func223 (by kernel_rfl) rfl) rfl (fun W => points_no W 16 (by decide)) e mx' A
theorem r_cons {B : KB} {m y : Prg} {PS : List Prg} (D : DB B m PS) {z : Z} {t : Th} {n k : Nat} {jn : Bool} (R : Run1 z t n k jn) (hl : z.ln + 1 < 2000) (hk : k + 1 ≤ 1000) (hy : B.J.PS[n]? = some y) (hi0 : y.L[k]? = some (iSet 2 16)) (hi : y.L[k + 1]? = some (iCall 17)) (e : Int) (mx' : Mx.Mu) (A : Ans 224 z.mx e mx') : Two B z n k jn e mx' :=
  r_two D R hl hk hy 17 hi0 hi 224 (enters_of Tryz.func224 (by kernel_rfl) rfl) rfl (fun W => points_no W 17 (by decide)) e mx' A
end Dd
end Go.Proofs.YtagmlijhgncklaaGreatDoor.Ker
namespace Go.Proofs.YtagmlijhgncklaaGreatDoor.Ker
namespace Dd
open Go.RowKit Go.Proofs.YtagmlijhgncklaaGreatDoor Go.Proofs.YtagmlijhgncklaaGreatDoor.Code

def diesL : List Ins := [iSet 2 16, iCall 13]
def thL (c : Bool) : List Ins := [iSet 2 16, iCall 13, ⟨8, 0, 1, 0, 0⟩] ++ ((if c then [iSet 2 16, iCall 17] else []) ++ [iSet 2 16, iCall 16])
/-- Behind a thread's whole life. -/
structure Back (z z' : Z) (k : Nat) (e : Int) (mx' : Mx.Mu) : Prop where
  f : z'.f = false
  u : z'.u = true
  v : z'.v = false
  o : z'.o1 = none
  k1 : z'.k1 = false
  t0 : z'.t0 = z.t0
  g : z'.g = z.g
  notes : z'.notes = z.notes ++ [(1, e)]
  mx : z'.mx = mx'
  W1 : z'.W1 = z.W1
  mo : z'.mo = z.mo
  re : z'.re = z.re
  e5 : z'.e5 = z.e5
  ln : z'.ln = z.ln + k
  F : Few z'
theorem few_gone {z : Z} (F : Few z) (hl : z.ln < 2000) (mx' : Mx.Mu) : Few (z.gone1 mx') :=
  ⟨by have := F.s0; show 0 ≤ z.st + 3; omega, by have := F.s1; show z.st + 3 ≤ 20 * ((z.ln + 1 : Nat) : Int) + 20; omega, by show z.ln + 1 ≤ 2000; omega, by have := F.an; show z.an ≤ z.ln + 1; omega⟩
theorem r_gone {B : KB} {m y : Prg} {PS : List Prg} (D : DB B m PS) {z : Z} {t : Th} {n k : Nat} (R : Run1 z t n k false) (hl : z.ln < 2000) (hk : k ≤ 1000) (g0 : 0 ≤ z.g) (g9 : z.g ≤ 11) (hy : B.J.PS[n]? = some y) (hi : k = y.L.length) (hown : z.mx.own ≠ (1 : Nat)) : DoesTo B evRun (ZS B z) (ZS B (z.gone1 z.mx)) :=
  z_gone1 D R.F R.f R.u R.v R.o R.k1 g0 g9 (by rw [R.O.can]; rfl) y n hy R.O.pr k R.O.pc hi R.O.jn R.O.hd (by rw [R.O.can]; rfl) z.mx (mu_endNot (by decide) hown)
theorem s_heir {B : KB} {m y : Prg} {PS : List Prg} (D : DB B m PS) {z : Z} {t : Th} {n : Nat} (c : Bool) (R : Run1 z t n 0 false) (hl : z.ln + 8 ≤ 2000) (g0 : 0 ≤ z.g) (g9 : z.g ≤ 11) (hy : B.J.PS[n]? = some y) (hL : y.L = thL c) (hnn : z.notes.length ≤ 1000)
    (e1 e2 e3 : Int) (mxA mxB mxC : Mx.Mu) (A1 : Ans 220 z.mx e1 mxA) (A2 : c = true → Ans 224 mxA e2 mxB) (A2' : c = false → mxB = mxA) (A3 : Ans 223 mxB e3 mxC) (hown : mxC.own ≠ (1 : Nat)) :
    ∃ z', Steps B (if c then 8 else 6) (ZS B z) (ZS B z') ∧ Back z z' (if c then 8 else 6) e1 mxC := by
  obtain ⟨z1, t1, s1, R1, r1, m1, l1, q1, n1, g1, w1, o1, p1, x1⟩ := r_lock D R (by omega) (by decide) hy (by rw [hL]; cases c <;> rfl) (by rw [hL]; cases c <;> rfl) e1 mxA A1
  obtain ⟨d2, R2⟩ := r_note D R1 (by omega) (by decide) hy (by rw [hL]; cases c <;> rfl) (by rw [n1]; exact hnn)
  cases c with
  | true =>
    obtain ⟨z3, t3, s3, R3, r3, m3, l3, q3, n3, g3, w3, o3, p3, x3⟩ := r_cons D R2 (by show z1.ln + 1 + 1 < 2000; omega) (by decide) hy (by rw [hL]; rfl) (by rw [hL]; rfl) e2 mxB (by show Ans 224 z1.mx e2 mxB; rw [m1]; exact A2 rfl)
    have l3' : z3.ln = z1.ln + 1 + 2 := l3
    obtain ⟨z4, t4, s4, R4, r4, m4, l4, q4, n4, g4, w4, o4, p4, x4⟩ := r_unlock D R3 (by omega) (by decide) hy (by rw [hL]; rfl) (by rw [hL]; rfl) e3 mxC (by rw [m3]; exact A3)
    have gg : z4.g = z.g := g4.trans (g3.trans g1)
    have d5 := r_gone D R4 (by omega) (by decide) (by rw [gg]; exact g0) (by rw [gg]; exact g9) hy (by rw [hL]; rfl) (by rw [m4]; exact hown)
    have n3' : z3.notes = z1.notes ++ [(1, t1.r 1)] := n3
    refine ⟨z4.gone1 z4.mx, s1.trans (.cons d2 (s3.trans (s4.trans (.cons d5 (.refl B _))))), ⟨rfl, rfl, rfl, rfl, rfl, q4.trans (q3.trans q1), gg, ?_, m4, w4.trans (w3.trans w1), o4.trans (o3.trans o1), p4.trans (p3.trans p1), x4.trans (x3.trans x1), ?_, few_gone R4.F (by omega) _⟩⟩
    · show z4.notes = _; rw [n4, n3', n1, r1]
    · show z4.ln + 1 = z.ln + 8; omega
  | false =>
    have m2 : mxB = mxA := A2' rfl
    obtain ⟨z4, t4, s4, R4, r4, m4, l4, q4, n4, g4, w4, o4, p4, x4⟩ := r_unlock D R2 (by show z1.ln + 1 + 1 < 2000; omega) (by decide) hy (by rw [hL]; rfl) (by rw [hL]; rfl) e3 mxC (by show Ans 223 z1.mx e3 mxC; rw [m1, ← m2]; exact A3)
    have l4' : z4.ln = z1.ln + 1 + 2 := l4
    have gg : z4.g = z.g := g4.trans g1
    have d5 := r_gone D R4 (by omega) (by decide) (by rw [gg]; exact g0) (by rw [gg]; exact g9) hy (by rw [hL]; rfl) (by rw [m4]; exact hown)
    have n4' : z4.notes = z1.notes ++ [(1, t1.r 1)] := n4
    refine ⟨z4.gone1 z4.mx, s1.trans (.cons d2 (s4.trans (.cons d5 (.refl B _)))), ⟨rfl, rfl, rfl, rfl, rfl, q4.trans q1, gg, ?_, m4, w4.trans w1, o4.trans o1, p4.trans p1, x4.trans x1, ?_, few_gone R4.F (by omega) _⟩⟩
    · show z4.notes = _; rw [n4', n1, r1]
    · show z4.ln + 1 = z.ln + 6; omega
/-- The owner locks, and dies. -/
theorem s_dies {B : KB} {m y : Prg} {PS : List Prg} (D : DB B m PS) {z : Z} {t : Th} (R : Run1 z t 1 0 true) (hl : z.ln + 3 ≤ 2000) (hy : B.J.PS[1]? = some y) (hL : y.L = diesL) (hmx : z.mx = ⟨-1, 0, 0⟩) :
    ∃ (z' : Z) (o : Th), Steps B 3 (ZS B z) (ZS B z') ∧ z'.f = false ∧ z'.u = true ∧ z'.v = false ∧ z'.o1 = some o ∧ o.hd = (1 : Nat) + 16 * z.g ∧ o.jn = true ∧ o.jr < 0 ∧ o.en = true ∧ z'.k1 = true ∧ z'.t0 = z.t0 ∧ z'.g = z.g ∧ z'.notes = z.notes ∧ z'.mx = ⟨-1, 0, 1⟩ ∧ z'.W1 = z.W1 ∧ z'.mo = z.mo ∧ z'.re = z.re ∧ z'.e5 = z.e5 ∧ z'.ln = z.ln + 3 ∧ Few z' := by
  obtain ⟨z1, t1, s1, R1, r1, m1, l1, q1, n1, g1, w1, o1, p1, x1⟩ := r_lock D R (by omega) (by decide) hy (by rw [hL]; rfl) (by rw [hL]; rfl) 0 ⟨1, 1, 0⟩ (by rw [hmx]; exact ans_lock0)
  have d2 := z_over1 D R1.F R1.f R1.u R1.v R1.o (by rw [R1.O.can]; rfl) y 1 hy R1.O.pr 2 R1.O.pc (by rw [hL]; rfl) R1.O.jn R1.O.jr (by rw [R1.O.can]; rfl) ⟨-1, 0, 1⟩ (by rw [m1]; exact mu_endOwn (mx := ⟨1, 1, 0⟩) (by decide) rfl)
  refine ⟨_, _, s1.trans (.cons d2 (.refl B _)), rfl, rfl, rfl, rfl, R1.O.hd.trans (by rw [g1]), R1.O.jn, R1.O.jr, rfl, R1.k1, q1, g1, n1, rfl, w1, o1, p1, x1, by show z1.ln + 1 = z.ln + 3; omega, ?_⟩
  have F := R1.F
  exact ⟨by have := F.s0; show 0 ≤ z1.st + 3; omega, by have := F.s1; show z1.st + 3 ≤ 20 * ((z1.ln + 1 : Nat) : Int) + 20; omega, by show z1.ln + 1 ≤ 2000; omega, by have := F.an; show z1.an ≤ z1.ln + 1; omega⟩
end Dd
end Go.Proofs.YtagmlijhgncklaaGreatDoor.Ker
namespace Go.Proofs.YtagmlijhgncklaaGreatDoor.Ker
namespace Dd
open Go.RowKit Go.Proofs.YtagmlijhgncklaaGreatDoor Go.Proofs.YtagmlijhgncklaaGreatDoor.Code

theorem Steps.no {B : KB} : ∀ {k : Nat} {A A' : KS → Prop}, (∀ S, ¬ A S) → Steps B k A A'
  | 0, _, _, h => fun S hS => absurd hS (h S)
  | _ + 1, _, _, h => ⟨fun _ => False, fun _ S hS _ => absurd hS (h S), Steps.no fun _ hS => hS⟩
theorem upF_next {x : Int} (h : 0 ≤ x) (h1 : x ≤ 1000) : Clk.upF x = x + 1 := by unfold Clk.upF; rw [if_neg (by omega)]
/-- The wheel while nobody sleeps. -/
structure WhI (W : Wh) (m : Int) : Prop where
  F : Free W m
  ok : WhOk W
  st : W.st ≤ m
theorem whI_set {W : Wh} {m : Int} (I : WhI W m) {k : Nat} (hk : k < 64) (v : Value) : (W.setF k v).rings[k]? = some v ∧ But (W.setF k v) k ∧ (W.setF k v).wh.getD 0 0 = k + 1 ∧ (W.setF k v).n = 1 := by
  refine ⟨?_, ?_, ?_, ?_⟩
  · show (W.rings.set k v)[k]? = some v
    rw [List.getElem?_set_self (by rw [I.ok.rings]; exact hk)]
  · intro j hj hne
    show ∃ a c, (W.rings.set k v)[j]? = some (.slice a 0 c)
    rw [List.getElem?_set_ne (Ne.symm hne)]
    exact I.F.quiet j hj
  · show (W.wh.set 0 (k + 1)).getD 0 0 = _
    rw [List.getD_eq_getElem?_getD, List.getElem?_set_self (by rw [I.ok.wh]; decide)]
    rfl
  · show W.n + 1 = 1; rw [I.F.n]; rfl
theorem whI_next {W : Wh} {m : Int} (I : WhI W m) (h0 : 0 ≤ m) (h1 : m ≤ 60) {k : Nat} (hk : k < 64) (hm : m + 1 = k) (v : Value) (a : Option Addr) (c : Nat) : WhI ((W.setF k v).remF k (.slice a 0 c)) (m + 1) := by
  have o1 := Wh.setF_ok I.ok k v
  have o2 := Wh.remF_ok o1 k (.slice a 0 c)
  refine ⟨⟨?_, ?_, ?_, ?_, ?_⟩, o2, ?_⟩
  · intro j hj hj6
    show ((W.rings.set k v).set k (.slice a 0 c))[j]? = _
    rw [List.getElem?_set_ne (by omega), List.getElem?_set_ne (by omega)]
    exact I.F.rings j (by omega) hj6
  · intro j hj
    show ∃ a' c', ((W.rings.set k v).set k (.slice a 0 c))[j]? = some (.slice a' 0 c')
    by_cases e : j = k
    · subst e
      rw [List.getElem?_set_self (by rw [List.length_set, I.ok.rings]; exact hk)]
      exact ⟨a, c, rfl⟩
    · rw [List.getElem?_set_ne (Ne.symm e), List.getElem?_set_ne (Ne.symm e)]
      exact I.F.quiet j hj
  · show ((W.wh.set 0 (k + 1)).set 0 0).getD 0 0 = 0
    rw [List.getD_eq_getElem?_getD, List.getElem?_set_self (by rw [List.length_set, I.ok.wh]; decide)]
    rfl
  · show 0 ≤ W.st + 1 ∧ W.st + 1 ≤ 1000
    have := I.F.st; have := I.st; omega
  · show W.n + 1 - 1 = 0; rw [I.F.n]; rfl
  · show W.st + 1 ≤ m + 1; have := I.st; omega
/-- Nothing happens, n times. -/
def Z.idles (z : Z) (n : Nat) : Z := { z with ln := z.ln + n }
theorem s_idle {B : KB} : ∀ (n : Nat) {z : Z} (_ : Few z) (_ : z.ln + n ≤ 2000) (_ : z.f = false) (_ : z.u = false), Steps B n (ZS B z) (ZS B (z.idles n)) ∧ Few (z.idles n)
  | 0, z, F, _, _, _ => ⟨.refl B _, F⟩
  | n + 1, z, F, hl, hf, hu => by
    have F1 : Few z.idle := ⟨F.s0, by have := F.s1; show z.st ≤ 20 * ((z.ln + 1 : Nat) : Int) + 20; omega, by show z.ln + 1 ≤ 2000; omega, by have := F.an; show z.an ≤ z.ln + 1; omega⟩
    obtain ⟨s, F2⟩ := s_idle n (z := z.idle) F1 (by show z.ln + 1 + n ≤ 2000; omega) hf hu
    have e : (z.idle).idles n = z.idles (n + 1) := by
      show ({ z with ln := z.ln + 1 + n } : Z) = { z with ln := z.ln + (n + 1) }
      rw [show z.ln + 1 + n = z.ln + (n + 1) by omega]
    rw [e] at s F2
    exact ⟨.cons (z_idle F hf hu) s, F2⟩
/-- Main goes to sleep, and nobody runs. -/
def Z.three (z : Z) : Z := ((z.set0 2 1).set0 3 0).set0 4 1
def Slept (B : KB) (z : Z) (k r : Nat) (S : KS) : Prop := ∃ g cap cur, Row1 cur cap k (z.W1.st + 1) ∧ ZS B ((z.three.sleep0 k g cap cur).idles r) S
theorem s_sleep {B : KB} {m : Prg} {PS : List Prg} (D : DB B m PS) {z : Z} {pc : Nat} (M : Main z pc) (F : Few z) (r : Nat) (hl : z.ln + 4 + r ≤ 2000) (hk : pc + 4 ≤ 1000) (hf : z.f = false) (hu : z.u = true) (hv : z.v = false) (I : WhI z.W1 z.mo) (hmo : 0 ≤ z.mo ∧ z.mo ≤ 60) (hre : 0 ≤ z.re ∧ z.re ≤ 100) (k : Nat) (hmk : z.mo + 1 = k)
    (i0 : m.L[pc]? = some (iSet 2 1)) (i1 : m.L[pc + 1]? = some (iSet 3 0)) (i2 : m.L[pc + 1 + 1]? = some (iSet 4 1)) (i3 : m.L[pc + 1 + 1 + 1]? = some (iCall 62)) :
    Steps B (r + 4) (ZS B z) (Slept B z k r) := by
  have M1 := M.set0 2 1
  have M2 := M1.set0 3 0
  have M3 := M2.set0 4 1
  have F1 := F.set0 (by omega) 2 1
  have F2 := F1.set0 (by show z.ln + 1 < 2000; omega) 3 0
  have F3 : Few z.three := F2.set0 (by show z.ln + 1 + 1 < 2000; omega) 4 1
  have r2 : z.three.t0.r 2 = 1 := (set0_ne _ 1 (by decide)).trans ((set0_ne _ 0 (by decide)).trans (set0_get z 2 1))
  have r3 : z.three.t0.r 3 = 0 := (set0_ne _ 1 (by decide)).trans (set0_get _ 3 0)
  have r4 : z.three.t0.r 4 = 1 := set0_get _ 4 1
  have q := z_sleep D (z := z.three) F3 hf hu hv M3.ak M3.pr _ M3.pc (by omega) i3 r2 r3 r4 k (by omega) hmo.1 hmk ⟨hre.1, by have := hre.2; show z.re ≤ 1000; omega⟩ I.F M3.act
  have s3 : Steps B 3 (ZS B z) (ZS B z.three) := .cons (z_set0 D F hu hv M.ak M.pr pc M.pc (by omega) 2 (by decide) 1 i0) (.cons (z_set0 D F1 hu hv M1.ak M1.pr _ M1.pc (by omega) 3 (by decide) 0 i1) (.cons (z_set0 D F2 hu hv M2.ak M2.pr _ M2.pc (by omega) 4 (by decide) 1 i2) (.refl B _)))
  have FS : ∀ g cap cur, Few (z.three.sleep0 k g cap cur) := fun g cap cur => ⟨by have := F3.s0; show 0 ≤ z.three.st + 3; omega, by have := F3.s1; show z.three.st + 3 ≤ 20 * ((z.three.ln + 1 : Nat) : Int) + 20; omega, by show z.ln + 1 + 1 + 1 + 1 ≤ 2000; omega, by have := F3.an; show z.three.an ≤ z.three.ln + 1; omega⟩
  have s4 : Steps B r (fun S => ∃ g cap cur, Row1 cur cap k (z.W1.st + 1) ∧ ZS B (z.three.sleep0 k g cap cur) S) (Slept B z k r) := by
    refine Steps.ex fun g => Steps.ex fun cap => Steps.ex fun cur => ?_
    by_cases h : Row1 cur cap k (z.W1.st + 1)
    · obtain ⟨s, _⟩ := s_idle (B := B) r (FS g cap cur) (by show z.ln + 1 + 1 + 1 + 1 + r ≤ 2000; omega) rfl rfl
      exact (s.pre fun S hS => hS.2).post fun S hS => ⟨g, cap, cur, h, hS⟩
    · exact Steps.no fun S hS => h hS.1
  exact (s3.trans (.cons q (.refl B _))).trans s4
end Dd
end Go.Proofs.YtagmlijhgncklaaGreatDoor.Ker
namespace Go.Proofs.YtagmlijhgncklaaGreatDoor.Ker
namespace Dd
open Go.RowKit Go.Proofs.YtagmlijhgncklaaGreatDoor Go.Proofs.YtagmlijhgncklaaGreatDoor.Code

/-- Main woke. -/
structure Woke (z z' : Z) (pc l : Nat) : Prop where
  f : z'.f = false
  u : z'.u = true
  v : z'.v = false
  o : z'.o1 = z.o1
  k1 : z'.k1 = z.k1
  g : z'.g = z.g
  notes : z'.notes = z.notes
  mx : z'.mx = z.mx
  W1 : WhI z'.W1 (z.mo + 1)
  mo : z'.mo = z.mo + 1
  re : z'.re = z.re + 1
  ln : z'.ln = z.ln + l
  M : Main z' (pc + 4)
  F : Few z'
theorem t_wake {B : KB} {z : Z} {pc : Nat} (M : Main z pc) (F : Few z) (r : Nat) (hl : z.ln + 5 + r ≤ 2000) (I : WhI z.W1 z.mo) (hmo : 0 ≤ z.mo ∧ z.mo ≤ 60) (hre : 0 ≤ z.re ∧ z.re ≤ 100) (k : Nat) (hmk : z.mo + 1 = k) :
    DoesTo B evTick (Slept B z k r) (fun S => ∃ z', Woke z z' pc (4 + r + 1) ∧ ZS B z' S) := by
  rintro W S ⟨g, cap, cur, R1, N⟩ hW
  have k6 : k < 64 := by omega
  have F3 : Few z.three := ((F.set0 (by omega) 2 1).set0 (by show z.ln + 1 < 2000; omega) 3 0).set0 (by show z.ln + 1 + 1 < 2000; omega) 4 1
  have FS : Few ((z.three.sleep0 k g cap cur).idles r) := ⟨by have := F3.s0; show 0 ≤ z.three.st + 3; omega, by have := F3.s1; show z.three.st + 3 ≤ 20 * ((z.three.ln + 1 + r : Nat) : Int) + 20; omega, by show z.ln + 1 + 1 + 1 + 1 + r ≤ 2000; omega, by have := F3.an; show z.three.an ≤ z.three.ln + 1 + r; omega⟩
  obtain ⟨w1, w2, w3, w4⟩ := whI_set I k6 (.slice (some ⟨g, 0, none⟩) 1 cap)
  have q := z_wake (B := B) (z := (z.three.sleep0 k g cap cur).idles r) FS rfl rfl rfl (k := k) (g := g) (cap := cap) (cur := cur) R1 rfl rfl M.eff M.pol k6 w1 w2 w3 (by show 0 ≤ (z.W1.setF k _).n ∧ (z.W1.setF k _).n ≤ 1000; rw [w4]; decide) (by show (k : Int) ≤ Clk.upF z.mo; rw [upF_next hmo.1 (by omega)]; omega)
  refine (q W S N hW).mono ?_
  rintro e w' ⟨S', rfl, ⟨a, c, h⟩, k1, f1⟩
  refine ⟨S', rfl, ⟨((z.three.sleep0 k g cap cur).idles r).wake0 k a c, ⟨rfl, rfl, rfl, rfl, rfl, rfl, rfl, rfl, whI_next I hmo.1 hmo.2 k6 hmk _ a c, ?_, ?_, ?_, ?_, ?_⟩, h⟩, k1, f1⟩
  · have h : z.mo ≤ 1000 := by omega
    exact upF_next hmo.1 h
  · have h : z.re ≤ 1000 := by omega
    exact upF_next hre.1 h
  · show z.ln + 1 + 1 + 1 + 1 + r + 1 = z.ln + (4 + r + 1); omega
  · exact ⟨M.pr, by show z.t0.pc + 1 + 1 + 1 + 1 = _; rw [M.pc]; rfl, M.can, M.pol, M.eff, M.jn, M.jr⟩
  · exact ⟨by have := FS.s0; show 0 ≤ ((z.three.sleep0 k g cap cur).idles r).st + 4; omega, by have := FS.s1; show ((z.three.sleep0 k g cap cur).idles r).st + 4 ≤ 20 * ((((z.three.sleep0 k g cap cur).idles r).ln + 1 : Nat) : Int) + 20; omega, by show z.ln + 1 + 1 + 1 + 1 + r + 1 ≤ 2000; omega, by have := FS.an; show ((z.three.sleep0 k g cap cur).idles r).an + 1 ≤ ((z.three.sleep0 k g cap cur).idles r).ln + 1; omega⟩
/-- The program of main for n threads. -/
def blockL (i : Nat) : List Ins := [iSet 2 (i + 2 : Nat), iSet 3 30, iSet 4 0, iSet 5 1, iCall 1, iSet 2 1, iSet 3 0, iSet 4 1, iCall 62]
def headL : List Ins := [iSet 2 0, iSet 3 0, iSet 4 0, iSet 5 1, iCall 11, iSet 2 1, iSet 3 30, iSet 4 0, iSet 5 0, iCall 1, iSet 2 17, iCall 3]
def blocksL : Nat → List Ins
  | 0 => []
  | n + 1 => blocksL n ++ blockL n
def mainD (n : Nat) : List Ins := headL ++ blocksL n
theorem blocks_len (n : Nat) : (blocksL n).length = 9 * n := by
  induction n with
  | zero => rfl
  | succ n ih => rw [blocksL, List.length_append, ih]; show 9 * n + 9 = _; omega
theorem mainD_len (n : Nat) : (mainD n).length = 12 + 9 * n := by rw [mainD, List.length_append, blocks_len]; rfl
theorem blocks_at : ∀ (n i : Nat), i < n → ∀ j, j < 9 → (blocksL n)[9 * i + j]? = (blockL i)[j]?
  | n + 1, i, h, j, hj => by
    rw [blocksL]
    by_cases e : i < n
    · rw [List.getElem?_append_left (by rw [blocks_len]; omega)]
      exact blocks_at n i e j hj
    · obtain rfl : i = n := by omega
      rw [List.getElem?_append_right (by rw [blocks_len]; omega), blocks_len, Nat.add_sub_cancel_left]
theorem mainD_at {n i : Nat} (h : i < n) (j : Nat) (hj : j < 9) : (mainD n)[12 + 9 * i + j]? = (blockL i)[j]? := by
  rw [mainD, List.getElem?_append_right (by show 12 ≤ _; omega), show 12 + 9 * i + j - headL.length = 9 * i + j by show 12 + 9 * i + j - 12 = _; omega]
  exact blocks_at n i h j hj
/-- What each thread notes, and what becomes of the mutex. -/
def mxF (cs : List Bool) (i : Nat) : Mx.Mu := if i = 0 then ⟨-1, 0, 1⟩ else if cs.getD 0 false then ⟨-1, 0, 0⟩ else ⟨-1, 0, 2⟩
def eF (cs : List Bool) (i : Nat) : Int := if i = 0 then 130 else if cs.getD 0 false then 0 else 131
def notesF (cs : List Bool) : Nat → List (Int × Int)
  | 0 => []
  | i + 1 => notesF cs i ++ [(1, eF cs i)]
theorem notesF_len (cs : List Bool) (i : Nat) : (notesF cs i).length = i := by
  induction i with
  | zero => rfl
  | succ i ih => rw [notesF, List.length_append, ih]; rfl
/-- A thread's whole life, the i-th. -/
theorem s_life {B : KB} {m y : Prg} {PS : List Prg} (D : DB B m PS) (cs : List Bool) (i : Nat) {z : Z} {t : Th} (R : Run1 z t (i + 2) 0 false) (hl : z.ln + 8 ≤ 2000) (g0 : 0 ≤ z.g) (g9 : z.g ≤ 11) (hy : B.J.PS[i + 2]? = some y) (hL : y.L = thL (cs.getD i false)) (hi : i ≤ 100) (hn : z.notes = notesF cs i) (hm : z.mx = mxF cs i) :
    ∃ z', Steps B (if cs.getD i false then 8 else 6) (ZS B z) (ZS B z') ∧ Back z z' (if cs.getD i false then 8 else 6) (eF cs i) (mxF cs (i + 1)) := by
  have nn : z.notes.length ≤ 1000 := by rw [hn, notesF_len]; omega
  by_cases h0 : i = 0
  · subst h0
    have e1 : mxF cs 0 = ⟨-1, 0, 1⟩ := rfl
    have e2 : eF cs 0 = 130 := rfl
    have e3 : mxF cs (0 + 1) = if cs.getD 0 false then ⟨-1, 0, 0⟩ else ⟨-1, 0, 2⟩ := rfl
    rw [e2, e3]
    cases hc : cs.getD 0 false with
    | true =>
      rw [hc] at hL
      exact s_heir D true R hl g0 g9 hy hL nn 130 0 0 ⟨1, 1, 1⟩ ⟨1, 1, 0⟩ ⟨-1, 0, 0⟩ (by rw [hm]; exact ans_lock1) (fun _ => ans_cons1) (fun h => by cases h) ans_unl0 (by decide)
    | false =>
      rw [hc] at hL
      exact s_heir D false R hl g0 g9 hy hL nn 130 0 0 ⟨1, 1, 1⟩ ⟨1, 1, 1⟩ ⟨-1, 0, 2⟩ (by rw [hm]; exact ans_lock1) (fun h => by cases h) (fun _ => rfl) ans_unl1 (by decide)
  · have e1 : mxF cs i = if cs.getD 0 false then ⟨-1, 0, 0⟩ else ⟨-1, 0, 2⟩ := by unfold mxF; rw [if_neg h0]
    have e2 : eF cs i = if cs.getD 0 false then 0 else 131 := by unfold eF; rw [if_neg h0]
    have e3 : mxF cs (i + 1) = if cs.getD 0 false then ⟨-1, 0, 0⟩ else ⟨-1, 0, 2⟩ := by unfold mxF; rw [if_neg (by omega)]
    rw [e2, e3]
    rw [e1] at hm
    cases hd : cs.getD 0 false with
    | true =>
      rw [hd] at hm
      exact s_heir D (cs.getD i false) R hl g0 g9 hy hL nn 0 22 0 ⟨1, 1, 0⟩ ⟨1, 1, 0⟩ ⟨-1, 0, 0⟩ (by rw [hm]; exact ans_lock0) (fun _ => ans_consN (by decide)) (fun _ => rfl) ans_unl0 (by decide)
    | false =>
      rw [hd] at hm
      exact s_heir D (cs.getD i false) R hl g0 g9 hy hL nn 131 22 1 ⟨-1, 0, 2⟩ ⟨-1, 0, 2⟩ ⟨-1, 0, 2⟩ (by rw [hm]; exact ans_lock2) (fun _ => ans_consN (by decide)) (fun _ => rfl) (ans_unlN (by decide)) (by decide)
end Dd
end Go.Proofs.YtagmlijhgncklaaGreatDoor.Ker
namespace Go.Proofs.YtagmlijhgncklaaGreatDoor.Ker
namespace Dd
open Go.RowKit Go.Proofs.YtagmlijhgncklaaGreatDoor Go.Proofs.YtagmlijhgncklaaGreatDoor.Code

/-- The job, as the row makes it. -/
structure DJ (B : KB) (m : Prg) (PS : List Prg) (cs : List Bool) : Prop where
  D : DB B m PS
  mL : m.L = mainD cs.length
  y1 : ∃ y, B.J.PS[1]? = some y ∧ y.L = diesL
  ys : ∀ i, i < cs.length → ∃ y, B.J.PS[i + 2]? = some y ∧ y.L = thL (cs.getD i false)
  len : (m :: PS).length = cs.length + 2
  n1 : 1 ≤ cs.length
  n6 : cs.length ≤ 6
/-- Main at the head of its i-th round, awake. -/
structure At (cs : List Bool) (i : Nat) (z : Z) : Prop where
  f : z.f = false
  u : z.u = true
  v : z.v = false
  o : z.o1 = none
  k1 : z.k1 = false
  g : z.g = 1 + i
  notes : z.notes = notesF cs i
  mx : z.mx = mxF cs i
  W1 : WhI z.W1 z.mo
  mo : z.mo = 1 + i
  re : z.re = 1 + i
  ln : z.ln = 21 * (1 + i)
  M : Main z (12 + 9 * i)
  F : Few z
/-- The i-th of the others is gone; main is next. -/
structure Gone (cs : List Bool) (i r : Nat) (z : Z) : Prop where
  f : z.f = false
  u : z.u = true
  v : z.v = false
  o : z.o1 = none
  k1 : z.k1 = false
  g : z.g = 2 + i
  notes : z.notes = notesF cs (i + 1)
  mx : z.mx = mxF cs (i + 1)
  W1 : WhI z.W1 z.mo
  mo : z.mo = 1 + i
  re : z.re = 1 + i
  ln : z.ln + 4 + r + 1 = 21 * (2 + i)
  M : Main z (12 + 9 * i + 5)
  F : Few z
def Asleep (B : KB) (cs : List Bool) (i r : Nat) (S : KS) : Prop := ∃ z, Gone cs i r z ∧ Slept B z (2 + i) r S
theorem t_round {B : KB} {cs : List Bool} {i r : Nat} (hi : i ≤ 20) : DoesTo B evTick (Asleep B cs i r) (fun S => ∃ z, At cs (i + 1) z ∧ ZS B z S) := by
  rintro W S ⟨z, G, N⟩ hW
  have q := t_wake (B := B) G.M G.F r (by have := G.ln; omega) G.W1 (by rw [G.mo]; omega) (by rw [G.re]; omega) (2 + i) (by rw [G.mo]; omega)
  refine (q W S N hW).mono ?_
  rintro e w' ⟨S', rfl, ⟨z', K, h⟩, k1, f1⟩
  refine ⟨S', rfl, ⟨z', ⟨K.f, K.u, K.v, K.o.trans G.o, K.k1.trans G.k1, ?_, K.notes.trans G.notes, K.mx.trans G.mx, ?_, ?_, ?_, ?_, ?_, K.F⟩, h⟩, k1, f1⟩
  · rw [K.g, G.g]; omega
  · rw [K.mo]; exact K.W1
  · rw [K.mo, G.mo]; omega
  · rw [K.re, G.re]; omega
  · have := K.ln; have := G.ln; omega
  · have q := K.M
    rw [show 12 + 9 * i + 5 + 4 = 12 + 9 * (i + 1) by omega] at q
    exact q
/-- From the other's first run to main's sleep. -/
theorem s_rest {B : KB} {m : Prg} {PS : List Prg} {cs : List Bool} (J : DJ B m PS cs) {i : Nat} (hi : i < cs.length) {z : Z} {t : Th} (R : Run1 z t (i + 2) 0 false) (M : Main z (12 + 9 * i + 5)) (r : Nat) (hr : z.ln + (if cs.getD i false then 8 else 6) + 4 + r + 1 = 21 * (2 + i)) (hg : z.g = 2 + i) (hn : z.notes = notesF cs i) (hm : z.mx = mxF cs i) (I : WhI z.W1 z.mo) (hmo : z.mo = 1 + i) (hre : z.re = 1 + i) :
    Steps B ((r + 4) + (if cs.getD i false then 8 else 6)) (ZS B z) (Asleep B cs i r) := by
  have n6 := J.n6
  obtain ⟨y, hy, hL⟩ := J.ys i hi
  have hl8 : z.ln + 8 ≤ 2000 := by split at hr <;> omega
  obtain ⟨z1, s1, K⟩ := s_life J.D cs i R hl8 (by rw [hg]; omega) (by rw [hg]; omega) hy hL (by omega) hn hm
  have M1 : Main z1 (12 + 9 * i + 5) := by
    have e := K.t0
    exact ⟨by rw [e]; exact M.pr, by rw [e]; exact M.pc, by rw [e]; exact M.can, by rw [e]; exact M.pol, by rw [e]; exact M.eff, by rw [e]; exact M.jn, by rw [e]; exact M.jr⟩
  have hln1 : z1.ln + 4 + r + 1 = 21 * (2 + i) := by have := K.ln; omega
  have G : Gone cs i r z1 := ⟨K.f, K.u, K.v, K.o, K.k1, K.g.trans hg, by rw [K.notes, hn]; rfl, K.mx, by rw [K.W1, K.mo]; exact I, K.mo.trans hmo, K.re.trans hre, hln1, M1, K.F⟩
  have at' : ∀ j, j < 9 → m.L[12 + 9 * i + j]? = (blockL i)[j]? := fun j hj => by rw [J.mL]; exact mainD_at hi j hj
  have s2 := s_sleep J.D M1 K.F r (by omega) (by omega) K.f K.u K.v G.W1 (by rw [G.mo]; omega) (by rw [G.re]; omega) (2 + i) (by rw [G.mo]; omega) (at' 5 (by decide)) (at' 6 (by decide)) (at' 7 (by decide)) (at' 8 (by decide))
  exact s1.trans (s2.post fun S h => ⟨z1, G, h⟩)
/-- A whole round. -/
theorem s_round {B : KB} {m : Prg} {PS : List Prg} {cs : List Bool} (J : DJ B m PS cs) {i : Nat} (hi : i < cs.length) {z : Z} (A : At cs i z) : Steps B 20 (ZS B z) (Asleep B cs i (if cs.getD i false then 3 else 5)) := by
  have n6 := J.n6
  have at' : ∀ j, j < 9 → m.L[12 + 9 * i + j]? = (blockL i)[j]? := fun j hj => by rw [J.mL]; exact mainD_at hi j hj
  have hln := A.ln
  obtain ⟨s1, MF⟩ := s_make J.D A.M A.F (by omega) (by omega) A.u A.v A.o A.k1 (by rw [A.g]; omega) (by rw [A.g]; omega) ((i + 2 : Nat) : Int) 1 (by omega) (by rw [J.len]; omega) (.inr rfl) (at' 0 (by decide)) (at' 1 (by decide)) (at' 2 (by decide)) (at' 3 (by decide)) (at' 4 (by decide))
  have s2 : ∀ bc : Nat × Nat, Steps B 15 (ZS B ((z.four ((i + 2 : Nat) : Int) 30 0 1).made ((i + 2 : Nat) : Int) (decide ((1 : Int) = 0)) bc.1 bc.2)) (Asleep B cs i (if cs.getD i false then 3 else 5)) := fun bc => by
    obtain ⟨M1, F1⟩ := MF bc.1 bc.2
    have R : Run1 ((z.four ((i + 2 : Nat) : Int) 30 0 1).made ((i + 2 : Nat) : Int) (decide ((1 : Int) = 0)) bc.1 bc.2) (newT (z.g + 1) ((i + 2 : Nat) : Int) false bc.1 bc.2) (i + 2) 0 false := ⟨rfl, rfl, rfl, rfl, rfl, Oth.new (z.g + 1) (i + 2) false bc.1 bc.2, F1⟩
    have q := s_rest J hi R M1 (if cs.getD i false then 3 else 5) (by show z.ln + 4 + 1 + (if cs.getD i false then 8 else 6) + 4 + (if cs.getD i false then 3 else 5) + 1 = _; split <;> omega) (by show z.g + 1 = _; rw [A.g]; omega) A.notes A.mx A.W1 A.mo A.re
    have e : ((if cs.getD i false then 3 else 5) + 4) + (if cs.getD i false then 8 else 6) = 15 := by split <;> rfl
    rw [e] at q
    exact q
  exact s1.trans (Steps.ex s2)
end Dd
end Go.Proofs.YtagmlijhgncklaaGreatDoor.Ker
namespace Go.Proofs.YtagmlijhgncklaaGreatDoor.Ker
namespace Dd
open Go.RowKit Go.Proofs.YtagmlijhgncklaaGreatDoor Go.Proofs.YtagmlijhgncklaaGreatDoor.Code

theorem mainD_head (n : Nat) {j : Nat} (hj : j < 12) : (mainD n)[j]? = headL[j]? := by
  rw [mainD, List.getElem?_append_left (by exact hj)]
def ZI (B : KB) (z : Z) (S : KS) : Prop := NowI S B (z.pd B.J.q).x
theorem zi_set0 {B : KB} {m : Prg} {PS : List Prg} (D : DB B m PS) {z : Z} (F : Few z) (hu : z.u = true) (hv : z.v = false) (ak : z.t0.can.ak = false) (hpr : z.t0.prog = 0) (k : Nat) (hpc : z.t0.pc = k) (hk : k ≤ 1000) (d : Nat) (hd : d < 8) (x : Int) (hi : m.L[k]? = some (iSet d x)) : DoesTo B evRun (ZI B z) (ZI B (z.set0 d x)) := by
  have q := nowI_step (turn0 D F hu hv ak) m 0 (by rw [D.ps]; rfl) hpr k hpc ⟨1, d, 0, 0, x⟩ hi (by show z.ln ≤ _; have := F.ln; omega) _ _ (by show (1 : Int) ≠ 0 ∧ (1 : Int) ≠ 7 ∧ (1 : Int) ≠ 8; decide) (step_set d hd x k hk z.t0.r)
  have e : (z.pd B.J.q).x.stepped 0 z.t0 ((k : Int) + 1) (put z.t0.r d x) = ((z.set0 d x).pd B.J.q).x := by
    show (⟨_, _, _, _, put (thF z.t0 z.o1) 0 _, _, _, _⟩ : Pl) = _
    rw [thF_0, ← hpc]
    rfl
  rw [e] at q
  exact q
/-- The mutex was made. -/
def Z.mutex (z : Z) : Z := { z with t0 := ({ z.t0 with pc := z.t0.pc + 1 } : Th).ans 16 0, st := z.st + 1, ln := z.ln + 1, an := z.an + 1 }
theorem zi_mutex {B : KB} {m : Prg} {PS : List Prg} (D : DB B m PS) {z : Z} (F : Few z) (hu : z.u = true) (hv : z.v = false) (ak : z.t0.can.ak = false) (hpr : z.t0.prog = 0) (k : Nat) (hpc : z.t0.pc = k) (hk : k ≤ 1000) (hi : m.L[k]? = some (iCall 11)) (h2 : z.t0.r 2 = 0) (h3 : z.t0.r 3 = 0) (h4 : z.t0.r 4 = 0) (h5 : z.t0.r 5 = 1)
    (hm : z.mx = ⟨-1, 0, 0⟩) (hw : z.W1 = Wh.new) (hmo : z.mo = 0) (hre : z.re = 0) (he : z.e5 = none) : DoesTo B evRun (ZI B z) (ZS B z.mutex) := by
  have q := nowI_mutex (turn0 D F hu hv ak) m 0 (by rw [D.ps]; rfl) hpr k hpc hi hk (by show z.ln ≤ _; have := F.ln; omega) (by show z.an ≤ _; have := F.an; have := F.ln; omega) h2 h3 h4 h5
  have e : (PD.mk (z.pd B.J.q).x ⟨-1, 0, 0⟩ Wh.new Wh.new 0 0 none).mud 0 z.t0 k 16 0 ⟨-1, 0, 0⟩ = z.mutex.pd B.J.q := by
    show (⟨⟨_, _, _, _, put (thF z.t0 z.o1) 0 _, _, _, _⟩, _, _, _, _, _, _⟩ : PD) = (⟨_, z.mx, _, z.W1, z.mo, z.re, z.e5⟩ : PD)
    rw [thF_0, ← hpc, hm, hw, hmo, hre, he]
    rfl
  rw [e] at q
  exact q
/-- The kernel as it is made. -/
def z0 (b c : Nat) : Z := ⟨Th.new b c ((0 : Nat) + 16 * 1) 0 (5 : Nat) 0 true, none, true, true, false, false, 0, 4, 0, 0, [], ⟨-1, 0, 0⟩, Wh.new, 0, 0, none⟩
/-- The start does not yet fit the bound on steps: it is said apart. -/
theorem zi_first {B : KB} (b c : Nat) : (Pl.first B 8 5 b c) = ((z0 b c).pd B.J.q).x := by
  have e : put (fun _ => none) 0 (some (Th.new b c ((0 : Nat) + 16 * 1) 0 (5 : Nat) 0 true)) = thF (Th.new b c ((0 : Nat) + 16 * 1) 0 (5 : Nat) 0 true) none := by
    funext p
    match p with
    | 0 => rfl
    | 1 => rfl
    | _ + 2 => rfl
  show (⟨_, _, _, _, put (fun _ => none) 0 _, _, _, _⟩ : Pl) = _
  rw [e]
  rfl
end Dd
end Go.Proofs.YtagmlijhgncklaaGreatDoor.Ker
namespace Go.Proofs.YtagmlijhgncklaaGreatDoor.Ker
namespace Dd
open Go.RowKit Go.Proofs.YtagmlijhgncklaaGreatDoor Go.Proofs.YtagmlijhgncklaaGreatDoor.Code

/-- The first heir was made, and is next; x ticks were. -/
structure Mid (x : Nat) (z : Z) (t : Th) : Prop where
  R : Run1 z t 2 0 false
  M : Main z 17
  g : z.g = 2
  notes : z.notes = []
  mx : z.mx = ⟨-1, 0, 1⟩
  W1 : WhI z.W1 z.mo
  mo : z.mo = x
  re : z.re = x
  ln : z.ln = 20 + x
theorem whI_new : WhI Wh.new 0 := ⟨⟨fun k _ h => by show (List.replicate 64 (Value.slice none 0 0))[k]? = _; rw [List.getElem?_replicate, if_pos h], Wh.new_quiet, rfl, by decide, rfl⟩, Wh.new_ok, by decide⟩
theorem main_of {z z' : Z} {k : Nat} (M : Main z k) (e : z'.t0 = z.t0) : Main z' k := ⟨by rw [e]; exact M.pr, by rw [e]; exact M.pc, by rw [e]; exact M.can, by rw [e]; exact M.pol, by rw [e]; exact M.eff, by rw [e]; exact M.jn, by rw [e]; exact M.jr⟩
set_option maxHeartbeats 2000000 in
/-- From the mutex to the first heir. -/
theorem s_after {B : KB} {m : Prg} {PS : List Prg} {cs : List Bool} (J : DJ B m PS cs) {z : Z} (M : Main z 5) (F : Few z) (hl : z.ln = 5) (hu : z.u = true) (hv : z.v = false) (ho : z.o1 = none) (hk1 : z.k1 = false) (hg : z.g = 0) (hn : z.notes = []) (hm : z.mx = ⟨-1, 0, 0⟩) (hw : z.W1 = Wh.new) (hmo : z.mo = 0) (hre : z.re = 0) :
    Steps B 15 (ZS B z) (fun S => ∃ z' t, Mid 0 z' t ∧ ZS B z' S) := by
  have n1 := J.n1
  have n6 := J.n6
  have at1 : ∀ j, j < 12 → m.L[j]? = headL[j]? := fun j hj => by rw [J.mL]; exact mainD_head _ hj
  have at2 : ∀ j, j < 9 → m.L[12 + 9 * 0 + j]? = (blockL 0)[j]? := fun j hj => by rw [J.mL]; exact mainD_at (by omega) j hj
  obtain ⟨s1, MF⟩ := s_make J.D M F (by omega) (by decide) hu hv ho hk1 (by rw [hg]; decide) (by rw [hg]; decide) 1 0 (by decide) (by rw [J.len]; omega) (.inl rfl) (at1 5 (by decide)) (at1 6 (by decide)) (at1 7 (by decide)) (at1 8 (by decide)) (at1 9 (by decide))
  refine s1.trans (l := 10) (Steps.ex fun bc => ?_)
  obtain ⟨M1, F1⟩ := MF bc.1 bc.2
  obtain ⟨y, hy, hL⟩ := J.y1
  have R : Run1 ((z.four 1 30 0 0).made 1 (decide ((0 : Int) = 0)) bc.1 bc.2) (newT (z.g + 1) ((1 : Nat) : Int) true bc.1 bc.2) 1 0 true := ⟨rfl, rfl, rfl, rfl, rfl, Oth.new (z.g + 1) 1 true bc.1 bc.2, F1⟩
  obtain ⟨z7, o, s7, e1, e2, e3, e4, e5, e6, e7, e8, e9, e10, e11, e12, e13, e14, e15, e16, e17, e18, F7⟩ := s_dies J.D R (by show z.ln + 4 + 1 + 3 ≤ 2000; omega) hy hL hm
  have M7 := main_of M1 e10
  have l7 : z7.ln = 13 := by rw [e18]; show z.ln + 4 + 1 + 3 = 13; omega
  have d8 := z_set0 J.D F7 e2 e3 M7.ak M7.pr 10 M7.pc (by decide) 2 (by decide) 17 (at1 10 (by decide))
  have M8 := M7.set0 2 17
  have F8 := F7.set0 (by omega) 2 17
  have g7 : z7.g = 1 := by rw [e11]; show z.g + 1 = 1; rw [hg]; rfl
  have hhd : o.hd = 17 := by rw [e5]; show ((1 : Nat) : Int) + 16 * (z.g + 1) = 17; rw [hg]; rfl
  have d9 := z_join J.D F8 e2 e3 e4 e9 g7 M8.ak M8.pr 11 M8.pc (by decide) (at1 11 (by decide)) (set0_get z7 2 17) hhd e6 e7 e8 M8.act
  have M9 : Main ((z7.set0 2 17).join0 o.val) 12 := ⟨M8.pr, by show (z7.set0 2 17).t0.pc + 1 = _; rw [M8.pc]; rfl, M8.can, M8.pol, M8.eff, M8.jn, M8.jr⟩
  have F9 : Few ((z7.set0 2 17).join0 o.val) := ⟨by have := F8.s0; show 0 ≤ (z7.set0 2 17).st + 1; omega, by have := F8.s1; show (z7.set0 2 17).st + 1 ≤ 20 * (((z7.set0 2 17).ln + 1 : Nat) : Int) + 20; omega, by show z7.ln + 1 + 1 ≤ 2000; omega, by have := F8.an; show (z7.set0 2 17).an + 1 ≤ (z7.set0 2 17).ln + 1; omega⟩
  obtain ⟨s10, MF2⟩ := s_make J.D M9 F9 (by show z7.ln + 1 + 1 + 5 ≤ 2000; omega) (by decide) e2 e3 rfl rfl (by show 0 ≤ z7.g; rw [g7]; decide) (by show z7.g ≤ 10; rw [g7]; decide) 2 1 (by decide) (by rw [J.len]; omega) (.inr rfl) (at2 0 (by decide)) (at2 1 (by decide)) (at2 2 (by decide)) (at2 3 (by decide)) (at2 4 (by decide))
  have s9 : Steps B 5 (ZS B ((z7.set0 2 17).join0 o.val)) (fun S => ∃ z' t, Mid 0 z' t ∧ ZS B z' S) := by
    refine s10.post ?_
    rintro S ⟨bc2, h⟩
    obtain ⟨M11, F11⟩ := MF2 bc2.1 bc2.2
    refine ⟨(((z7.set0 2 17).join0 o.val).four 2 30 0 1).made 2 (decide ((1 : Int) = 0)) bc2.1 bc2.2, newT (z7.g + 1) ((2 : Nat) : Int) false bc2.1 bc2.2, ⟨⟨rfl, rfl, rfl, rfl, rfl, Oth.new (z7.g + 1) 2 false bc2.1 bc2.2, F11⟩, M11, ?_, ?_, ?_, ?_, ?_, ?_, ?_⟩, h⟩
    · show z7.g + 1 = 2; rw [g7]; rfl
    · show z7.notes = []
      rw [e12]
      exact hn
    · show z7.mx = _
      exact e13
    · show WhI z7.W1 z7.mo
      have a1 : z7.W1 = Wh.new := by rw [e14]; exact hw
      have a2 : z7.mo = 0 := by rw [e15]; exact hmo
      rw [a1, a2]
      exact whI_new
    · show z7.mo = _
      rw [e15]; exact hmo
    · show z7.re = _
      rw [e16]; exact hre
    · show z7.ln + 1 + 1 + 4 + 1 = 20 + 0; omega
  have s8 : Steps B 7 (ZS B z7) (fun S => ∃ z' t, Mid 0 z' t ∧ ZS B z' S) := .cons d8 (.cons d9 s9)
  have s11 : Steps B (7 + 3) _ _ := s7.trans s8
  exact s11
/-- The first twenty runs. -/
theorem s_first {B : KB} {m : Prg} {PS : List Prg} {cs : List Bool} (J : DJ B m PS cs) (b c : Nat) : Steps B 20 (ZI B (z0 b c)) (fun S => ∃ z' t, Mid 0 z' t ∧ ZS B z' S) := by
  have at1 : ∀ j, j < 12 → m.L[j]? = headL[j]? := fun j hj => by rw [J.mL]; exact mainD_head _ hj
  have M : Main (z0 b c) 0 := ⟨rfl, rfl, rfl, rfl, rfl, rfl, by show (-1 : Int) < 0; decide⟩
  have F : Few (z0 b c) := ⟨by show (0 : Int) ≤ 4; decide, by show (4 : Int) ≤ 20 * ((0 : Nat) : Int) + 20; decide, by show 0 ≤ 2000; decide, Nat.le_refl _⟩
  have M1 := M.set0 2 0
  have M2 := M1.set0 3 0
  have M3 := M2.set0 4 0
  have F1 := F.set0 (by show 0 < 2000; decide) 2 0
  have F2 := F1.set0 (by show 1 < 2000; decide) 3 0
  have F3 := F2.set0 (by show 2 < 2000; decide) 4 0
  obtain ⟨_, M4, F4, r2, r3, r4, r5⟩ := s_four J.D M F (by show 0 + 4 ≤ 2000; decide) (by decide) rfl rfl 0 0 0 1 (at1 0 (by decide)) (at1 1 (by decide)) (at1 2 (by decide)) (at1 3 (by decide))
  have d1 := zi_set0 J.D F rfl rfl M.ak M.pr 0 M.pc (by decide) 2 (by decide) 0 (at1 0 (by decide))
  have d2 := zi_set0 J.D F1 rfl rfl M1.ak M1.pr _ M1.pc (by decide) 3 (by decide) 0 (at1 1 (by decide))
  have d3 := zi_set0 J.D F2 rfl rfl M2.ak M2.pr _ M2.pc (by decide) 4 (by decide) 0 (at1 2 (by decide))
  have d4 := zi_set0 J.D F3 rfl rfl M3.ak M3.pr _ M3.pc (by decide) 5 (by decide) 1 (at1 3 (by decide))
  have d5 := zi_mutex J.D (z := (z0 b c).four 0 0 0 1) F4 rfl rfl M4.ak M4.pr _ M4.pc (by decide) (at1 4 (by decide)) r2 r3 r4 r5 rfl rfl rfl rfl rfl
  have M5 : Main ((z0 b c).four 0 0 0 1).mutex 5 := ⟨M4.pr, by show ((z0 b c).four 0 0 0 1).t0.pc + 1 = _; rw [M4.pc]; rfl, M4.can, M4.pol, M4.eff, M4.jn, M4.jr⟩
  have F5 : Few ((z0 b c).four 0 0 0 1).mutex := ⟨by have := F4.s0; show 0 ≤ ((z0 b c).four 0 0 0 1).st + 1; omega, by have := F4.s1; show ((z0 b c).four 0 0 0 1).st + 1 ≤ 20 * ((((z0 b c).four 0 0 0 1).ln + 1 : Nat) : Int) + 20; omega, by show 5 ≤ 2000; decide, by have := F4.an; show ((z0 b c).four 0 0 0 1).an + 1 ≤ ((z0 b c).four 0 0 0 1).ln + 1; omega⟩
  exact .cons d1 (.cons d2 (.cons d3 (.cons d4 (.cons d5 (s_after J M5 F5 rfl rfl rfl rfl rfl rfl rfl rfl rfl rfl rfl)))))
end Dd
end Go.Proofs.YtagmlijhgncklaaGreatDoor.Ker
namespace Go.Proofs.YtagmlijhgncklaaGreatDoor.Ker
namespace Dd
open Go.RowKit Go.Proofs.YtagmlijhgncklaaGreatDoor Go.Proofs.YtagmlijhgncklaaGreatDoor.Code

theorem DoesTo.ex {B : KB} {ev : Value} {α : Type} {A : α → KS → Prop} {A' : KS → Prop} (h : ∀ a, DoesTo B ev (A a) A') : DoesTo B ev (fun S => ∃ a, A a S) A' := by
  rintro W S ⟨a, ha⟩ hW
  exact h a W S ha hW
theorem DoesTo.said {B : KB} {ev : Value} {p : Prop} {A A' : KS → Prop} (h : p → DoesTo B ev A A') : DoesTo B ev (fun S => p ∧ A S) A' := by
  rintro W S ⟨hp, ha⟩ hW
  exact h hp W S ha hW
theorem does_to {B : KB} {ev : Value} {A A1 A' : KS → Prop} (h : DoesTo B ev A A1) (k : ∀ S, A1 S → A' S) : DoesTo B ev A A' := by
  intro W S ha hW
  refine (h W S ha hW).mono ?_
  rintro e w' ⟨S', rfl, a1, k1, f1⟩
  exact ⟨S', rfl, k S' a1, k1, f1⟩
theorem Steps.said {B : KB} {k : Nat} {p : Prop} {A A' : KS → Prop} (h : p → Steps B k A A') : Steps B k (fun S => p ∧ A S) A' := by
  by_cases hp : p
  · exact (h hp).pre fun S hS => hS.2
  · exact Steps.no fun S hS => hp hS.1
def SMid (B : KB) (x : Nat) (S : KS) : Prop := ∃ z t, Mid x z t ∧ ZS B z S
def SAt (B : KB) (cs : List Bool) (i : Nat) (S : KS) : Prop := ∃ z, At cs i z ∧ ZS B z S
theorem t_mid {B : KB} {m : Prg} {PS : List Prg} (D : DB B m PS) : DoesTo B evTick (SMid B 0) (SMid B 1) := by
  refine DoesTo.ex fun z => DoesTo.ex fun t => DoesTo.said fun G => ?_
  refine does_to (z_tick_fifo D G.R.F G.R.f G.R.u G.R.v G.R.o (by rw [G.R.O.can]; rfl) G.W1.F.quiet) fun S h => ?_
  have F := G.R.F
  have hl := G.ln
  have e1 : Clk.upF z.mo = 1 := by rw [G.mo]; rfl
  have e2 : Clk.upF z.re = 1 := by rw [G.re]; rfl
  refine ⟨z.tock 2, t, ⟨⟨G.R.f, G.R.u, G.R.v, G.R.o, G.R.k1, G.R.O, ?_⟩, main_of G.M rfl, G.g, G.notes, G.mx, ?_, e1, e2, ?_⟩, h⟩
  · exact ⟨by have := F.s0; show 0 ≤ z.st + 2; omega, by have := F.s1; show z.st + 2 ≤ 20 * ((z.ln + 1 : Nat) : Int) + 20; omega, by show z.ln + 1 ≤ 2000; omega, by have := F.an; show z.an ≤ z.ln + 1; omega⟩
  · show WhI z.W1 (Clk.upF z.mo)
    rw [e1]
    have q := G.W1
    rw [show z.mo = 0 from G.mo] at q
    exact ⟨⟨fun k h1 h2 => q.F.rings k (by omega) h2, q.F.quiet, q.F.wh, q.F.st, q.F.n⟩, q.ok, by have := q.st; omega⟩
  · show z.ln + 1 = 20 + 1; omega
theorem s_mid {B : KB} {m : Prg} {PS : List Prg} {cs : List Bool} (J : DJ B m PS cs) : Steps B 20 (SMid B 1) (Asleep B cs 0 (if cs.getD 0 false then 8 else 10)) := by
  have n1 := J.n1
  refine Steps.ex fun z => Steps.ex fun t => Steps.said fun G => ?_
  have hl := G.ln
  have q := s_rest J (i := 0) (by omega) G.R G.M (if cs.getD 0 false then 8 else 10) (by rw [hl]; split <;> rfl) (by rw [G.g]; rfl) G.notes G.mx G.W1 (by rw [G.mo]; rfl) (by rw [G.re]; rfl)
  have e : ((if cs.getD 0 false then 8 else 10) + 4) + (if cs.getD 0 false then 8 else 6) = 20 := by split <;> rfl
  rw [e] at q
  exact q
/-- Main has ended; nobody is left. -/
structure Done (cs : List Bool) (l : Nat) (z : Z) : Prop where
  f : z.f = false
  u : z.u = false
  notes : z.notes = notesF cs cs.length
  W1 : Quiet z.W1
  ln : z.ln = l
  F : Few z
def SDone (B : KB) (cs : List Bool) (l : Nat) (S : KS) : Prop := ∃ z, Done cs l z ∧ ZS B z S
theorem mx_own (cs : List Bool) (i : Nat) : (mxF cs i).own ≠ 0 := by
  unfold mxF
  split
  · decide
  · split <;> decide
theorem s_end {B : KB} {m : Prg} {PS : List Prg} {cs : List Bool} (J : DJ B m PS cs) : Steps B 20 (SAt B cs cs.length) (SDone B cs (21 * (1 + cs.length) + 20)) := by
  have n1 := J.n1
  have n6 := J.n6
  refine Steps.ex fun z => Steps.said fun A => ?_
  have F := A.F
  have hl := A.ln
  have d := z_over0 J.D A.F A.f A.u A.v A.M.ak A.M.pr (12 + 9 * cs.length) A.M.pc (by rw [J.mL, mainD_len]) A.M.jn A.M.jr A.M.un (by rw [A.mx]; exact mx_own cs _)
  have F1 : Few z.over0 := ⟨by have := F.s0; show 0 ≤ z.st + 3; omega, by have := F.s1; show z.st + 3 ≤ 20 * ((z.ln + 1 : Nat) : Int) + 20; omega, by show z.ln + 1 ≤ 2000; omega, by have := F.an; show z.an ≤ z.ln + 1; omega⟩
  obtain ⟨s, F2⟩ := s_idle (B := B) 19 F1 (by show z.ln + 1 + 19 ≤ 2000; omega) rfl rfl
  exact .cons d (s.post fun S h => ⟨z.over0.idles 19, ⟨rfl, rfl, A.notes, A.W1.F.quiet, by show z.ln + 1 + 19 = _; omega, F2⟩, h⟩)
theorem s_done {B : KB} {cs : List Bool} {l : Nat} (hl : l + 20 ≤ 2000) : Steps B 20 (SDone B cs l) (SDone B cs (l + 20)) := by
  refine Steps.ex fun z => Steps.said fun A => ?_
  obtain ⟨s, F2⟩ := s_idle (B := B) 20 A.F (by rw [A.ln]; exact hl) A.f A.u
  exact s.post fun S h => ⟨z.idles 20, ⟨A.f, A.u, A.notes, A.W1, by show z.ln + 20 = _; rw [A.ln], F2⟩, h⟩
theorem t_done {B : KB} {cs : List Bool} {l : Nat} (hl : l + 1 ≤ 2000) : DoesTo B evTick (SDone B cs l) (SDone B cs (l + 1)) := by
  refine DoesTo.ex fun z => DoesTo.said fun A => ?_
  have F := A.F
  have hz := A.ln
  exact does_to (z_tick_idle A.F A.f A.u A.W1) fun S h => ⟨z.tock 0, ⟨A.f, A.u, A.notes, A.W1, by show z.ln + 1 = _; omega, ⟨by have := F.s0; show 0 ≤ z.st + 0; omega, by have := F.s1; show z.st + 0 ≤ 20 * ((z.ln + 1 : Nat) : Int) + 20; omega, by show z.ln + 1 ≤ 2000; omega, by have := F.an; show z.an ≤ z.ln + 1; omega⟩⟩, h⟩
/-- At the head of each of the sixty rounds, and before its tick. -/
def Aj (B : KB) (cs : List Bool) (b c : Nat) : Nat → KS → Prop
  | 0 => ZI B (z0 b c)
  | 1 => SMid B 1
  | j + 2 => if j + 1 ≤ cs.length then SAt B cs (j + 1) else SDone B cs (21 * (j + 2))
def Mj (B : KB) (cs : List Bool) : Nat → KS → Prop
  | 0 => SMid B 0
  | 1 => Asleep B cs 0 (if cs.getD 0 false then 8 else 10)
  | j + 2 => if j + 1 < cs.length then Asleep B cs (j + 1) (if cs.getD (j + 1) false then 3 else 5) else SDone B cs (21 * (j + 2) + 20)
theorem a_steps {B : KB} {m : Prg} {PS : List Prg} {cs : List Bool} (J : DJ B m PS cs) (b c : Nat) : ∀ j, j < 60 → Steps B 20 (Aj B cs b c j) (Mj B cs j)
  | 0, _ => s_first J b c
  | 1, _ => s_mid J
  | j + 2, hj => by
    show Steps B 20 (if j + 1 ≤ cs.length then SAt B cs (j + 1) else SDone B cs (21 * (j + 2))) (if j + 1 < cs.length then Asleep B cs (j + 1) (if cs.getD (j + 1) false then 3 else 5) else SDone B cs (21 * (j + 2) + 20))
    by_cases h1 : j + 1 < cs.length
    · rw [if_pos (by omega), if_pos h1]
      exact Steps.ex fun z => Steps.said fun A => s_round J h1 A
    · by_cases h2 : j + 1 = cs.length
      · rw [if_pos (by omega), if_neg h1]
        have q := s_end J
        rw [← h2] at q
        rw [h2] at q ⊢
        rw [show 21 * (j + 2) = 21 * (1 + cs.length) by omega]
        exact q
      · rw [if_neg (by omega), if_neg h1]
        exact s_done (by omega)
theorem a_ticks {B : KB} {m : Prg} {PS : List Prg} {cs : List Bool} (J : DJ B m PS cs) (b c : Nat) : ∀ j, j < 60 → DoesTo B evTick (Mj B cs j) (Aj B cs b c (j + 1))
  | 0, _ => t_mid J.D
  | 1, _ => by
    show DoesTo B evTick _ (if 0 + 1 ≤ cs.length then SAt B cs (0 + 1) else _)
    rw [if_pos J.n1]
    exact t_round (by decide)
  | j + 2, hj => by
    have n6 := J.n6
    show DoesTo B evTick (if j + 1 < cs.length then Asleep B cs (j + 1) (if cs.getD (j + 1) false then 3 else 5) else SDone B cs (21 * (j + 2) + 20)) (if j + 1 + 1 ≤ cs.length then SAt B cs (j + 1 + 1) else SDone B cs (21 * (j + 1 + 2)))
    by_cases h1 : j + 1 < cs.length
    · rw [if_pos h1, if_pos (show j + 1 + 1 ≤ cs.length by omega)]
      exact t_round (by omega)
    · rw [if_neg h1, if_neg (show ¬ (j + 1 + 1 ≤ cs.length) by omega), show 21 * (j + 1 + 2) = 21 * (j + 2) + 20 + 1 by omega]
      exact t_done (by omega)
theorem a_last {B : KB} {cs : List Bool} (b c : Nat) (h : cs.length ≤ 6) (S : KS) (hS : Aj B cs b c 60 S) : S.lo.notes = notesF cs cs.length := by
  have hS : (if 58 + 1 ≤ cs.length then SAt B cs (58 + 1) else SDone B cs (21 * (58 + 2))) S := hS
  rw [if_neg (by omega)] at hS
  obtain ⟨z, A, N⟩ := hS
  exact N.notes.trans A.notes
end Dd
end Go.Proofs.YtagmlijhgncklaaGreatDoor.Ker
namespace Go.Proofs.YtagmlijhgncklaaGreatDoor.Ker
namespace Dd
open Go.RowKit Go.Proofs.YtagmlijhgncklaaGreatDoor Go.Proofs.YtagmlijhgncklaaGreatDoor.Code

/-- A list of the caller's own, as a program in memory. -/
theorem own_prg {w : World} {B : Nat} {v : Value} {L : List Ins} (h : OwnI w B v L) (hl : 0 < L.length) : ∃ a ca, v = .slice (some ⟨a, 0, none⟩) L.length ca ∧ B ≤ a ∧ PrgH w a L := by
  rcases h.2 with ⟨_, h0⟩ | ⟨g, cap, cur, e, hb, hg, _, _, hs, ht⟩
  · omega
  · refine ⟨g, cap, e, hb, cur.toList, by simpa using hg, fun k i hk j hj => ?_⟩
    have hk2 : k < L.length := (List.getElem?_eq_some_iff.1 hk).1
    have q := flat_at L k i j hj hk
    rw [← ht] at q
    rw [List.getElem?_take_of_lt (by omega)] at q
    exact q
theorem heads_put0 : ([] : List Ins) ++ setsF 2 [0, 0, 0, 1] ++ [⟨7, 0, 0, 0, 11⟩] = headL.take 5 := rfl
theorem heads_put1 : headL.take 5 ++ setsF 2 [1, 30, 0, 0] ++ [⟨7, 0, 0, 0, 1⟩] = headL.take 10 := rfl
theorem heads_put2 : headL.take 10 ++ setsF 2 [17] ++ [⟨7, 0, 0, 0, 3⟩] = headL := rfl
theorem dies_put : ([] : List Ins) ++ setsF 2 [16] ++ [⟨7, 0, 0, 0, 13⟩] = diesL := rfl
theorem main_put (n : Nat) : mainD n ++ setsF 2 [((n + 2 : Nat) : Int), 30, 0, 1] ++ [⟨7, 0, 0, 0, 1⟩] ++ setsF 2 [1, 0, 1] ++ [⟨7, 0, 0, 0, 62⟩] = mainD (n + 1) := by
  show _ = headL ++ (blocksL n ++ blockL n)
  rw [← List.append_assoc]
  show (headL ++ blocksL n) ++ setsF 2 _ ++ _ ++ _ ++ _ = _
  rw [List.append_assoc, List.append_assoc, List.append_assoc]
  rfl
/-- Programs in memory, and the row of them. -/
structure Heirs (w : World) (B : Nat) (v : Value) (PS : List Prg) : Prop where
  row : w.ownsRow B 24 1 v PS.length (PS.map Prg.val)
  ps : ∀ x ∈ PS, PrgH w x.p x.L ∧ B ≤ x.p ∧ v.ownBlock ≠ some x.p
theorem Heirs.kept {w w' : World} {B : Nat} {v : Value} {PS : List Prg} (h : Heirs w B v PS) (k : ∀ b, (v.ownBlock = some b ∨ ∃ x ∈ PS, x.p = b) → w'.heap[b]? = w.heap[b]?) : Heirs w' B v PS :=
  ⟨owns_kept h.row fun b hb => k b (.inl hb), fun x hx => ⟨prg_move (h.ps x hx).1 (k x.p (.inr ⟨x, hx, rfl⟩)), (h.ps x hx).2⟩⟩
theorem Heirs.reads {w w' : World} {B : Nat} {v : Value} {PS : List Prg} (h : Heirs w B v PS) (b : Below w.heap.size w w') : Heirs w' B v PS :=
  h.kept fun c hc => b.block c (by
    rcases hc with hc | ⟨x, hx, rfl⟩
    · exact owns_lt h.row hc
    · exact prg_lt (h.ps x hx).1)
/-- A row of the caller's own grows; the programs lie apart from it. -/
theorem Heirs.grows {w w' : World} {B : Nat} {v : Value} {PS : List Prg} (h : Heirs w B v PS) {r : Option Nat} (g : w.grownBy w' r) (h1 : ∀ b, r = some b → v.ownBlock ≠ some b ∧ ∀ x ∈ PS, x.p ≠ b) : Heirs w' B v PS :=
  h.kept fun c hc => by
    have hlt : c < w.heap.size := by
      rcases hc with hc | ⟨x, hx, rfl⟩
      · exact owns_lt h.row hc
      · exact prg_lt (h.ps x hx).1
    refine g.block c hlt fun e => ?_
    rcases hc with hc | ⟨x, hx, rfl⟩
    · exact (h1 c e.symm).1 hc
    · exact (h1 x.p e.symm).2 x hx rfl
end Dd
end Go.Proofs.YtagmlijhgncklaaGreatDoor.Ker
