/-
  The first steps until a semaphore is made. Conditions: those said.
  A kernel with a semaphore, said by what matters: who is ready, who waits, what was noted; what each event makes of it. Conditions: those said.
  What an end, a yield, another priority, a wait, a post, a making make of a kernel with a semaphore. Conditions: those said.
  The programs of the row of the woken, the order of its threads, and how main makes them. Conditions: those said.
  How the threads of the row of the woken come to wait. Conditions: those said.
  How the threads of the row of the woken are woken, and end; the whole run. Conditions: those said.
  From the kernel as it is made: 300 runs of the row of the woken. Conditions: those said.
-/
import Derived.Test.YtagmlijhgncklaaGreatDoorW44
import Derived.Test.YtagmlijhgncklaaGreatDoorW46
import Derived.Test.YtagmlijhgncklaaGreatDoorW14
import Derived.Test.YtagmlijhgncklaaGreatDoorW42
set_option linter.unusedVariables false
namespace Go.Proofs.YtagmlijhgncklaaGreatDoor.Ker
open Go.RowKit Go.Proofs.YtagmlijhgncklaaGreatDoor Go.Proofs.YtagmlijhgncklaaGreatDoor.Code

/-- How a kernel stands before there is a semaphore. -/
structure NowS (S : KS) (B : KB) (x : Pl) : Prop where
  N : Now S B x
  st : S.seT = muT0
  W0 : S.W0 = Wh.new
  W1 : S.W1 = Wh.new
theorem s_step {B : KB} {x : Pl} {p : Nat} {t : Th} (T : Turn B x p t) (y : Code.Prg) (n : Nat) (hx : B.J.PS[n]? = some y) (hpr : t.prog = n) (k : Nat) (hpc : t.pc = k) (i : Code.Ins) (hi : y.L[k]? = some i) (hln : x.ln ≤ 100000)
    (pc' : Int) (r' : Nat → Int) (hop : i.op ≠ 0 ∧ i.op ≠ 7 ∧ i.op ≠ 8) (A : StepsTo i k t.r pc' r') : DoesTo B evRun (fun S => NowS S B x) (fun S => NowS S B (x.stepped p t pc' r')) := by
  intro W S ⟨N, i0, i1, i2⟩ hW
  refine (do_step W S N.B hW N.calm p t (T.run N) y n (by rw [N.B]; exact hx) hpr k hpc i hi (by rw [N.ln]; exact hln) pc' r' hop A).mono ?_
  rintro e w' ⟨v, rfl, k1, f1⟩
  have ht : S.th p = some t := (T.run N).th
  refine ⟨(S.stepped p t pc' r').ev v, rfl, ⟨⟨N.B, N.T, N.L, N.R, ?_, ?_, ?_, N.an, N.notes, (N.calm.stepped ht T.p16 pc' r').ev v, N.q0, N.q1⟩, i0, i1, i2⟩, k1, f1⟩
  · show S.st + 1 = x.st + 1; rw [N.st]
  · show put S.th p _ = put x.th p _; rw [N.th]
  · show S.lo.ln + 1 = x.ln + 1; rw [N.ln]
theorem v_sem {B : KB} {x : Pl} {p : Nat} {t : Th} (T : Turn B x p t) (z : Code.Prg) (n : Nat) (hx : B.J.PS[n]? = some z) (hpr : t.prog = n) (k : Nat) (hpc : t.pc = k) (hi : z.L[k]? = some ⟨7, 0, 0, 0, 25⟩) (hk : k ≤ 1000) (hln : x.ln ≤ 100000) (han : x.an ≤ 100000) (h2 : t.r 2 = 0) :
    DoesTo B evRun (fun S => NowS S B x) (fun S => NowV S B (x.called p t k 16) 0 []) := by
  intro W S ⟨N, i0, i1, i2⟩ hW
  have Rn := T.run N
  have C0 : Calm (S.stepped p t ((k : Int) + 1) t.r) := N.calm.stepped Rn.th T.p16 _ _
  have C1 : ∀ g, Calm ((S.stepped p t ((k : Int) + 1) t.r).semed g) := fun g =>
    ⟨{ C0.P with se1 := (by show 1 ≤ muT4.length; decide), se2 := (by show muT4.length ≤ 16; decide), seg := mu4_ok }, C0.pol, C0.kd, C0.ba, C0.mu⟩
  refine (do_ret W S N.B hW N.calm p t Rn z n (by rw [N.B]; exact hx) hpr k hpc 25 hi hk 232 16 { t with pc := (k : Int) + 1, r := t.r } (fun S1 => ∃ g, S1 = (S.stepped p t ((k : Int) + 1) t.r).semed g) (enters_of Tryz.func232 (by kernel_rfl) rfl) rfl (fun W => points_no W 25 (by decide)) ?_ ?_).mono ?_
  · rintro S1 ⟨g, rfl⟩
    exact ⟨rfl, kstep_eq S p t k, rfl, by show S.lo.an ≤ _; rw [N.an]; exact han, by show S.lo.ln ≤ _; rw [N.ln]; exact hln, C1 g⟩
  · intro W1 hW1
    refine (callSem_c W1 (S.stepped p t ((k : Int) + 1) t.r) N.B hW1 p { t with pc := (k : Int) + 1, r := t.r } T.p16 (kstep_eq S p t k) h2 i0).mono ?_
    rintro e w' ⟨g, rfl, k1, f1⟩
    exact ⟨_, rfl, ⟨g, rfl⟩, k1, f1⟩
  · rintro e w' ⟨S1, av, v', rfl, ⟨g, rfl⟩, c1, k1, f1⟩
    refine ⟨_, rfl, ?_, k1, f1⟩
    refine ⟨⟨N.B, N.T, N.L, N.R, ?_, ?_, ?_, ?_, N.notes, c1, N.q0, N.q1⟩, ⟨i1, i2, _, _, _, (HasSe.new (S.stepped p t ((k : Int) + 1) t.r) g).same rfl rfl rfl⟩⟩
    · show S.st + 1 = x.st + 1; rw [N.st]
    · show put (put S.th p _) p _ = put x.th p _
      rw [put_put, N.th]
    · show S.lo.ln + 1 = x.ln + 1; rw [N.ln]
    · show S.lo.an + 1 = x.an + 1; rw [N.an]
end Go.Proofs.YtagmlijhgncklaaGreatDoor.Ker
namespace Go.Proofs.YtagmlijhgncklaaGreatDoor.Ker
namespace Wk
open Go.RowKit Go.Proofs.YtagmlijhgncklaaGreatDoor Go.Proofs.YtagmlijhgncklaaGreatDoor.Code
open Go.Proofs.YtagmlijhgncklaaGreatDoor.Vq (RepL insQ preQ insQ_mem preQ_mem)

/-- A thread that has not ended. -/
structure Ath where
  prog : Nat
  pc : Nat
  r : Nat → Int
  pr : Nat
  wt : Bool
structure Like (p : Nat) (t : Th) (a : Ath) : Prop where
  prog : t.prog = a.prog
  pc : t.pc = a.pc
  r : t.r = a.r
  eff : t.eff = a.pr
  wt : t.wt = if a.wt then semW else Wt.no
  en : t.en = false
  hd : t.hd = (p : Int) + 16
  jn : t.jn = true
  jr : t.jr < 0
  can : t.can = Can.newS
/-- Who is ready, the threads, who waits, when the last came, who has noted, how many were made, how many runs there were. -/
structure Z where
  Q : List (Nat × Nat)
  th : Nat → Option Ath
  E : WEs
  last : Int
  notes : List Int
  k : Nat
  c : Nat
structure Fit (z : Z) (x : Pl) : Prop where
  T : x.T = robT z.k
  R : RepL x.R z.Q
  Ll : x.L.length = 16
  L1 : ∀ y ∈ z.Q, (x.L.getD y.1 Hs.no).isIn = true ∧ (x.L.getD y.1 Hs.no).pr = y.2
  L0 : ∀ p, p < 16 → (∀ y ∈ z.Q, y.1 ≠ p) → (x.L.getD p Hs.no).isIn = false
  st0 : 0 ≤ x.st
  st : x.st ≤ 10 * z.c + 10
  ln : x.ln ≤ z.c
  an : x.an ≤ 2 * z.c
  nl : x.notes.length ≤ z.c
  notes : x.notes.map (·.1) = z.notes
  th : ∀ p a, z.th p = some a → ∃ t, x.th p = some t ∧ Like p t a
  un : ∀ p, z.k < p → x.th p = none
  E : EsOk z.E z.last
  k7 : z.k ≤ 7
def Is (B : KB) (z : Z) (S : KS) : Prop := ∃ x, NowV S B x z.last z.E ∧ Fit z x
theorem does_is {B : KB} {z z' : Z} (h : ∀ x, Fit z x → ∃ x', DoesTo B evRun (fun S => NowV S B x z.last z.E) (fun S => NowV S B x' z'.last z'.E) ∧ Fit z' x') : DoesTo B evRun (Is B z) (Is B z') := by
  rintro W S ⟨x, hN, hx⟩ hW
  obtain ⟨x', hD, hx'⟩ := h x hx
  refine (hD W S hN hW).mono ?_
  rintro e w' ⟨S', rfl, hS, k, f⟩
  exact ⟨S', rfl, ⟨x', hS, hx'⟩, k, f⟩
theorem notin {R : Rd} {Q : List (Nat × Nat)} {t p : Nat} (h : RepL R ((t, p) :: Q)) : ∀ y ∈ Q, y.1 ≠ t := by
  rintro ⟨u, pu⟩ hu rfl
  have hb := h.b (u, p) (by simp)
  have hb2 := h.b (u, pu) (by simp [hu])
  have e : Vq.ofP ((u, p) :: Q) p = u :: Vq.ofP Q p := by rw [Vq.ofP_cons, if_pos rfl]
  by_cases hp : pu = p
  · subst hp
    have nd := h.r.nd pu hb.2
    rw [e] at nd
    exact (List.nodup_cons.1 nd).1 (Vq.mem_ofP hu)
  · have h1 : u ∈ Vq.ofP ((u, p) :: Q) p := by rw [e]; simp
    have h2 : u ∈ Vq.ofP ((u, p) :: Q) pu := Vq.mem_ofP (by simp [hu])
    exact hp (h.r.one hb2.2 hb.2 h2 h1)
/-- Whose turn it is. -/
theorem Fit.turn {B : KB} {z : Z} {x : Pl} (F : Fit z x) (hn : B.n = 8) (hc : z.c ≤ 1000) {p pr : Nat} {Q : List (Nat × Nat)} (hQ : z.Q = (p, pr) :: Q) {a : Ath} (ha : z.th p = some a) :
    ∃ t, x.th p = some t ∧ Like p t a ∧ Turn B x p t ∧ Leaves x p pr ∧ (x.L.getD p Hs.no).pr = pr := by
  obtain ⟨t, ht, L⟩ := F.th p a ha
  have R := F.R
  rw [hQ] at R
  obtain ⟨f1, f2, f3⟩ := R.first
  obtain ⟨l1, l2, l3, l4, l5⟩ := R.leaves
  have hb := R.b (p, pr) (by simp)
  have hi := F.L1 (p, pr) (by rw [hQ]; simp)
  have hk := F.k7
  have hpn : p < B.n := by
    rw [hn]
    by_cases e : z.k < p
    · rw [F.un p e] at ht; cases ht
    · omega
  have s0 := F.st0
  have s1 := F.st
  have hb2 : pr < 32 := hb.2
  exact ⟨t, ht, L, ⟨l1, hpn, ht, f1, by omega, by omega, f3, s0, by omega, by rw [L.can]; rfl⟩, ⟨hi.1, hb.1, hb.2, l3, l4, l5⟩, hi.2⟩
/-- The other threads stand as they stood. -/
theorem th_put {z : Z} {x : Pl} (F : Fit z x) {p : Nat} {t' : Th} {a' : Ath} (L : Like p t' a') : ∀ q b, put z.th p (some a') q = some b → ∃ t, put x.th p (some t') q = some t ∧ Like q t b := by
  intro q b hb
  by_cases e : q = p
  · subst e
    rw [put_self] at hb
    cases hb
    exact ⟨t', put_self _ _ _, L⟩
  · rw [put_ne _ _ e] at hb
    obtain ⟨t, ht, l⟩ := F.th q b hb
    exact ⟨t, (put_ne _ _ e).trans ht, l⟩
theorem un_put {z : Z} {x : Pl} (F : Fit z x) {p : Nat} {t t' : Th} (ht : x.th p = some t) : ∀ q, z.k < q → put x.th p (some t') q = none := by
  intro q hq
  by_cases e : q = p
  · subst e
    rw [F.un q hq] at ht
    cases ht
  · rw [put_ne _ _ e]
    exact F.un q hq
/-- The instruction at a place of a program. -/
def At (B : KB) (prog pc : Nat) (i : Ins) : Prop := ∃ y, B.J.PS[prog]? = some y ∧ y.L[pc]? = some i
def ans (a : Ath) (v : Int) : Ath := { a with pc := a.pc + 1, r := put (put a.r 0 v) 1 0 }
theorem Like.ans {p : Nat} {t : Th} {a : Ath} (L : Like p t a) (v : Int) : Like p (({ t with pc := (a.pc : Int) + 1 } : Th).ans v 0) (ans a v) :=
  ⟨L.prog, by show (a.pc : Int) + 1 = ((a.pc + 1 : Nat) : Int); omega, by show put (put t.r 0 v) 1 0 = put (put a.r 0 v) 1 0; rw [L.r], L.eff, L.wt, L.en, L.hd, L.jn, L.jr, L.can⟩
def setR (a : Ath) (d : Nat) (v : Int) : Ath := { a with pc := a.pc + 1, r := put a.r d v }
theorem z_set {B : KB} {z : Z} (hn : B.n = 8) (hc : z.c ≤ 1000) {p pr : Nat} {Q : List (Nat × Nat)} (hQ : z.Q = (p, pr) :: Q) {a : Ath} (ha : z.th p = some a) {d : Nat} {v : Int} (hd : d < 8) (hk : a.pc ≤ 900) (hA : At B a.prog a.pc ⟨1, d, 0, 0, v⟩) :
    DoesTo B evRun (Is B z) (Is B { z with th := put z.th p (some (setR a d v)), c := z.c + 1 }) := by
  refine does_is fun x F => ?_
  obtain ⟨t, ht, L, T, I, hl⟩ := F.turn hn hc hQ ha
  obtain ⟨y, hy, hi⟩ := hA
  have e1 := F.ln
  have e2 := F.st
  have e3 := F.st0
  have e4 := F.an
  have e5 := F.nl
  refine ⟨_, v_step T y a.prog hy L.prog a.pc L.pc ⟨1, d, 0, 0, v⟩ hi (by omega) _ _ one_ok (step_set d hd v a.pc (by omega) t.r), ?_⟩
  refine ⟨F.T, F.R, F.Ll, F.L1, F.L0, ?_, ?_, ?_, ?_, ?_, F.notes, th_put F (t' := { t with pc := (a.pc : Int) + 1, r := put t.r d v }) ⟨L.prog, ?_, ?_, L.eff, L.wt, L.en, L.hd, L.jn, L.jr, L.can⟩, un_put F ht, F.E, F.k7⟩
  · show 0 ≤ x.st + 1; omega
  · show x.st + 1 ≤ 10 * ((z.c + 1 : Nat) : Int) + 10; omega
  · show x.ln + 1 ≤ z.c + 1; omega
  · show x.an ≤ 2 * (z.c + 1); omega
  · show x.notes.length ≤ z.c + 1; omega
  · show (a.pc : Int) + 1 = ((a.pc + 1 : Nat) : Int); omega
  · show put t.r d v = put a.r d v; rw [L.r]
theorem z_self {B : KB} {z : Z} (hn : B.n = 8) (hc : z.c ≤ 1000) {p pr : Nat} {Q : List (Nat × Nat)} (hQ : z.Q = (p, pr) :: Q) {a : Ath} (ha : z.th p = some a) (hk : a.pc ≤ 900) (hA : At B a.prog a.pc ⟨7, 0, 0, 0, 5⟩) :
    DoesTo B evRun (Is B z) (Is B { z with th := put z.th p (some (ans a ((p : Int) + 16))), c := z.c + 1 }) := by
  refine does_is fun x F => ?_
  obtain ⟨t, ht, L, T, I, hl⟩ := F.turn hn hc hQ ha
  obtain ⟨y, hy, hi⟩ := hA
  have e1 := F.ln
  have e2 := F.st
  have e3 := F.st0
  have e4 := F.an
  have e5 := F.nl
  refine ⟨_, v_self T y a.prog hy L.prog a.pc L.pc hi (by omega) (by omega) (by omega), ?_⟩
  rw [L.hd]
  refine ⟨F.T, F.R, F.Ll, F.L1, F.L0, ?_, ?_, ?_, ?_, ?_, F.notes, th_put F (L.ans _), un_put F ht, F.E, F.k7⟩
  · show 0 ≤ x.st + 1; omega
  · show x.st + 1 ≤ 10 * ((z.c + 1 : Nat) : Int) + 10; omega
  · show x.ln + 1 ≤ z.c + 1; omega
  · show x.an + 1 ≤ 2 * (z.c + 1); omega
  · show x.notes.length ≤ z.c + 1; omega
theorem z_note {B : KB} {z : Z} (hn : B.n = 8) (hc : z.c ≤ 1000) {p pr : Nat} {Q : List (Nat × Nat)} (hQ : z.Q = (p, pr) :: Q) {a : Ath} (ha : z.th p = some a) (hk : a.pc ≤ 900) (hA : At B a.prog a.pc ⟨8, 0, 0, 0, 0⟩) :
    DoesTo B evRun (Is B z) (Is B { z with th := put z.th p (some { a with pc := a.pc + 1 }), notes := z.notes ++ [(p : Int)], c := z.c + 1 }) := by
  refine does_is fun x F => ?_
  obtain ⟨t, ht, L, T, I, hl⟩ := F.turn hn hc hQ ha
  obtain ⟨y, hy, hi⟩ := hA
  have e1 := F.ln
  have e2 := F.st
  have e3 := F.st0
  have e4 := F.an
  have e5 := F.nl
  refine ⟨_, v_note T y a.prog hy L.prog a.pc L.pc ⟨8, 0, 0, 0, 0⟩ hi (by omega) 0 rfl rfl (by decide) (by omega) (by omega), ?_⟩
  refine ⟨F.T, F.R, F.Ll, F.L1, F.L0, ?_, ?_, ?_, ?_, ?_, ?_, th_put F (t' := { t with pc := (a.pc : Int) + 1 }) ⟨L.prog, ?_, L.r, L.eff, L.wt, L.en, L.hd, L.jn, L.jr, L.can⟩, un_put F ht, F.E, F.k7⟩
  · show 0 ≤ x.st + 1; omega
  · show x.st + 1 ≤ 10 * ((z.c + 1 : Nat) : Int) + 10; omega
  · show x.ln + 1 ≤ z.c + 1; omega
  · show x.an ≤ 2 * (z.c + 1); omega
  · show (x.notes ++ [((p : Int), t.r 0)]).length ≤ z.c + 1
    rw [List.length_append]
    show x.notes.length + 1 ≤ _
    omega
  · show (x.notes ++ [((p : Int), t.r 0)]).map (·.1) = _
    rw [List.map_append, F.notes]
    rfl
  · show (a.pc : Int) + 1 = ((a.pc + 1 : Nat) : Int); omega
theorem z_nobody {B : KB} {z : Z} (hc : z.c ≤ 1000) (hQ : z.Q = []) : DoesTo B evRun (Is B z) (Is B { z with c := z.c + 1 }) := by
  refine does_is fun x F => ?_
  have e1 := F.ln
  have e2 := F.st
  have e3 := F.st0
  have e4 := F.an
  have e5 := F.nl
  have R := F.R
  rw [hQ] at R
  refine ⟨_, v_nobody R.nobody (by omega), ?_⟩
  refine ⟨F.T, F.R, F.Ll, F.L1, F.L0, F.st0, ?_, ?_, ?_, ?_, F.notes, F.th, F.un, F.E, F.k7⟩
  · show x.st ≤ 10 * ((z.c + 1 : Nat) : Int) + 10; omega
  · show x.ln + 1 ≤ z.c + 1; omega
  · show x.an ≤ 2 * (z.c + 1); omega
  · show x.notes.length ≤ z.c + 1; omega
end Wk
end Go.Proofs.YtagmlijhgncklaaGreatDoor.Ker
namespace Go.Proofs.YtagmlijhgncklaaGreatDoor.Ker
namespace Wk
open Go.RowKit Go.Proofs.YtagmlijhgncklaaGreatDoor Go.Proofs.YtagmlijhgncklaaGreatDoor.Code
open Go.Proofs.YtagmlijhgncklaaGreatDoor.Vq (RepL insQ preQ insQ_mem preQ_mem)

theorem z_past {B : KB} {z : Z} (hn : B.n = 8) (hc : z.c ≤ 1000) {p pr : Nat} {Q : List (Nat × Nat)} (hQ : z.Q = (p, pr) :: Q) {a : Ath} (ha : z.th p = some a) {y : Prg} (hy : B.J.PS[a.prog]? = some y) (hl : a.pc = y.L.length) :
    DoesTo B evRun (Is B z) (Is B { z with Q := Q, th := put z.th p none, c := z.c + 1 }) := by
  refine does_is fun x F => ?_
  obtain ⟨t, ht, L, T, I, hlp⟩ := F.turn hn hc hQ ha
  have e1 := F.ln
  have e2 := F.st
  have e3 := F.st0
  have e4 := F.an
  have e5 := F.nl
  have R := F.R
  rw [hQ] at R
  refine ⟨_, v_past T y a.prog hy L.prog a.pc L.pc hl (by omega) L.jn L.jr (by rw [L.can]; rfl) I, ?_⟩
  refine ⟨F.T, R.rem, ?_, ?_, ?_, ?_, ?_, ?_, ?_, ?_, F.notes, ?_, ?_, F.E, F.k7⟩
  · show (x.L.set p Hs.no).length = 16; rw [List.length_set]; exact F.Ll
  · intro u hu
    show ((x.L.set p Hs.no).getD u.1 Hs.no).isIn = true ∧ ((x.L.set p Hs.no).getD u.1 Hs.no).pr = _
    rw [hs_set _ _ _ _ (by rw [F.Ll]; exact T.p16), if_neg (notin R u hu)]
    exact F.L1 u (by rw [hQ]; simp [hu])
  · intro q hq hno
    show ((x.L.set p Hs.no).getD q Hs.no).isIn = false
    rw [hs_set _ _ _ _ (by rw [F.Ll]; exact T.p16)]
    by_cases e : q = p
    · rw [if_pos e]; rfl
    · rw [if_neg e]
      refine F.L0 q hq fun u hu => ?_
      rw [hQ] at hu
      rcases List.mem_cons.1 hu with rfl | hu
      · exact Ne.symm e
      · exact hno u hu
  · show 0 ≤ x.st + 3; omega
  · show x.st + 3 ≤ 10 * ((z.c + 1 : Nat) : Int) + 10; omega
  · show x.ln + 1 ≤ z.c + 1; omega
  · show x.an ≤ 2 * (z.c + 1); omega
  · show x.notes.length ≤ z.c + 1; omega
  · intro q b hb
    show ∃ t', put (put (put x.th p _) p _) p _ q = some t' ∧ _
    have e : q ≠ p := by
      intro e
      subst e
      have hb : put z.th q none q = some b := hb
      rw [put_self] at hb
      cases hb
    have hb : put z.th p none q = some b := hb
    rw [put_ne _ _ e] at hb
    rw [put_ne _ _ e, put_ne _ _ e, put_ne _ _ e]
    exact F.th q b hb
  · intro q hq
    show put (put (put x.th p _) p _) p _ q = none
    have e : q ≠ p := by
      intro e
      subst e
      rw [F.un q hq] at ht
      cases ht
    rw [put_ne _ _ e, put_ne _ _ e, put_ne _ _ e]
    exact F.un q hq
theorem z_yield {B : KB} {z : Z} (hn : B.n = 8) (hc : z.c ≤ 1000) {p pr : Nat} {Q : List (Nat × Nat)} (hQ : z.Q = (p, pr) :: Q) {a : Ath} (ha : z.th p = some a) (hk : a.pc ≤ 900) (hA : At B a.prog a.pc ⟨7, 0, 0, 0, 6⟩) :
    DoesTo B evRun (Is B z) (Is B { z with Q := insQ Q (p, pr), th := put z.th p (some (ans a 0)), c := z.c + 1 }) := by
  refine does_is fun x F => ?_
  obtain ⟨t, ht, L, T, I, hlp⟩ := F.turn hn hc hQ ha
  obtain ⟨y, hy, hi⟩ := hA
  have e1 := F.ln
  have e2 := F.st
  have e3 := F.st0
  have e4 := F.an
  have e5 := F.nl
  have R := F.R
  rw [hQ] at R
  refine ⟨_, v_yield T y a.prog hy L.prog a.pc L.pc hi (by omega) (by omega) (by omega) I hlp (R.rem.lk_tl I.q32), ?_⟩
  refine ⟨F.T, R.rem.tail I.q1 I.q32 T.p16 (notin R), ?_, ?_, ?_, ?_, ?_, ?_, ?_, ?_, F.notes, th_put F (L.ans _), un_put F ht, F.E, F.k7⟩
  · show (x.L.set p _).length = 16; rw [List.length_set]; exact F.Ll
  · intro u hu
    show ((x.L.set p _).getD u.1 Hs.no).isIn = true ∧ ((x.L.set p _).getD u.1 Hs.no).pr = _
    rw [hs_set _ _ _ _ (by rw [F.Ll]; exact T.p16)]
    rcases insQ_mem.1 hu with rfl | hu
    · rw [if_pos rfl]
      exact ⟨I.isIn, rfl⟩
    · rw [if_neg (notin R u hu)]
      exact F.L1 u (by rw [hQ]; simp [hu])
  · intro q hq hno
    show ((x.L.set p _).getD q Hs.no).isIn = false
    have e : q ≠ p := fun e => hno (p, pr) (insQ_mem.2 (.inl rfl)) e.symm
    rw [hs_set _ _ _ _ (by rw [F.Ll]; exact T.p16), if_neg e]
    refine F.L0 q hq fun u hu => ?_
    rw [hQ] at hu
    rcases List.mem_cons.1 hu with rfl | hu
    · exact Ne.symm e
    · exact hno u (insQ_mem.2 (.inr hu))
  · show 0 ≤ x.st + 7; omega
  · show x.st + 7 ≤ 10 * ((z.c + 1 : Nat) : Int) + 10; omega
  · show x.ln + 1 ≤ z.c + 1; omega
  · show x.an + 1 ≤ 2 * (z.c + 1); omega
  · show x.notes.length ≤ z.c + 1; omega
theorem robT_at0 : ∀ k, k < 8 → Tab.atF (robT k) 16 = some 0 := by decide +kernel
theorem z_prio {B : KB} {z : Z} (hn : B.n = 8) (hc : z.c ≤ 1000) {pr v : Nat} {Q : List (Nat × Nat)} (hQ : z.Q = (0, pr) :: Q) {a : Ath} (ha : z.th 0 = some a) (hwt : a.wt = false) (hk : a.pc ≤ 900) (hA : At B a.prog a.pc ⟨7, 0, 0, 0, 7⟩) (h2 : a.r 2 = 16) (h3 : a.r 3 = v) (v1 : 1 ≤ v) (vlt : v < pr) :
    DoesTo B evRun (Is B z) (Is B { z with Q := preQ Q (0, v), th := put z.th 0 (some { ans a 0 with pr := v }), c := z.c + 1 }) := by
  refine does_is fun x F => ?_
  obtain ⟨t, ht, L, T, I, hlp⟩ := F.turn hn hc hQ ha
  obtain ⟨y, hy, hi⟩ := hA
  have e1 := F.ln
  have e2 := F.st
  have e3 := F.st0
  have e4 := F.an
  have e5 := F.nl
  have e7 := F.k7
  have R := F.R
  rw [hQ] at R
  have q32 := I.q32
  have v32 : v < 32 := by omega
  refine ⟨_, v_setprio T y a.prog hy L.prog a.pc L.pc hi (by omega) (by omega) (by omega) (by rw [F.T, L.r, h2]; exact robT_at0 z.k (by omega)) (by rw [L.r, h3]) L.en (by rw [L.wt, hwt]; rfl) I hlp v1 vlt (R.rem.lk_hd v32), ?_⟩
  refine ⟨F.T, R.rem.head v1 v32 T.p16 (notin R), ?_, ?_, ?_, ?_, ?_, ?_, ?_, ?_, F.notes, th_put F (t' := (({ t with pc := (a.pc : Int) + 1 } : Th).prio v).ans 0 0) ⟨L.prog, ?_, ?_, rfl, L.wt, L.en, L.hd, L.jn, L.jr, L.can⟩, un_put F ht, F.E, F.k7⟩
  · show (x.L.set 0 _).length = 16; rw [List.length_set]; exact F.Ll
  · intro u hu
    show ((x.L.set 0 _).getD u.1 Hs.no).isIn = true ∧ ((x.L.set 0 _).getD u.1 Hs.no).pr = _
    rw [hs_set _ _ _ _ (by rw [F.Ll]; decide)]
    rcases preQ_mem.1 hu with rfl | hu
    · rw [if_pos rfl]
      exact ⟨I.isIn, rfl⟩
    · rw [if_neg (notin R u hu)]
      exact F.L1 u (by rw [hQ]; simp [hu])
  · intro q hq hno
    show ((x.L.set 0 _).getD q Hs.no).isIn = false
    have e : q ≠ 0 := fun e => hno (0, v) (preQ_mem.2 (.inl rfl)) e.symm
    rw [hs_set _ _ _ _ (by rw [F.Ll]; decide), if_neg e]
    refine F.L0 q hq fun u hu => ?_
    rw [hQ] at hu
    rcases List.mem_cons.1 hu with rfl | hu
    · exact Ne.symm e
    · exact hno u (preQ_mem.2 (.inr hu))
  · show 0 ≤ x.st + 7; omega
  · show x.st + 7 ≤ 10 * ((z.c + 1 : Nat) : Int) + 10; omega
  · show x.ln + 1 ≤ z.c + 1; omega
  · show x.an + 1 ≤ 2 * (z.c + 1); omega
  · show x.notes.length ≤ z.c + 1; omega
  · show (a.pc : Int) + 1 = ((a.pc + 1 : Nat) : Int); omega
  · show put (put t.r 0 0) 1 0 = put (put a.r 0 0) 1 0; rw [L.r]
theorem z_wait {B : KB} {z : Z} (hn : B.n = 8) (hc : z.c ≤ 1000) {p pr : Nat} {Q : List (Nat × Nat)} (hQ : z.Q = (p, pr) :: Q) {a : Ath} (ha : z.th p = some a) (hk : a.pc ≤ 900) (hA : At B a.prog a.pc ⟨7, 0, 0, 0, 27⟩) (h2 : a.r 2 = 16) (hpr : a.pr = pr)
    (hE : ∀ y ∈ z.E, y.1 ≠ p ∧ (pr : Int) ≤ y.2.1) (hl : z.last ≤ 90000) (h11 : z.E.length ≤ 11) :
    DoesTo B evRun (Is B z) (Is B { z with Q := Q, th := put z.th p (some { a with pc := a.pc + 1, wt := true }), E := z.E ++ [(p, (pr : Int), z.last + 1 + 1)], last := z.last + 1 + 1, c := z.c + 1 }) := by
  refine does_is fun x F => ?_
  obtain ⟨t, ht, L, T, I, hlp⟩ := F.turn hn hc hQ ha
  obtain ⟨y, hy, hi⟩ := hA
  have e1 := F.ln
  have e2 := F.st
  have e3 := F.st0
  have e4 := F.an
  have e5 := F.nl
  have R := F.R
  rw [hQ] at R
  have q1 := I.q1
  have q32 := I.q32
  have V := v_wait (last := z.last) (E := z.E) T y a.prog hy L.prog a.pc L.pc hi (by omega) (by omega) (by omega) (by rw [L.r]; exact h2) (by rw [L.eff, hpr]; omega) (by rw [L.eff, hpr]; omega) (by rw [L.can]; rfl) I F.E (fun u hu => (hE u hu).1)
  rw [L.eff, hpr] at V
  refine ⟨_, V, ?_⟩
  refine ⟨F.T, R.rem, ?_, ?_, ?_, ?_, ?_, ?_, ?_, ?_, F.notes, th_put F (t' := { t with pc := (a.pc : Int) + 1, wt := semW }) ⟨L.prog, ?_, L.r, L.eff, rfl, L.en, L.hd, L.jn, L.jr, L.can⟩, un_put F ht, F.E.add T.p16 (fun u hu => (hE u hu).1) (fun u hu => (hE u hu).2) hl h11, F.k7⟩
  · show (x.L.set p Hs.no).length = 16; rw [List.length_set]; exact F.Ll
  · intro u hu
    show ((x.L.set p Hs.no).getD u.1 Hs.no).isIn = true ∧ ((x.L.set p Hs.no).getD u.1 Hs.no).pr = _
    rw [hs_set _ _ _ _ (by rw [F.Ll]; exact T.p16), if_neg (notin R u hu)]
    exact F.L1 u (by rw [hQ]; simp [hu])
  · intro q hq hno
    show ((x.L.set p Hs.no).getD q Hs.no).isIn = false
    rw [hs_set _ _ _ _ (by rw [F.Ll]; exact T.p16)]
    by_cases e : q = p
    · rw [if_pos e]; rfl
    · rw [if_neg e]
      refine F.L0 q hq fun u hu => ?_
      rw [hQ] at hu
      rcases List.mem_cons.1 hu with rfl | hu
      · exact Ne.symm e
      · exact hno u hu
  · show 0 ≤ x.st + 3; omega
  · show x.st + 3 ≤ 10 * ((z.c + 1 : Nat) : Int) + 10; omega
  · show x.ln + 1 ≤ z.c + 1; omega
  · show x.an ≤ 2 * (z.c + 1); omega
  · show x.notes.length ≤ z.c + 1; omega
  · show (a.pc : Int) + 1 = ((a.pc + 1 : Nat) : Int); omega
theorem z_post {B : KB} {z : Z} (hn : B.n = 8) (hc : z.c ≤ 1000) {r pr0 : Nat} {Q : List (Nat × Nat)} (hQ : z.Q = (r, pr0) :: Q) {a : Ath} (ha : z.th r = some a) (hk : a.pc ≤ 900) (hA : At B a.prog a.pc ⟨7, 0, 0, 0, 30⟩) (h2 : a.r 2 = 16)
    {p pr : Nat} {c : Int} {E : WEs} (hE : z.E = (p, (pr : Int), c) :: E) {b : Ath} (hb : z.th p = some b) (hw : b.wt = true) (hp : b.pr = pr) (h1 : 1 ≤ pr) (h32 : pr < 32) (hno : ∀ u ∈ z.Q, u.1 ≠ p) :
    DoesTo B evRun (Is B z) (Is B { z with Q := insQ z.Q (p, pr), th := put (put z.th p (some { b with wt := false, r := put (put b.r 0 0) 1 0 })) r (some (ans a 0)), E := E, c := z.c + 1 }) := by
  refine does_is fun x F => ?_
  obtain ⟨t, ht, L, T, I, hlp⟩ := F.turn hn hc hQ ha
  obtain ⟨u, hu, Lu⟩ := F.th p b hb
  obtain ⟨y, hy, hi⟩ := hA
  have hpr : p ≠ r := fun e => hno (r, pr0) (by rw [hQ]; simp) e.symm
  have KE := F.E
  rw [hE] at KE
  have p16 : p < 16 := KE.t16 (p, (pr : Int), c) (by simp)
  have e1 := F.ln
  have e2 := F.st
  have e3 := F.st0
  have e4 := F.an
  have e5 := F.nl
  have wu : u.wt = semW := by rw [Lu.wt, hw]; rfl
  have V := v_post (B := B) (c := c) (E := E) (last := z.last) T y a.prog hy L.prog a.pc L.pc hi (by omega) (by omega) (by omega) (by rw [L.r]; exact h2) hpr p16 hu wu (by rw [Lu.eff, hp]) h1 h32 (F.L0 p p16 hno) (F.R.out p16 hno) (F.R.lk_tl h32) KE
  rw [← hE] at V
  refine ⟨_, V, ?_⟩
  have F1 : ∀ q b', put (put z.th p (some { b with wt := false, r := put (put b.r 0 0) 1 0 })) r (some (ans a 0)) q = some b' → ∃ t', put (put x.th p (some (({ u with wt := Wt.no } : Th).ans 0 0))) r (some (({ t with pc := (a.pc : Int) + 1 } : Th).ans 0 0)) q = some t' ∧ Like q t' b' := by
    intro q b' hq
    by_cases e : q = r
    · subst e
      rw [put_self] at hq
      cases hq
      exact ⟨_, put_self _ _ _, L.ans 0⟩
    · rw [put_ne _ _ e] at hq
      rw [put_ne _ _ e]
      by_cases e2 : q = p
      · subst e2
        rw [put_self] at hq
        cases hq
        refine ⟨_, put_self _ _ _, ⟨Lu.prog, Lu.pc, ?_, Lu.eff, rfl, Lu.en, Lu.hd, Lu.jn, Lu.jr, Lu.can⟩⟩
        show put (put u.r 0 0) 1 0 = put (put b.r 0 0) 1 0
        rw [Lu.r]
      · rw [put_ne _ _ e2] at hq
        rw [put_ne _ _ e2]
        exact F.th q b' hq
  refine ⟨F.T, F.R.tail h1 h32 p16 hno, ?_, ?_, ?_, ?_, ?_, ?_, ?_, ?_, F.notes, F1, ?_, KE.rest, F.k7⟩
  · show (x.L.set p _).length = 16; rw [List.length_set]; exact F.Ll
  · intro v hv
    show ((x.L.set p _).getD v.1 Hs.no).isIn = true ∧ ((x.L.set p _).getD v.1 Hs.no).pr = _
    rw [hs_set _ _ _ _ (by rw [F.Ll]; exact p16)]
    rcases insQ_mem.1 hv with rfl | hv
    · rw [if_pos rfl]
      exact ⟨rfl, rfl⟩
    · rw [if_neg (hno v hv)]
      exact F.L1 v hv
  · intro q hq hn2
    show ((x.L.set p _).getD q Hs.no).isIn = false
    have e : q ≠ p := fun e => hn2 (p, pr) (insQ_mem.2 (.inl rfl)) e.symm
    rw [hs_set _ _ _ _ (by rw [F.Ll]; exact p16), if_neg e]
    exact F.L0 q hq fun v hv => hn2 v (insQ_mem.2 (.inr hv))
  · show 0 ≤ x.st + 5; omega
  · show x.st + 5 ≤ 10 * ((z.c + 1 : Nat) : Int) + 10; omega
  · show x.ln + 1 ≤ z.c + 1; omega
  · show x.an + 2 ≤ 2 * (z.c + 1); omega
  · show x.notes.length ≤ z.c + 1; omega
  · intro q hq
    show put (put x.th p _) r _ q = none
    have g1 : q ≠ r := fun e => by subst e; rw [F.un q hq] at ht; cases ht
    have g2 : q ≠ p := fun e => by subst e; rw [F.un q hq] at hu; cases hu
    rw [put_ne _ _ g1, put_ne _ _ g2]
    exact F.un q hq
theorem robT_facts7 : ∀ i, i < 7 → Tab.freeF (robT i) = some (i + 1) ∧ Tab.gn (robT i) (i + 1) = 0 ∧ Tab.atF ((robT i).set (i + 1) (true, 1)) (((i + 1 : Nat) : Int) + 16 * 1) = some (i + 1) := by decide +kernel
/-- A thread that is made. -/
def fresh (pr : Nat) : Ath := ⟨1, 0, fun _ => 0, pr, false⟩
theorem z_create {B : KB} {z : Z} (hn : B.n = 8) (hPS : B.J.PS.length = 2) (hc : z.c ≤ 1000) {p pr0 : Nat} {Q : List (Nat × Nat)} (hQ : z.Q = (p, pr0) :: Q) {a : Ath} (ha : z.th p = some a) (hk : a.pc ≤ 900) (hA : At B a.prog a.pc ⟨7, 0, 0, 0, 1⟩)
    {pr : Nat} (h2 : a.r 2 = 1) (h3 : a.r 3 = pr) (h4 : a.r 4 = 0) (h5 : a.r 5 = 0) (h1 : 1 ≤ pr) (h32 : pr < 32) (hk7 : z.k < 7) (hqk : ∀ u ∈ z.Q, u.1 ≤ z.k) :
    DoesTo B evRun (Is B z) (Is B { z with Q := insQ z.Q (z.k + 1, pr), th := put (put z.th (z.k + 1) (some (fresh pr))) p (some (ans a (((z.k + 1 : Nat) : Int) + 16 * 1))), k := z.k + 1, c := z.c + 1 }) := by
  rintro W S ⟨x, N, F⟩ hW
  obtain ⟨t, ht, L, T, I, hlp⟩ := F.turn hn hc hQ ha
  obtain ⟨y, hy, hi⟩ := hA
  obtain ⟨f1, f2, f3⟩ := robT_facts7 z.k hk7
  have e1 := F.ln
  have e2 := F.st
  have e3 := F.st0
  have e4 := F.an
  have e5 := F.nl
  have hno : ∀ u ∈ z.Q, u.1 ≠ z.k + 1 := fun u hu => by have := hqk u hu; omega
  have hpk : p ≤ z.k := hqk (p, pr0) (by rw [hQ]; simp)
  have i16 : z.k + 1 < 16 := by omega
  have V := v_create (last := z.last) (E := z.E) T y a.prog hy L.prog a.pc L.pc hi (by omega) (by omega) (by omega) (z.k + 1) pr 1 1 0 0 (by rw [L.r]; exact h2) (by rw [L.r]; exact h3) (by rw [L.r]; exact h4) (by rw [L.r]; exact h5) (by decide) (by rw [hPS]; decide) (by rw [hPS]; decide) (.inl rfl) (.inl rfl) (by rw [F.T]; exact f1) (by rw [F.T, f2]; rfl) (by decide) (F.un _ (by omega)) (by rw [F.T]; exact f3) h1 h32 (F.L0 _ i16 hno) (F.R.out i16 hno) (F.R.lk_tl h32)
  refine (V W S N hW).mono ?_
  rintro e w' ⟨S', rfl, ⟨b, c, hS⟩, k1, f1'⟩
  refine ⟨S', rfl, ⟨_, hS, ?_⟩, k1, f1'⟩
  have F1 : ∀ q b', put (put z.th (z.k + 1) (some (fresh pr))) p (some (ans a (((z.k + 1 : Nat) : Int) + 16 * 1))) q = some b' → ∃ t', (x.created B p t a.pc (z.k + 1) pr 1 1 0 (decide ((0 : Int) = 0)) b c).th q = some t' ∧ Like q t' b' := by
    intro q b' hq
    rw [Pl.created_th]
    by_cases e : q = p
    · subst e
      rw [put_self] at hq
      cases hq
      exact ⟨_, put_self _ _ _, L.ans _⟩
    · rw [put_ne _ _ e] at hq
      rw [put_ne _ _ e]
      by_cases e2 : q = z.k + 1
      · subst e2
        rw [put_self] at hq
        cases hq
        refine ⟨_, put_self _ _ _, ⟨rfl, rfl, rfl, rfl, rfl, rfl, ?_, rfl, by show (-1 : Int) < 0; decide, rfl⟩⟩
        show ((z.k + 1 : Nat) : Int) + 16 * 1 = ((z.k + 1 : Nat) : Int) + 16
        omega
      · rw [put_ne _ _ e2] at hq
        rw [put_ne _ _ e2, put_ne _ _ e]
        exact F.th q b' hq
  refine ⟨?_, F.R.tail h1 h32 i16 hno, ?_, ?_, ?_, ?_, ?_, ?_, ?_, ?_, F.notes, F1, ?_, F.E, by show z.k + 1 ≤ 7; omega⟩
  · show x.T.set (z.k + 1) (true, 1) = robT (z.k + 1); rw [F.T]; rfl
  · show (x.L.set (z.k + 1) _).length = 16; rw [List.length_set]; exact F.Ll
  · intro v hv
    show ((x.L.set (z.k + 1) _).getD v.1 Hs.no).isIn = true ∧ ((x.L.set (z.k + 1) _).getD v.1 Hs.no).pr = _
    rw [hs_set _ _ _ _ (by rw [F.Ll]; exact i16)]
    rcases insQ_mem.1 hv with rfl | hv
    · rw [if_pos rfl]
      exact ⟨rfl, rfl⟩
    · rw [if_neg (hno v hv)]
      exact F.L1 v hv
  · intro q hq hn2
    show ((x.L.set (z.k + 1) _).getD q Hs.no).isIn = false
    have e : q ≠ z.k + 1 := fun e => hn2 (z.k + 1, pr) (insQ_mem.2 (.inl rfl)) e.symm
    rw [hs_set _ _ _ _ (by rw [F.Ll]; exact i16), if_neg e]
    exact F.L0 q hq fun v hv => hn2 v (insQ_mem.2 (.inr hv))
  · show 0 ≤ x.st + 5; omega
  · show x.st + 5 ≤ 10 * ((z.c + 1 : Nat) : Int) + 10; omega
  · show x.ln + 1 ≤ z.c + 1; omega
  · show x.an + 1 ≤ 2 * (z.c + 1); omega
  · show x.notes.length ≤ z.c + 1; omega
  · intro q hq
    have hq : z.k + 1 < q := hq
    rw [Pl.created_th, put_ne _ _ (by omega), put_ne _ _ (by omega), put_ne _ _ (by omega)]
    exact F.un q (by omega)
end Wk
end Go.Proofs.YtagmlijhgncklaaGreatDoor.Ker
namespace Go.Proofs.YtagmlijhgncklaaGreatDoor.Ker
namespace Wk
open Go.RowKit Go.Proofs.YtagmlijhgncklaaGreatDoor Go.Proofs.YtagmlijhgncklaaGreatDoor.Code
open Go.Proofs.YtagmlijhgncklaaGreatDoor.Vq (RepL insQ preQ insQ_mem preQ_mem)

def iSet (d : Nat) (x : Int) : Ins := ⟨1, d, 0, 0, x⟩
def iCall (k : Int) : Ins := ⟨7, 0, 0, 0, k⟩
def wHead : List Ins := [iSet 2 0, iCall 25]
def wMake (p : Nat) : List Ins := [iSet 2 1, iSet 3 p, iSet 4 0, iSet 5 0, iCall 1]
def wMid : List Ins := [iSet 2 16, iSet 3 1, iCall 7, iCall 6]
def wPost : List Ins := [iSet 2 16, iCall 30]
def otherW : List Ins := [iSet 2 16, iCall 27, iCall 5, ⟨8, 0, 0, 0, 0⟩]
def makesL (f : Nat → Nat) : Nat → List Ins
  | 0 => []
  | n + 1 => makesL f n ++ wMake (f n)
def postsL : Nat → List Ins
  | 0 => []
  | n + 1 => postsL n ++ wPost
def mainW (f : Nat → Nat) (n : Nat) : List Ins := wHead ++ (makesL f n ++ (wMid ++ postsL n))
theorem makesL_len (f : Nat → Nat) (n : Nat) : (makesL f n).length = 5 * n := by
  induction n with
  | zero => rfl
  | succ n ih =>
    rw [makesL, List.length_append, ih]
    show 5 * n + 5 = _
    omega
theorem postsL_len (n : Nat) : (postsL n).length = 2 * n := by
  induction n with
  | zero => rfl
  | succ n ih =>
    rw [postsL, List.length_append, ih]
    show 2 * n + 2 = _
    omega
theorem mainW_len (f : Nat → Nat) (n : Nat) : (mainW f n).length = 7 * n + 6 := by
  rw [mainW, List.length_append, List.length_append, List.length_append, makesL_len, postsL_len]
  show 2 + (5 * n + (4 + 2 * n)) = _
  omega
theorem makesL_get (f : Nat → Nat) : ∀ n j r, j < n → r < 5 → (makesL f n)[5 * j + r]? = (wMake (f j))[r]?
  | 0, j, _, h, _ => absurd h (by omega)
  | n + 1, j, r, h, hr => by
    rw [makesL]
    by_cases e : j = n
    · subst e
      rw [List.getElem?_append_right (by rw [makesL_len]; omega), makesL_len, Nat.add_sub_cancel_left]
    · rw [List.getElem?_append_left (by rw [makesL_len]; omega)]
      exact makesL_get f n j r (by omega) hr
theorem postsL_get : ∀ n j r, j < n → r < 2 → (postsL n)[2 * j + r]? = wPost[r]?
  | 0, j, _, h, _ => absurd h (by omega)
  | n + 1, j, r, h, hr => by
    rw [postsL]
    by_cases e : j = n
    · subst e
      rw [List.getElem?_append_right (by rw [postsL_len]; omega), postsL_len, Nat.add_sub_cancel_left]
    · rw [List.getElem?_append_left (by rw [postsL_len]; omega)]
      exact postsL_get n j r (by omega) hr
theorem main_make (f : Nat → Nat) (n j r : Nat) (h : j < n) (hr : r < 5) : (mainW f n)[5 * j + 2 + r]? = (wMake (f j))[r]? := by
  rw [mainW, List.getElem?_append_right (by show 2 ≤ _; omega), show 5 * j + 2 + r - wHead.length = 5 * j + r by show 5 * j + 2 + r - 2 = _; omega, List.getElem?_append_left (by rw [makesL_len]; omega)]
  exact makesL_get f n j r h hr
theorem main_mid (f : Nat → Nat) (n r : Nat) (hr : r < 4) : (mainW f n)[5 * n + 2 + r]? = wMid[r]? := by
  rw [mainW, List.getElem?_append_right (by show 2 ≤ _; omega), show 5 * n + 2 + r - wHead.length = 5 * n + r by show 5 * n + 2 + r - 2 = _; omega, List.getElem?_append_right (by rw [makesL_len]; omega), makesL_len, Nat.add_sub_cancel_left, List.getElem?_append_left (by show r < 4; omega)]
theorem main_post (f : Nat → Nat) (n j r : Nat) (h : j < n) (hr : r < 2) : (mainW f n)[5 * n + 6 + 2 * j + r]? = wPost[r]? := by
  rw [mainW, List.getElem?_append_right (by show 2 ≤ _; omega), show 5 * n + 6 + 2 * j + r - wHead.length = 5 * n + 4 + 2 * j + r by show 5 * n + 6 + 2 * j + r - 2 = _; omega, List.getElem?_append_right (by rw [makesL_len]; omega), makesL_len, show 5 * n + 4 + 2 * j + r - 5 * n = 4 + (2 * j + r) by omega, List.getElem?_append_right (by show 4 ≤ _; omega), show 4 + (2 * j + r) - wMid.length = 2 * j + r by show 4 + (2 * j + r) - 4 = _; omega]
  exact postsL_get n j r h hr
/-- The job's kernel. -/
structure WB (B : KB) (f : Nat → Nat) (n : Nat) : Prop where
  n8 : B.n = 8
  PS : ∃ m y, B.J.PS = [m, y] ∧ m.L = mainW f n ∧ y.L = otherW
  n1 : 1 ≤ n
  n7 : n ≤ 7
  f : ∀ i, i < n → 1 ≤ f i ∧ f i ≤ 30
theorem WB.len {B : KB} {f : Nat → Nat} {n : Nat} (A : WB B f n) : B.J.PS.length = 2 := by
  obtain ⟨m, y, h, _⟩ := A.PS
  rw [h]
  rfl
theorem WB.at0 {B : KB} {f : Nat → Nat} {n : Nat} (A : WB B f n) {pc : Nat} {i : Ins} (h : (mainW f n)[pc]? = some i) : At B 0 pc i := by
  obtain ⟨m, y, h1, h2, h3⟩ := A.PS
  exact ⟨m, by rw [h1]; rfl, by rw [h2]; exact h⟩
theorem WB.at1 {B : KB} {f : Nat → Nat} {n : Nat} (A : WB B f n) {pc : Nat} {i : Ins} (h : otherW[pc]? = some i) : At B 1 pc i := by
  obtain ⟨m, y, h1, h2, h3⟩ := A.PS
  exact ⟨y, by rw [h1]; rfl, by rw [h3]; exact h⟩
/-- The threads in the order of turns. -/
def ord (f : Nat → Nat) : Nat → List (Nat × Nat)
  | 0 => []
  | n + 1 => insQ (ord f n) (n + 1, f n)
theorem ord_mem (f : Nat → Nat) : ∀ n y, y ∈ ord f n → 1 ≤ y.1 ∧ y.1 ≤ n ∧ y.2 = f (y.1 - 1)
  | 0, y, h => by cases h
  | n + 1, y, h => by
    rcases insQ_mem.1 h with rfl | h
    · exact ⟨by show 1 ≤ n + 1; omega, Nat.le_refl _, rfl⟩
    · obtain ⟨h1, h2, h3⟩ := ord_mem f n y h
      exact ⟨h1, by omega, h3⟩
theorem ord_len (f : Nat → Nat) (n : Nat) : (ord f n).length = n := by
  induction n with
  | zero => rfl
  | succ n ih => rw [ord, Vq.insQ_len, ih]
/-- Ahead in the order: a greater priority, or the same one, and made before. -/
def Ahead (a b : Nat × Nat) : Prop := b.2 < a.2 ∨ (a.2 = b.2 ∧ a.1 < b.1)
theorem insQ_pairs {l : List (Nat × Nat)} {x : Nat × Nat} (h : l.Pairwise Ahead) (hx : ∀ y ∈ l, y.1 < x.1) : (insQ l x).Pairwise Ahead := by
  induction l with
  | nil => exact List.pairwise_singleton _ _
  | cons y l ih =>
    obtain ⟨h1, h2⟩ := List.pairwise_cons.1 h
    rw [insQ]
    split
    · rename_i hle
      refine List.pairwise_cons.2 ⟨fun z hz => ?_, ih h2 fun u hu => hx u (by simp [hu])⟩
      rcases insQ_mem.1 hz with rfl | hz
      · have := hx y (by simp)
        unfold Ahead
        omega
      · exact h1 z hz
    · rename_i hle
      refine List.pairwise_cons.2 ⟨fun z hz => ?_, h⟩
      rcases List.mem_cons.1 hz with rfl | hz
      · unfold Ahead; omega
      · have := h1 z hz
        unfold Ahead at this ⊢
        omega
theorem ord_pairs (f : Nat → Nat) (n : Nat) : (ord f n).Pairwise Ahead := by
  induction n with
  | zero => exact List.Pairwise.nil
  | succ n ih => exact insQ_pairs ih fun y hy => by have := (ord_mem f n y hy).2.1; show y.1 < n + 1; omega
theorem insQ_nodup {l : List (Nat × Nat)} {x : Nat × Nat} (h : (l.map (·.1)).Nodup) (hx : ∀ y ∈ l, y.1 ≠ x.1) : ((insQ l x).map (·.1)).Nodup := by
  induction l with
  | nil => simp [insQ]
  | cons y l ih =>
    obtain ⟨h1, h2⟩ := List.nodup_cons.1 h
    rw [insQ]
    split
    · refine List.nodup_cons.2 ⟨fun hm => ?_, ih h2 fun u hu => hx u (by simp [hu])⟩
      obtain ⟨z, hz, e⟩ := List.mem_map.1 hm
      rcases insQ_mem.1 hz with rfl | hz
      · exact hx y (by simp) e.symm
      · exact h1 (List.mem_map.2 ⟨z, hz, e⟩)
    · refine List.nodup_cons.2 ⟨fun hm => ?_, h⟩
      obtain ⟨z, hz, e⟩ := List.mem_map.1 hm
      exact hx z hz e
theorem ord_nodup (f : Nat → Nat) (n : Nat) : ((ord f n).map (·.1)).Nodup := by
  induction n with
  | zero => exact List.nodup_nil
  | succ n ih => exact insQ_nodup ih fun y hy => by have := (ord_mem f n y hy).2.1; show y.1 ≠ n + 1; omega
theorem insQ_last {l : List (Nat × Nat)} {x : Nat × Nat} (h : ∀ y ∈ l, x.2 ≤ y.2) : insQ l x = l ++ [x] := by
  induction l with
  | nil => rfl
  | cons y l ih =>
    rw [insQ, if_pos (h y (by simp)), ih fun u hu => h u (by simp [hu])]
    rfl
theorem preQ_split {l : List (Nat × Nat)} (h : l.Pairwise Ahead) (h1 : ∀ y ∈ l, 1 ≤ y.2) : ∃ Hi Lo, l = Hi ++ Lo ∧ preQ l (0, 1) = Hi ++ (0, 1) :: Lo ∧ (∀ y ∈ Hi, 1 < y.2) ∧ ∀ y ∈ Lo, y.2 = 1 := by
  induction l with
  | nil => exact ⟨[], [], rfl, rfl, fun _ h => (by cases h), fun _ h => (by cases h)⟩
  | cons y l ih =>
    obtain ⟨p1, p2⟩ := List.pairwise_cons.1 h
    by_cases e : 1 < y.2
    · obtain ⟨Hi, Lo, e1, e2, e3, e4⟩ := ih p2 fun u hu => h1 u (by simp [hu])
      refine ⟨y :: Hi, Lo, by rw [e1]; rfl, ?_, fun u hu => ?_, e4⟩
      · rw [preQ, if_pos e, e2]
        rfl
      · rcases List.mem_cons.1 hu with rfl | hu
        · exact e
        · exact e3 u hu
    · have hy := h1 y (by simp)
      refine ⟨[], y :: l, rfl, ?_, fun _ h => (by cases h), fun u hu => ?_⟩
      · rw [preQ, if_neg e]
        rfl
      · rcases List.mem_cons.1 hu with rfl | hu
        · omega
        · have h2 := p1 u hu
          have h3 := h1 u (by simp [hu])
          unfold Ahead at h2
          omega
/-- k runs lead from z to what P says. -/
def Leads (B : KB) (z : Z) (k : Nat) (P : Z → Prop) : Prop := ∃ z', Steps B k (Is B z) (Is B z') ∧ P z'
theorem Leads.refl {B : KB} {z : Z} {P : Z → Prop} (h : P z) : Leads B z 0 P := ⟨z, Steps.refl B _, h⟩
theorem Leads.cons {B : KB} {z z1 : Z} {k : Nat} {P : Z → Prop} (h : DoesTo B evRun (Is B z) (Is B z1)) (t : Leads B z1 k P) : Leads B z (k + 1) P := by
  obtain ⟨z', s, p⟩ := t
  exact ⟨z', Steps.cons h s, p⟩
theorem Leads.trans {B : KB} {z : Z} {k l : Nat} {P Q : Z → Prop} (h : Leads B z k P) (t : ∀ z1, P z1 → Leads B z1 l Q) : Leads B z (l + k) Q := by
  obtain ⟨z1, s, p⟩ := h
  obtain ⟨z2, s2, q⟩ := t z1 p
  exact ⟨z2, s.trans s2, q⟩
/-- Main has made j threads. -/
structure M1 (f : Nat → Nat) (j : Nat) (z : Z) : Prop where
  Q : z.Q = (0, 31) :: ord f j
  m : ∃ a, z.th 0 = some a ∧ a.prog = 0 ∧ a.pc = 5 * j + 2 ∧ a.wt = false
  fr : ∀ y ∈ ord f j, z.th y.1 = some (fresh y.2)
  E : z.E = []
  last : z.last = 0
  notes : z.notes = []
  k : z.k = j
  c : z.c = 5 * j + 2
theorem m1_next {B : KB} {f : Nat → Nat} {n : Nat} (A : WB B f n) {j : Nat} (hj : j < n) {z : Z} (M : M1 f j z) : Leads B z 5 (M1 f (j + 1)) := by
  obtain ⟨Q, ⟨a, ha, hp, hpc, hw⟩, fr, hE, hl, hno, hk, hc⟩ := M
  have n7 := A.n7
  have hf := A.f j hj
  have g : ∀ r, r < 5 → ∀ i, (wMake (f j))[r]? = some i → ∀ b : Ath, b.prog = 0 → b.pc = 5 * j + 2 + r → At B b.prog b.pc i := fun r hr i hi b b1 b2 => by
    rw [b1, b2]
    exact A.at0 (by rw [main_make f n j r hj hr]; exact hi)
  refine Leads.cons (z_set A.n8 (by omega) Q ha (d := 2) (v := 1) (by decide) (by omega) (g 0 (by decide) _ rfl a hp hpc)) ?_
  refine Leads.cons (z_set A.n8 (by show z.c + 1 ≤ 1000; omega) (p := 0) (pr := 31) (Q := ord f j) (by exact Q) (a := setR a 2 1) (by simp only [put_self]) (d := 3) (v := f j) (by decide) (by show a.pc + 1 ≤ 900; omega) (g 1 (by decide) _ rfl (setR a 2 1) hp (by show a.pc + 1 = _; omega))) ?_
  refine Leads.cons (z_set A.n8 (by show z.c + 1 + 1 ≤ 1000; omega) (p := 0) (pr := 31) (Q := ord f j) (by exact Q) (a := setR (setR a 2 1) 3 (f j)) (by simp only [put_self]) (d := 4) (v := 0) (by decide) (by show a.pc + 1 + 1 ≤ 900; omega) (g 2 (by decide) _ rfl (setR (setR a 2 1) 3 (f j)) hp (by show a.pc + 1 + 1 = _; omega))) ?_
  refine Leads.cons (z_set A.n8 (by show z.c + 1 + 1 + 1 ≤ 1000; omega) (p := 0) (pr := 31) (Q := ord f j) (by exact Q) (a := setR (setR (setR a 2 1) 3 (f j)) 4 0) (by simp only [put_self]) (d := 5) (v := 0) (by decide) (by show a.pc + 1 + 1 + 1 ≤ 900; omega) (g 3 (by decide) _ rfl (setR (setR (setR a 2 1) 3 (f j)) 4 0) hp (by show a.pc + 1 + 1 + 1 = _; omega))) ?_
  refine Leads.cons (z_create A.n8 A.len (by show z.c + 1 + 1 + 1 + 1 ≤ 1000; omega) (p := 0) (pr0 := 31) (Q := ord f j) (by exact Q) (a := setR (setR (setR (setR a 2 1) 3 (f j)) 4 0) 5 0) (by simp only [put_self]) (by show a.pc + 1 + 1 + 1 + 1 ≤ 900; omega) (g 4 (by decide) _ rfl (setR (setR (setR (setR a 2 1) 3 (f j)) 4 0) 5 0) hp (by show a.pc + 1 + 1 + 1 + 1 = _; omega)) (pr := f j) rfl rfl rfl rfl hf.1 (by omega) (by show z.k < 7; omega) ?_) (Leads.refl ?_)
  · intro u hu
    have hu : u ∈ z.Q := hu
    show u.1 ≤ z.k
    rw [Q] at hu
    rcases List.mem_cons.1 hu with rfl | hu
    · exact Nat.zero_le _
    · have := (ord_mem f j u hu).2.1; omega
  · refine ⟨?_, ⟨ans (setR (setR (setR (setR a 2 1) 3 (f j)) 4 0) 5 0) (((z.k + 1 : Nat) : Int) + 16 * 1), by simp only [put_self], hp, ?_, hw⟩, ?_, hE, hl, hno, ?_, ?_⟩
    · show insQ z.Q (z.k + 1, f j) = _
      rw [Q, hk, insQ, if_pos (by show f j ≤ 31; omega)]
      rfl
    · show a.pc + 1 + 1 + 1 + 1 + 1 = 5 * (j + 1) + 2
      omega
    · intro y hy
      show put (put (put (put (put (put z.th 0 _) 0 _) 0 _) 0 _) (z.k + 1) (some (fresh (f j)))) 0 _ y.1 = _
      rcases insQ_mem.1 hy with rfl | hy
      · rw [put_ne _ _ (by show j + 1 ≠ 0; omega), hk]
        exact put_self _ _ _
      · obtain ⟨y1, y2, _⟩ := ord_mem f j y hy
        rw [put_ne _ _ (by omega), put_ne _ _ (by omega), put_ne _ _ (by omega), put_ne _ _ (by omega), put_ne _ _ (by omega), put_ne _ _ (by omega)]
        exact fr y hy
    · show z.k + 1 = j + 1
      omega
    · show z.c + 1 + 1 + 1 + 1 + 1 = 5 * (j + 1) + 2
      omega
theorem m1_all {B : KB} {f : Nat → Nat} {n : Nat} (A : WB B f n) {z : Z} (M : M1 f 0 z) : ∀ j, j ≤ n → Leads B z (5 * j) (M1 f j)
  | 0, _ => Leads.refl M
  | j + 1, h => by
    have q := (m1_all A M j (by omega)).trans fun z1 M1 => m1_next A (by omega) M1
    rw [show 5 * (j + 1) = 5 + 5 * j by omega]
    exact q
end Wk
end Go.Proofs.YtagmlijhgncklaaGreatDoor.Ker
namespace Go.Proofs.YtagmlijhgncklaaGreatDoor.Ker
namespace Wk
open Go.RowKit Go.Proofs.YtagmlijhgncklaaGreatDoor Go.Proofs.YtagmlijhgncklaaGreatDoor.Code
open Go.Proofs.YtagmlijhgncklaaGreatDoor.Vq (RepL insQ preQ insQ_mem preQ_mem)

/-- What the next state is. -/
structure Nx (z z1 : Z) (Q : List (Nat × Nat)) (th : Nat → Option Ath) (E : WEs) (last : Int) (notes : List Int) : Prop where
  Q : z1.Q = Q
  th : z1.th = th
  E : z1.E = E
  last : z1.last = last
  notes : z1.notes = notes
  c : z1.c = z.c + 1
theorem l_set {B : KB} {z : Z} {m : Nat} {P : Z → Prop} (hn : B.n = 8) (hc : z.c ≤ 1000) {p pr : Nat} {Q : List (Nat × Nat)} (hQ : z.Q = (p, pr) :: Q) {a : Ath} (ha : z.th p = some a) {d : Nat} {v : Int} (hd : d < 8) (hk : a.pc ≤ 900) (hA : At B a.prog a.pc (iSet d v))
    (t : ∀ z1, Nx z z1 z.Q (put z.th p (some (setR a d v))) z.E z.last z.notes → Leads B z1 m P) : Leads B z (m + 1) P :=
  Leads.cons (z_set hn hc hQ ha hd hk hA) (t _ ⟨rfl, rfl, rfl, rfl, rfl, rfl⟩)
theorem l_self {B : KB} {z : Z} {m : Nat} {P : Z → Prop} (hn : B.n = 8) (hc : z.c ≤ 1000) {p pr : Nat} {Q : List (Nat × Nat)} (hQ : z.Q = (p, pr) :: Q) {a : Ath} (ha : z.th p = some a) (hk : a.pc ≤ 900) (hA : At B a.prog a.pc (iCall 5))
    (t : ∀ z1, Nx z z1 z.Q (put z.th p (some (ans a ((p : Int) + 16)))) z.E z.last z.notes → Leads B z1 m P) : Leads B z (m + 1) P :=
  Leads.cons (z_self hn hc hQ ha hk hA) (t _ ⟨rfl, rfl, rfl, rfl, rfl, rfl⟩)
theorem l_note {B : KB} {z : Z} {m : Nat} {P : Z → Prop} (hn : B.n = 8) (hc : z.c ≤ 1000) {p pr : Nat} {Q : List (Nat × Nat)} (hQ : z.Q = (p, pr) :: Q) {a : Ath} (ha : z.th p = some a) (hk : a.pc ≤ 900) (hA : At B a.prog a.pc ⟨8, 0, 0, 0, 0⟩)
    (t : ∀ z1, Nx z z1 z.Q (put z.th p (some { a with pc := a.pc + 1 })) z.E z.last (z.notes ++ [(p : Int)]) → Leads B z1 m P) : Leads B z (m + 1) P :=
  Leads.cons (z_note hn hc hQ ha hk hA) (t _ ⟨rfl, rfl, rfl, rfl, rfl, rfl⟩)
theorem l_past {B : KB} {z : Z} {m : Nat} {P : Z → Prop} (hn : B.n = 8) (hc : z.c ≤ 1000) {p pr : Nat} {Q : List (Nat × Nat)} (hQ : z.Q = (p, pr) :: Q) {a : Ath} (ha : z.th p = some a) {y : Prg} (hy : B.J.PS[a.prog]? = some y) (hl : a.pc = y.L.length)
    (t : ∀ z1, Nx z z1 Q (put z.th p none) z.E z.last z.notes → Leads B z1 m P) : Leads B z (m + 1) P :=
  Leads.cons (z_past hn hc hQ ha hy hl) (t _ ⟨rfl, rfl, rfl, rfl, rfl, rfl⟩)
theorem l_yield {B : KB} {z : Z} {m : Nat} {P : Z → Prop} (hn : B.n = 8) (hc : z.c ≤ 1000) {p pr : Nat} {Q : List (Nat × Nat)} (hQ : z.Q = (p, pr) :: Q) {a : Ath} (ha : z.th p = some a) (hk : a.pc ≤ 900) (hA : At B a.prog a.pc (iCall 6))
    (t : ∀ z1, Nx z z1 (insQ Q (p, pr)) (put z.th p (some (ans a 0))) z.E z.last z.notes → Leads B z1 m P) : Leads B z (m + 1) P :=
  Leads.cons (z_yield hn hc hQ ha hk hA) (t _ ⟨rfl, rfl, rfl, rfl, rfl, rfl⟩)
theorem l_prio {B : KB} {z : Z} {m : Nat} {P : Z → Prop} (hn : B.n = 8) (hc : z.c ≤ 1000) {pr v : Nat} {Q : List (Nat × Nat)} (hQ : z.Q = (0, pr) :: Q) {a : Ath} (ha : z.th 0 = some a) (hwt : a.wt = false) (hk : a.pc ≤ 900) (hA : At B a.prog a.pc (iCall 7)) (h2 : a.r 2 = 16) (h3 : a.r 3 = v) (v1 : 1 ≤ v) (vlt : v < pr)
    (t : ∀ z1, Nx z z1 (preQ Q (0, v)) (put z.th 0 (some { ans a 0 with pr := v })) z.E z.last z.notes → Leads B z1 m P) : Leads B z (m + 1) P :=
  Leads.cons (z_prio hn hc hQ ha hwt hk hA h2 h3 v1 vlt) (t _ ⟨rfl, rfl, rfl, rfl, rfl, rfl⟩)
theorem l_wait {B : KB} {z : Z} {m : Nat} {P : Z → Prop} (hn : B.n = 8) (hc : z.c ≤ 1000) {p pr : Nat} {Q : List (Nat × Nat)} (hQ : z.Q = (p, pr) :: Q) {a : Ath} (ha : z.th p = some a) (hk : a.pc ≤ 900) (hA : At B a.prog a.pc (iCall 27)) (h2 : a.r 2 = 16) (hpr : a.pr = pr)
    (hE : ∀ y ∈ z.E, y.1 ≠ p ∧ (pr : Int) ≤ y.2.1) (hl : z.last ≤ 90000) (h11 : z.E.length ≤ 11)
    (t : ∀ z1, Nx z z1 Q (put z.th p (some { a with pc := a.pc + 1, wt := true })) (z.E ++ [(p, (pr : Int), z.last + 1 + 1)]) (z.last + 1 + 1) z.notes → Leads B z1 m P) : Leads B z (m + 1) P :=
  Leads.cons (z_wait hn hc hQ ha hk hA h2 hpr hE hl h11) (t _ ⟨rfl, rfl, rfl, rfl, rfl, rfl⟩)
theorem l_post {B : KB} {z : Z} {m : Nat} {P : Z → Prop} (hn : B.n = 8) (hc : z.c ≤ 1000) {r pr0 : Nat} {Q : List (Nat × Nat)} (hQ : z.Q = (r, pr0) :: Q) {a : Ath} (ha : z.th r = some a) (hk : a.pc ≤ 900) (hA : At B a.prog a.pc (iCall 30)) (h2 : a.r 2 = 16)
    {p pr : Nat} {c : Int} {E : WEs} (hE : z.E = (p, (pr : Int), c) :: E) {b : Ath} (hb : z.th p = some b) (hw : b.wt = true) (hp : b.pr = pr) (h1 : 1 ≤ pr) (h32 : pr < 32) (hno : ∀ u ∈ z.Q, u.1 ≠ p)
    (t : ∀ z1, Nx z z1 (insQ z.Q (p, pr)) (put (put z.th p (some { b with wt := false, r := put (put b.r 0 0) 1 0 })) r (some (ans a 0))) E z.last z.notes → Leads B z1 m P) : Leads B z (m + 1) P :=
  Leads.cons (z_post hn hc hQ ha hk hA h2 hE hb hw hp h1 h32 hno) (t _ ⟨rfl, rfl, rfl, rfl, rfl, rfl⟩)
theorem l_nobody {B : KB} {z : Z} {m : Nat} {P : Z → Prop} (hc : z.c ≤ 1000) (hQ : z.Q = []) (t : ∀ z1, Nx z z1 z.Q z.th z.E z.last z.notes → Leads B z1 m P) : Leads B z (m + 1) P :=
  Leads.cons (z_nobody hc hQ) (t _ ⟨rfl, rfl, rfl, rfl, rfl, rfl⟩)
/-- Main is at an instruction. -/
def Mn (z : Z) (pc : Nat) : Prop := ∃ a, z.th 0 = some a ∧ a.prog = 0 ∧ a.pc = pc ∧ a.wt = false
theorem Mn.same {z z1 : Z} {pc : Nat} (h : Mn z pc) (e : z1.th 0 = z.th 0) : Mn z1 pc := by
  obtain ⟨a, h1, h2⟩ := h
  exact ⟨a, e.trans h1, h2⟩
/-- One that waits. -/
structure Wtg (a : Ath) (pr : Nat) : Prop where
  prog : a.prog = 1
  pc : a.pc = 2
  wt : a.wt = true
  pr : a.pr = pr
/-- One that was woken. -/
structure Wkn (a : Ath) (pr : Nat) : Prop where
  prog : a.prog = 1
  pc : a.pc = 2
  wt : a.wt = false
  pr : a.pr = pr
/-- All of the threads. -/
structure OO (O : List (Nat × Nat)) : Prop where
  nd : (O.map (·.1)).Nodup
  pos : ∀ y ∈ O, 1 ≤ y.1
  ah : O.Pairwise Ahead
  b : ∀ y ∈ O, 1 ≤ y.2 ∧ y.2 ≤ 30
  len : O.length ≤ 7
theorem OO.mid {A C : List (Nat × Nat)} {x : Nat × Nat} (h : OO (A ++ x :: C)) : (∀ y ∈ A, y.1 ≠ x.1 ∧ x.2 ≤ y.2) ∧ ∀ y ∈ C, y.1 ≠ x.1 := by
  have nd := h.nd
  rw [List.map_append, List.map_cons] at nd
  obtain ⟨n1, n2, n3⟩ := List.nodup_append.1 nd
  obtain ⟨p1, p2, p3⟩ := List.pairwise_append.1 h.ah
  refine ⟨fun y hy => ⟨n3 y.1 (List.mem_map.2 ⟨y, hy, rfl⟩) x.1 (by simp), ?_⟩, fun y hy e => ?_⟩
  · have := p3 y hy x (by simp)
    unfold Ahead at this
    omega
  · exact (List.nodup_cons.1 n2).1 (List.mem_map.2 ⟨y, hy, e⟩)
/-- Those of A wait, those of C have not begun. -/
structure PhB (A C : List (Nat × Nat)) (cc : Nat) (z : Z) : Prop where
  fr : ∀ y ∈ C, z.th y.1 = some (fresh y.2)
  we : ∀ y ∈ A, ∃ a, z.th y.1 = some a ∧ Wtg a y.2
  E : z.E.map (fun e => (e.1, e.2.1)) = A.map (fun y => (y.1, (y.2 : Int)))
  last : z.last = 2 * (A.length : Int)
  notes : z.notes = []
  c : z.c = cc
theorem e_of {E : WEs} {A : List (Nat × Nat)} (h : E.map (fun e => (e.1, e.2.1)) = A.map (fun y => (y.1, (y.2 : Int)))) {e : Wt.En} (he : e ∈ E) : ∃ y ∈ A, y.1 = e.1 ∧ (y.2 : Int) = e.2.1 := by
  have hm : (e.1, e.2.1) ∈ E.map (fun e => (e.1, e.2.1)) := List.mem_map.2 ⟨e, he, rfl⟩
  rw [h] at hm
  obtain ⟨y, hy, q⟩ := List.mem_map.1 hm
  exact ⟨y, hy, congrArg Prod.fst q, congrArg Prod.snd q⟩
theorem block_one {B : KB} {f : Nat → Nat} {n : Nat} (W : WB B f n) {A C Q : List (Nat × Nat)} {t p cc : Nat} {z : Z} (O : OO (A ++ (t, p) :: C)) (H : PhB A ((t, p) :: C) cc z) (hcc : cc ≤ 900) (hQ : z.Q = (t, p) :: Q) :
    Leads B z 2 (fun z' => PhB (A ++ [(t, p)]) C (cc + 2) z' ∧ z'.Q = Q ∧ z'.th 0 = z.th 0) := by
  obtain ⟨mA, mC⟩ := O.mid
  have hlen := O.len
  have t0 := O.pos (t, p) (by simp)
  have t0 : 1 ≤ t := t0
  rw [List.length_append] at hlen
  have hc := H.c
  have hel : z.E.length = A.length := by
    have := congrArg List.length H.E
    simpa using this
  refine l_set W.n8 (by omega) hQ (H.fr (t, p) (by simp)) (d := 2) (v := 16) (by decide) (by show 0 ≤ 900; decide) (W.at1 (pc := 0) rfl) fun z1 N1 => ?_
  refine l_wait (a := setR (fresh p) 2 16) (p := t) (pr := p) (Q := Q) W.n8 (by rw [N1.c]; omega) (by rw [N1.Q]; exact hQ) (by rw [N1.th]; exact put_self _ _ _) (by show 0 + 1 ≤ 900; decide) (W.at1 (pc := 1) rfl) rfl rfl ?_ (by rw [N1.last, H.last]; omega) (by rw [N1.E, hel]; omega) fun z2 N2 => Leads.refl ?_
  · intro e he
    rw [N1.E] at he
    obtain ⟨y, hy, q1, q2⟩ := e_of H.E he
    obtain ⟨m1, m2⟩ := mA y hy
    exact ⟨fun q => m1 (q1.trans q), by show (p : Int) ≤ e.2.1; have m2 : p ≤ y.2 := m2; omega⟩
  · have oth : ∀ q, q ≠ t → z2.th q = z.th q := fun q hq => by rw [N2.th, put_ne _ _ hq, N1.th, put_ne _ _ hq]
    refine ⟨⟨fun y hy => ?_, fun y hy => ?_, ?_, ?_, ?_, ?_⟩, N2.Q, oth 0 (by omega)⟩
    · rw [oth y.1 (mC y hy)]
      exact H.fr y (by simp [hy])
    · rcases List.mem_append.1 hy with hy | hy
      · rw [oth y.1 (mA y hy).1]
        exact H.we y hy
      · obtain rfl : y = (t, p) := by simpa using hy
        exact ⟨{ setR (fresh p) 2 16 with pc := 2, wt := true }, by rw [N2.th]; exact put_self _ _ _, ⟨rfl, rfl, rfl, rfl⟩⟩
    · rw [N2.E, N1.E, List.map_append, List.map_append, H.E]
      rfl
    · rw [N2.last, N1.last, H.last, List.length_append]
      show 2 * (A.length : Int) + 1 + 1 = 2 * ((A.length + 1 : Nat) : Int)
      omega
    · rw [N2.notes, N1.notes, H.notes]
    · rw [N2.c, N1.c]; omega
theorem blocks {B : KB} {f : Nat → Nat} {n : Nat} (W : WB B f n) {Q C2 : List (Nat × Nat)} : ∀ (C1 A : List (Nat × Nat)) (cc : Nat) (z : Z), OO (A ++ (C1 ++ C2)) → PhB A (C1 ++ C2) cc z → cc + 2 * C1.length ≤ 900 → z.Q = C1 ++ Q →
    Leads B z (2 * C1.length) (fun z' => PhB (A ++ C1) C2 (cc + 2 * C1.length) z' ∧ z'.Q = Q ∧ z'.th 0 = z.th 0)
  | [], A, cc, z, O, H, hcc, hQ => Leads.refl ⟨by rw [List.append_nil]; exact H, hQ, rfl⟩
  | (t, p) :: C1, A, cc, z, O, H, hcc, hQ => by
    have hl : ((t, p) :: C1).length = C1.length + 1 := rfl
    rw [hl] at hcc ⊢
    have q := (block_one W O H (by omega) hQ).trans fun z1 ⟨H1, hQ1, h0⟩ =>
      (blocks W C1 (A ++ [(t, p)]) (cc + 2) z1 (by rw [List.append_assoc]; exact O) H1 (by omega) hQ1).trans fun z2 ⟨H2, hQ2, h02⟩ => (Leads.refl (P := fun z' => PhB (A ++ (t, p) :: C1) C2 (cc + 2 * (C1.length + 1)) z' ∧ z'.Q = Q ∧ z'.th 0 = z.th 0) ⟨by rw [show A ++ (t, p) :: C1 = A ++ [(t, p)] ++ C1 by simp, show cc + 2 * (C1.length + 1) = cc + 2 + 2 * C1.length by omega]; exact H2, hQ2, h02.trans h0⟩)
    have e : 0 + 2 * C1.length + 2 = 2 * (C1.length + 1) := by omega
    rw [e] at q
    exact q
theorem ord_oo {B : KB} {f : Nat → Nat} {n : Nat} (W : WB B f n) : OO (ord f n) :=
  ⟨ord_nodup f n, fun y hy => (ord_mem f n y hy).1, ord_pairs f n, fun y hy => by
    obtain ⟨h1, h2, h3⟩ := ord_mem f n y hy
    have := W.f (y.1 - 1) (by omega)
    omega, by rw [ord_len]; exact W.n7⟩
/-- Main takes priority 1. -/
theorem mid_prio {B : KB} {f : Nat → Nat} {n : Nat} (W : WB B f n) {z : Z} (M : M1 f n z) : Leads B z 3 (fun z' => PhB [] (ord f n) (5 * n + 5) z' ∧ z'.Q = preQ (ord f n) (0, 1) ∧ Mn z' (5 * n + 5)) := by
  obtain ⟨Q, ⟨a, ha, hp, hpc, hw⟩, fr, hE, hl, hno, hk, hc⟩ := M
  have n7 := W.n7
  have g : ∀ r, r < 4 → ∀ i, wMid[r]? = some i → ∀ b : Ath, b.prog = 0 → b.pc = 5 * n + 2 + r → At B b.prog b.pc i := fun r hr i hi b b1 b2 => by
    rw [b1, b2]
    exact W.at0 (by rw [main_mid f n r hr]; exact hi)
  refine l_set W.n8 (by omega) Q ha (d := 2) (v := 16) (by decide) (by omega) (g 0 (by decide) _ rfl a hp hpc) fun z1 N1 => ?_
  refine l_set (a := setR a 2 16) W.n8 (by rw [N1.c]; omega) (N1.Q.trans Q) (by rw [N1.th]; exact put_self _ _ _) (d := 3) (v := 1) (by decide) (by show a.pc + 1 ≤ 900; omega) (g 1 (by decide) _ rfl (setR a 2 16) hp (by show a.pc + 1 = _; omega)) fun z2 N2 => ?_
  refine l_prio (a := setR (setR a 2 16) 3 1) (v := 1) W.n8 (by rw [N2.c, N1.c]; omega) (N2.Q.trans (N1.Q.trans Q)) (by rw [N2.th]; exact put_self _ _ _) hw (by show a.pc + 1 + 1 ≤ 900; omega) (g 2 (by decide) _ rfl (setR (setR a 2 16) 3 1) hp (by show a.pc + 1 + 1 = _; omega)) rfl rfl (by decide) (by decide) fun z3 N3 => Leads.refl ?_
  refine ⟨⟨fun y hy => ?_, fun _ h => (by cases h), ?_, ?_, ?_, ?_⟩, N3.Q, ⟨{ ans (setR (setR a 2 16) 3 1) 0 with pr := 1 }, by rw [N3.th]; exact put_self _ _ _, hp, ?_, hw⟩⟩
  · have h0 : y.1 ≠ 0 := by have := (ord_mem f n y hy).1; omega
    rw [N3.th, put_ne _ _ h0, N2.th, put_ne _ _ h0, N1.th, put_ne _ _ h0]
    exact fr y hy
  · rw [N3.E, N2.E, N1.E, hE]; rfl
  · rw [N3.last, N2.last, N1.last, hl]; rfl
  · rw [N3.notes, N2.notes, N1.notes, hno]
  · rw [N3.c, N2.c, N1.c]; omega
  · show a.pc + 1 + 1 + 1 = 5 * n + 5
    omega
theorem mid_yield {B : KB} {f : Nat → Nat} {n : Nat} (W : WB B f n) {z : Z} {A C : List (Nat × Nat)} {cc : Nat} (O : OO (A ++ C)) (H : PhB A C cc z) (M : Mn z (5 * n + 5)) (hcc : cc ≤ 900) (hQ : z.Q = (0, 1) :: C) (h1 : ∀ y ∈ C, y.2 = 1) :
    Leads B z 1 (fun z' => PhB A C (cc + 1) z' ∧ z'.Q = C ++ [(0, 1)] ∧ Mn z' (5 * n + 6)) := by
  obtain ⟨a, ha, hp, hpc, hw⟩ := M
  have n7 := W.n7
  have hc := H.c
  refine l_yield W.n8 (by omega) hQ ha (by omega) (by rw [hp, hpc]; exact W.at0 (by rw [show 5 * n + 5 = 5 * n + 2 + 3 by omega, main_mid f n 3 (by decide)]; rfl)) fun z1 N1 => Leads.refl ?_
  have oth : ∀ y ∈ A ++ C, z1.th y.1 = z.th y.1 := fun y hy => by
    have := O.pos y hy
    rw [N1.th, put_ne _ _ (by omega)]
  refine ⟨⟨fun y hy => ?_, fun y hy => ?_, ?_, ?_, ?_, ?_⟩, ?_, ⟨ans a 0, by rw [N1.th]; exact put_self _ _ _, hp, ?_, hw⟩⟩
  · rw [oth y (by simp [hy])]; exact H.fr y hy
  · rw [oth y (by simp [hy])]; exact H.we y hy
  · rw [N1.E]; exact H.E
  · rw [N1.last]; exact H.last
  · rw [N1.notes]; exact H.notes
  · rw [N1.c]; omega
  · rw [N1.Q]
    exact insQ_last fun y hy => by rw [h1 y hy]; exact Nat.le_refl _
  · show a.pc + 1 = 5 * n + 6
    omega
end Wk
end Go.Proofs.YtagmlijhgncklaaGreatDoor.Ker
namespace Go.Proofs.YtagmlijhgncklaaGreatDoor.Ker
namespace Wk
open Go.RowKit Go.Proofs.YtagmlijhgncklaaGreatDoor Go.Proofs.YtagmlijhgncklaaGreatDoor.Code
open Go.Proofs.YtagmlijhgncklaaGreatDoor.Vq (RepL insQ preQ insQ_mem preQ_mem)

/-- Those of A wait, those of V were woken; who has noted. -/
structure PhP (A V : List (Nat × Nat)) (N : List Int) (cc : Nat) (z : Z) : Prop where
  we : ∀ y ∈ A, ∃ a, z.th y.1 = some a ∧ Wtg a y.2
  wo : ∀ y ∈ V, ∃ a, z.th y.1 = some a ∧ Wkn a y.2
  E : z.E.map (fun e => (e.1, e.2.1)) = A.map (fun y => (y.1, (y.2 : Int)))
  notes : z.notes = N
  c : z.c = cc
/-- Apart, and not main. -/
structure Apart (A V : List (Nat × Nat)) : Prop where
  nd : ((A ++ V).map (·.1)).Nodup
  pos : ∀ y ∈ A ++ V, 1 ≤ y.1
  b : ∀ y ∈ A ++ V, 1 ≤ y.2 ∧ y.2 ≤ 30
theorem post_one {B : KB} {f : Nat → Nat} {n : Nat} (W : WB B f n) {A V Q : List (Nat × Nat)} {N : List Int} {t p cc j : Nat} {z : Z} (D : Apart ((t, p) :: A) V) (H : PhP ((t, p) :: A) V N cc z) (hj : j < n) (M : Mn z (5 * n + 6 + 2 * j)) (hcc : cc ≤ 900) (hQ : z.Q = (0, 1) :: Q) (hno : ∀ u ∈ Q, u.1 ≠ t) :
    Leads B z 2 (fun z' => PhP A (V ++ [(t, p)]) N (cc + 2) z' ∧ z'.Q = insQ z.Q (t, p) ∧ Mn z' (5 * n + 6 + 2 * (j + 1))) := by
  obtain ⟨a, ha, hp, hpc, hw⟩ := M
  have n7 := W.n7
  have hc := H.c
  have t0 : 1 ≤ t := D.pos (t, p) (by simp)
  have hb := D.b (t, p) (by simp)
  have hb : 1 ≤ p ∧ p ≤ 30 := hb
  obtain ⟨d1, d2⟩ := List.nodup_cons.1 D.nd
  have oA : ∀ y ∈ A, y.1 ≠ t := fun y hy e => d1 (List.mem_map.2 ⟨y, by simp [hy], e⟩)
  have oV : ∀ y ∈ V, y.1 ≠ t := fun y hy e => d1 (List.mem_map.2 ⟨y, by simp [hy], e⟩)
  obtain ⟨b, hb1, hb2⟩ := H.we (t, p) (by simp)
  have hb1 : z.th t = some b := hb1
  have g : ∀ r, r < 2 → ∀ i, wPost[r]? = some i → ∀ b : Ath, b.prog = 0 → b.pc = 5 * n + 6 + 2 * j + r → At B b.prog b.pc i := fun r hr i hi b b1 b2 => by
    rw [b1, b2]
    exact W.at0 (by rw [main_post f n j r hj hr]; exact hi)
  obtain ⟨⟨et, ep, ec⟩, E, hE, hE2⟩ : ∃ e E, z.E = e :: E ∧ E.map (fun e => (e.1, e.2.1)) = A.map (fun y => (y.1, (y.2 : Int))) ∧ (e.1, e.2.1) = (t, (p : Int)) := by
    have q := H.E
    cases h : z.E with
    | nil => rw [h] at q; cases q
    | cons e E =>
      rw [h] at q
      simp only [List.map_cons, List.cons.injEq] at q
      exact ⟨e, E, rfl, q.2, q.1⟩
  obtain ⟨hE2, hE3⟩ := hE2
  obtain rfl : et = t := congrArg Prod.fst hE3
  obtain rfl : ep = (p : Int) := congrArg Prod.snd hE3
  refine l_set W.n8 (by omega) hQ ha (d := 2) (v := 16) (by decide) (by omega) (g 0 (by decide) _ rfl a hp hpc) fun z1 N1 => ?_
  refine l_post (a := setR a 2 16) (r := 0) (pr0 := 1) (Q := Q) (p := et) (pr := p) (c := ec) (E := E) (b := b) W.n8 (by rw [N1.c]; omega) (N1.Q.trans hQ) (by rw [N1.th]; exact put_self _ _ _) (by show a.pc + 1 ≤ 900; omega) (g 1 (by decide) _ rfl (setR a 2 16) hp (by show a.pc + 1 = _; omega)) rfl (N1.E.trans hE) (by rw [N1.th, put_ne _ _ (by omega)]; exact hb1) hb2.wt hb2.pr hb.1 (by omega) ?_ fun z2 N2 => Leads.refl ?_
  · intro u hu
    rw [N1.Q, hQ] at hu
    rcases List.mem_cons.1 hu with rfl | hu
    · show 0 ≠ et; omega
    · exact hno u hu
  · have oth : ∀ q, q ≠ et → q ≠ 0 → z2.th q = z.th q := fun q h1 h2 => by rw [N2.th, put_ne _ _ h2, put_ne _ _ h1, N1.th, put_ne _ _ h2]
    refine ⟨⟨fun y hy => ?_, fun y hy => ?_, ?_, ?_, ?_⟩, ?_, ⟨ans (setR a 2 16) 0, by rw [N2.th]; exact put_self _ _ _, hp, ?_, hw⟩⟩
    · have h0 := D.pos y (by simp [hy])
      rw [oth y.1 (oA y hy) (by omega)]
      exact H.we y (by simp [hy])
    · rcases List.mem_append.1 hy with hy | hy
      · have h0 := D.pos y (by simp [hy])
        rw [oth y.1 (oV y hy) (by omega)]
        exact H.wo y hy
      · obtain rfl : y = (et, p) := by simpa using hy
        exact ⟨{ b with wt := false, r := put (put b.r 0 0) 1 0 }, by rw [N2.th, put_ne _ _ (by show et ≠ 0; omega)]; exact put_self _ _ _, ⟨hb2.prog, hb2.pc, rfl, hb2.pr⟩⟩
    · rw [N2.E]; exact hE2
    · rw [N2.notes, N1.notes, H.notes]
    · rw [N2.c, N1.c]; omega
    · rw [N2.Q, N1.Q]
    · show a.pc + 1 + 1 = _
      omega
theorem tell_one {B : KB} {f : Nat → Nat} {n : Nat} (W : WB B f n) {A V Q : List (Nat × Nat)} {N : List Int} {t p cc : Nat} {z : Z} (D : Apart A ((t, p) :: V)) (H : PhP A ((t, p) :: V) N cc z) (hcc : cc ≤ 900) (hQ : z.Q = (t, p) :: Q) :
    Leads B z 3 (fun z' => PhP A V (N ++ [(t : Int)]) (cc + 3) z' ∧ z'.Q = Q ∧ z'.th 0 = z.th 0) := by
  have hc := H.c
  have t0 : 1 ≤ t := D.pos (t, p) (by simp)
  have nd := D.nd
  rw [List.map_append, List.map_cons] at nd
  obtain ⟨n1, n2, n3⟩ := List.nodup_append.1 nd
  have oA : ∀ y ∈ A, y.1 ≠ t := fun y hy => n3 y.1 (List.mem_map.2 ⟨y, hy, rfl⟩) t (by simp)
  have oV : ∀ y ∈ V, y.1 ≠ t := fun y hy e => (List.nodup_cons.1 n2).1 (List.mem_map.2 ⟨y, hy, e⟩)
  obtain ⟨b, hb1, hb2⟩ := H.wo (t, p) (by simp)
  have hb1 : z.th t = some b := hb1
  have b1 := hb2.prog
  have b2 := hb2.pc
  refine l_self W.n8 (by omega) hQ hb1 (by omega) (by rw [b1, b2]; exact W.at1 rfl) fun z1 N1 => ?_
  refine l_note (a := ans b ((t : Int) + 16)) (p := t) (pr := p) (Q := Q) W.n8 (by rw [N1.c]; omega) (N1.Q.trans hQ) (by rw [N1.th]; exact put_self _ _ _) (by show b.pc + 1 ≤ 900; omega) (by show At B b.prog (b.pc + 1) _; rw [b1, b2]; exact W.at1 rfl) fun z2 N2 => ?_
  obtain ⟨m, y, h1, h2, h3⟩ := W.PS
  refine l_past (a := { ans b ((t : Int) + 16) with pc := (ans b ((t : Int) + 16)).pc + 1 }) (p := t) (pr := p) (Q := Q) (y := y) W.n8 (by rw [N2.c, N1.c]; omega) (N2.Q.trans (N1.Q.trans hQ)) (by rw [N2.th]; exact put_self _ _ _) (by show B.J.PS[b.prog]? = some y; rw [b1, h1]; rfl) (by show b.pc + 1 + 1 = y.L.length; rw [h3, b2]; rfl) fun z3 N3 => Leads.refl ?_
  have oth : ∀ q, q ≠ t → z3.th q = z.th q := fun q hq => by rw [N3.th, put_ne _ _ hq, N2.th, put_ne _ _ hq, N1.th, put_ne _ _ hq]
  refine ⟨⟨fun y hy => ?_, fun y hy => ?_, ?_, ?_, ?_⟩, N3.Q, oth 0 (by omega)⟩
  · rw [oth y.1 (oA y hy)]; exact H.we y hy
  · rw [oth y.1 (oV y hy)]; exact H.wo y (by simp [hy])
  · rw [N3.E, N2.E, N1.E]; exact H.E
  · rw [N3.notes, N2.notes, N1.notes, H.notes]
  · rw [N3.c, N2.c, N1.c]; omega
theorem Apart.post {A V : List (Nat × Nat)} {x : Nat × Nat} (D : Apart (x :: A) V) : Apart A (V ++ [x]) := by
  have e : ((x :: A) ++ V).Perm (A ++ (V ++ [x])) := by
    rw [← List.append_assoc]
    exact (List.perm_append_singleton x (A ++ V)).symm
  exact ⟨(e.map _).nodup_iff.1 D.nd, fun y hy => D.pos y (e.mem_iff.2 hy), fun y hy => D.b y (e.mem_iff.2 hy)⟩
theorem Apart.tell {A V : List (Nat × Nat)} {x : Nat × Nat} (D : Apart A (x :: V)) : Apart A V := by
  have e : (A ++ x :: V).Perm (x :: (A ++ V)) := List.perm_middle
  have nd := (e.map (·.1)).nodup_iff.1 D.nd
  exact ⟨(List.nodup_cons.1 nd).2, fun y hy => D.pos y (e.mem_iff.2 (by simp [List.mem_append.1 hy])), fun y hy => D.b y (e.mem_iff.2 (by simp [List.mem_append.1 hy]))⟩
theorem Apart.head {A V : List (Nat × Nat)} {x : Nat × Nat} (D : Apart (x :: A) V) : ∀ y ∈ V, y.1 ≠ x.1 := fun y hy e => (List.nodup_cons.1 D.nd).1 (List.mem_map.2 ⟨y, by simp [hy], e⟩)
def nts (l : List (Nat × Nat)) : List Int := l.map fun y => (y.1 : Int)
/-- Those above main's priority are woken, tell, and end, one by one. -/
theorem his {B : KB} {f : Nat → Nat} {n : Nat} (W : WB B f n) {Lo : List (Nat × Nat)} : ∀ (Hi : List (Nat × Nat)) (N : List Int) (cc j : Nat) (z : Z), Apart (Hi ++ Lo) [] → PhP (Hi ++ Lo) [] N cc z → (∀ y ∈ Hi, 1 < y.2) → j + Hi.length ≤ n → Mn z (5 * n + 6 + 2 * j) → cc + 5 * Hi.length ≤ 900 → z.Q = [(0, 1)] →
    Leads B z (5 * Hi.length) (fun z' => PhP Lo [] (N ++ nts Hi) (cc + 5 * Hi.length) z' ∧ Mn z' (5 * n + 6 + 2 * (j + Hi.length)) ∧ z'.Q = [(0, 1)] ∧ Apart Lo [])
  | [], N, cc, j, z, D, H, h1, hj, M, hcc, hQ => Leads.refl ⟨by rw [show nts [] = [] from rfl, List.append_nil]; exact H, M, hQ, D⟩
  | (t, p) :: Hi, N, cc, j, z, D, H, h1, hj, M, hcc, hQ => by
    have hl : ((t, p) :: Hi).length = Hi.length + 1 := rfl
    rw [hl] at hj hcc ⊢
    have hp : 1 < p := h1 (t, p) (by simp)
    have D1 : Apart (Hi ++ Lo) [(t, p)] := Apart.post (V := []) D
    have D2 : Apart (Hi ++ Lo) [] := D1.tell
    have q := ((post_one W (A := Hi ++ Lo) (V := []) D H (by omega) M (by omega) hQ fun _ h => (by cases h)).trans fun z1 ⟨H1, hQ1, M1⟩ => (tell_one W (Q := [(0, 1)]) D1 H1 (by omega) (by rw [hQ1, hQ, insQ, if_neg (by show ¬ p ≤ 1; omega)])).trans fun z2 ⟨H2, hQ2, h02⟩ => (his W Hi (N ++ [(t : Int)]) (cc + 2 + 3) (j + 1) z2 D2 H2 (fun y hy => h1 y (by simp [hy])) (by omega) (M1.same h02) (by omega) hQ2).trans fun z3 ⟨H3, M3, hQ3, D3⟩ => (Leads.refl (P := fun z' => PhP Lo [] (N ++ nts ((t, p) :: Hi)) (cc + 5 * (Hi.length + 1)) z' ∧ Mn z' (5 * n + 6 + 2 * (j + (Hi.length + 1))) ∧ z'.Q = [(0, 1)] ∧ Apart Lo []) ⟨by rw [show N ++ nts ((t, p) :: Hi) = N ++ [(t : Int)] ++ nts Hi by rw [List.append_assoc]; rfl, show cc + 5 * (Hi.length + 1) = cc + 2 + 3 + 5 * Hi.length by omega]; exact H3, by rw [show j + (Hi.length + 1) = j + 1 + Hi.length by omega]; exact M3, hQ3, D3⟩))
    have e : 0 + 5 * Hi.length + 3 + 2 = 5 * (Hi.length + 1) := by omega
    rw [e] at q
    exact q
/-- Those of main's priority are woken, one by one. -/
theorem los {B : KB} {f : Nat → Nat} {n : Nat} (W : WB B f n) {N : List Int} : ∀ (Lo V : List (Nat × Nat)) (cc j : Nat) (z : Z), Apart Lo V → PhP Lo V N cc z → (∀ y ∈ Lo, y.2 = 1) → (∀ y ∈ V, y.2 = 1) → j + Lo.length ≤ n → Mn z (5 * n + 6 + 2 * j) → cc + 2 * Lo.length ≤ 900 → z.Q = (0, 1) :: V →
    Leads B z (2 * Lo.length) (fun z' => PhP [] (V ++ Lo) N (cc + 2 * Lo.length) z' ∧ Mn z' (5 * n + 6 + 2 * (j + Lo.length)) ∧ z'.Q = (0, 1) :: (V ++ Lo) ∧ Apart [] (V ++ Lo))
  | [], V, cc, j, z, D, H, h1, h2, hj, M, hcc, hQ => Leads.refl ⟨by rw [List.append_nil]; exact H, M, by rw [List.append_nil]; exact hQ, by rw [List.append_nil]; exact D⟩
  | (t, p) :: Lo, V, cc, j, z, D, H, h1, h2, hj, M, hcc, hQ => by
    have hl : ((t, p) :: Lo).length = Lo.length + 1 := rfl
    rw [hl] at hj hcc ⊢
    have hp : p = 1 := h1 (t, p) (by simp)
    have q := ((post_one W D H (by omega) M (by omega) hQ D.head).trans fun z1 ⟨H1, hQ1, M1⟩ => (los W Lo (V ++ [(t, p)]) (cc + 2) (j + 1) z1 D.post H1 (fun y hy => h1 y (by simp [hy])) (fun y hy => by
        rcases List.mem_append.1 hy with hy | hy
        · exact h2 y hy
        · obtain rfl : y = (t, p) := by simpa using hy
          exact hp) (by omega) M1 (by omega) (by
        rw [hQ1, hQ, insQ_last fun y hy => ?_]
        · rfl
        · show p ≤ y.2
          rcases List.mem_cons.1 hy with rfl | hy
          · show p ≤ 1; omega
          · rw [h2 y hy]; omega)).trans fun z3 ⟨H3, M3, hQ3, D3⟩ => (Leads.refl (P := fun z' => PhP [] (V ++ (t, p) :: Lo) N (cc + 2 * (Lo.length + 1)) z' ∧ Mn z' (5 * n + 6 + 2 * (j + (Lo.length + 1))) ∧ z'.Q = (0, 1) :: (V ++ (t, p) :: Lo) ∧ Apart [] (V ++ (t, p) :: Lo)) (by
        rw [show V ++ (t, p) :: Lo = V ++ [(t, p)] ++ Lo by simp, show cc + 2 * (Lo.length + 1) = cc + 2 + 2 * Lo.length by omega, show j + (Lo.length + 1) = j + 1 + Lo.length by omega]
        exact ⟨H3, M3, hQ3, D3⟩)))
    have e : 0 + 2 * Lo.length + 2 = 2 * (Lo.length + 1) := by omega
    rw [e] at q
    exact q
theorem main_end {B : KB} {f : Nat → Nat} {n : Nat} (W : WB B f n) {V : List (Nat × Nat)} {N : List Int} {cc : Nat} {z : Z} (D : Apart [] V) (H : PhP [] V N cc z) (M : Mn z (5 * n + 6 + 2 * n)) (hcc : cc ≤ 900) (hQ : z.Q = (0, 1) :: V) :
    Leads B z 1 (fun z' => PhP [] V N (cc + 1) z' ∧ z'.Q = V) := by
  obtain ⟨a, ha, hp, hpc, hw⟩ := M
  obtain ⟨m, y, h1, h2, h3⟩ := W.PS
  have hc := H.c
  refine l_past (y := m) W.n8 (by omega) hQ ha (by rw [hp, h1]; rfl) (by rw [hpc, h2, mainW_len]; omega) fun z1 N1 => Leads.refl ?_
  refine ⟨⟨fun _ h => (by cases h), fun y hy => ?_, ?_, ?_, ?_⟩, N1.Q⟩
  · have := D.pos y (by simpa using hy)
    rw [N1.th, put_ne _ _ (by omega)]
    exact H.wo y hy
  · rw [N1.E]; exact H.E
  · rw [N1.notes, H.notes]
  · rw [N1.c]; omega
theorem tells {B : KB} {f : Nat → Nat} {n : Nat} (W : WB B f n) : ∀ (V : List (Nat × Nat)) (N : List Int) (cc : Nat) (z : Z), Apart [] V → PhP [] V N cc z → cc + 3 * V.length ≤ 900 → z.Q = V →
    Leads B z (3 * V.length) (fun z' => z'.notes = N ++ nts V ∧ z'.c = cc + 3 * V.length ∧ z'.Q = [])
  | [], N, cc, z, D, H, hcc, hQ => Leads.refl ⟨by rw [show nts [] = [] from rfl, List.append_nil]; exact H.notes, H.c, hQ⟩
  | (t, p) :: V, N, cc, z, D, H, hcc, hQ => by
    have hl : ((t, p) :: V).length = V.length + 1 := rfl
    rw [hl] at hcc ⊢
    have q := (tell_one W D H (by omega) hQ).trans fun z2 ⟨H2, hQ2, h02⟩ => (tells W V (N ++ [(t : Int)]) (cc + 3) z2 D.tell H2 (by omega) hQ2).trans fun z3 ⟨H3, c3, hQ3⟩ => (Leads.refl (P := fun z' => z'.notes = N ++ nts ((t, p) :: V) ∧ z'.c = cc + 3 * (V.length + 1) ∧ z'.Q = []) ⟨by rw [H3, List.append_assoc]; rfl, by rw [c3]; omega, hQ3⟩)
    have e : 0 + 3 * V.length + 3 = 3 * (V.length + 1) := by omega
    rw [e] at q
    exact q
theorem idles {B : KB} {N : List Int} : ∀ (k cc : Nat) (z : Z), z.notes = N → z.c = cc → cc + k ≤ 900 → z.Q = [] → Leads B z k (fun z' => z'.notes = N ∧ z'.Q = [])
  | 0, cc, z, h1, h2, h3, h4 => Leads.refl ⟨h1, h4⟩
  | k + 1, cc, z, h1, h2, h3, h4 => l_nobody (by omega) h4 fun z1 N1 => idles k (cc + 1) z1 (N1.notes.trans h1) (by rw [N1.c, h2]) (by omega) (N1.Q.trans h4)
/-- All of it, behind the making of the semaphore. -/
theorem whole {B : KB} {f : Nat → Nat} {n : Nat} (W : WB B f n) {z : Z} (M : M1 f 0 z) : Leads B z 298 (fun z' => z'.notes = nts (ord f n)) := by
  have n7 := W.n7
  have O := ord_oo W
  obtain ⟨Hi, Lo, e1, e2, e3, e4⟩ := preQ_split O.ah fun y hy => (O.b y hy).1
  have hlen : Hi.length + Lo.length = n := by
    have := congrArg List.length e1
    rw [ord_len, List.length_append] at this
    exact this.symm
  have O1 : OO ([] ++ (Hi ++ Lo)) := by rw [List.nil_append, ← e1]; exact O
  have O2 : OO (Hi ++ (Lo ++ [])) := by rw [List.append_nil, ← e1]; exact O
  have O3 : OO (Hi ++ Lo) := by rw [← e1]; exact O
  have DA : Apart (Hi ++ Lo) [] := ⟨by rw [List.append_nil]; exact O3.nd, fun y hy => O3.pos y (by simpa using hy), fun y hy => O3.b y (by simpa using hy)⟩
  have q := (m1_all W M n (Nat.le_refl _)).trans fun z1 M1 =>
    (mid_prio W M1).trans fun z2 ⟨H2, hQ2, Mn2⟩ =>
    (blocks W (Q := (0, 1) :: Lo) (C2 := Lo) Hi [] (5 * n + 5) z2 O1 (by rw [← e1]; exact H2) (by omega) (by rw [hQ2, e2])).trans fun z3 ⟨H3, hQ3, h03⟩ =>
    (mid_yield W O3 H3 (Mn2.same h03) (by omega) hQ3 e4).trans fun z4 ⟨H4, hQ4, Mn4⟩ =>
    (blocks W (Q := [(0, 1)]) (C2 := []) Lo Hi (5 * n + 5 + 2 * Hi.length + 1) z4 O2 (by rw [List.append_nil]; exact H4) (by omega) hQ4).trans fun z5 ⟨H5, hQ5, h05⟩ =>
    (his W (Lo := Lo) Hi [] (5 * n + 5 + 2 * Hi.length + 1 + 2 * Lo.length) 0 z5 DA ⟨H5.we, fun _ h => (by cases h), H5.E, H5.notes, H5.c⟩ e3 (by omega) (Mn4.same h05) (by omega) hQ5).trans fun z6 ⟨H6, M6, hQ6, D6⟩ =>
    (los W Lo [] (5 * n + 5 + 2 * Hi.length + 1 + 2 * Lo.length + 5 * Hi.length) (0 + Hi.length) z6 D6 H6 e4 (fun _ h => (by cases h)) (by omega) M6 (by omega) hQ6).trans fun z7 ⟨H7, M7, hQ7, D7⟩ =>
    (main_end W D7 H7 (by rw [show 5 * n + 6 + 2 * (0 + Hi.length + Lo.length) = 5 * n + 6 + 2 * n by omega] at M7; exact M7) (by omega) hQ7).trans fun z8 ⟨H8, hQ8⟩ =>
    (tells W Lo _ _ z8 D7 H8 (by omega) hQ8).trans fun z9 ⟨n9, c9, hQ9⟩ =>
    idles (298 - (12 * n + 5)) _ z9 n9 c9 (by omega) hQ9
  have e : 298 - (12 * n + 5) + 3 * Lo.length + 1 + 2 * Lo.length + 5 * Hi.length + 2 * Lo.length + 1 + 2 * Hi.length + 3 + 5 * n = 298 := by omega
  rw [e] at q
  obtain ⟨z', s, p, _⟩ := q
  refine ⟨z', s, ?_⟩
  show z'.notes = nts (ord f n)
  rw [p, e1]
  show ([] ++ nts Hi) ++ nts Lo = _
  rw [List.nil_append]
  exact (List.map_append ..).symm
end Wk
end Go.Proofs.YtagmlijhgncklaaGreatDoor.Ker
namespace Go.Proofs.YtagmlijhgncklaaGreatDoor.Ker
namespace Wk
open Go.RowKit Go.Proofs.YtagmlijhgncklaaGreatDoor Go.Proofs.YtagmlijhgncklaaGreatDoor.Code
open Go.Proofs.YtagmlijhgncklaaGreatDoor.Vq (RepL insQ preQ insQ_mem preQ_mem)

def R31 : Rd := Rd.new.tailF 31 0
theorem r31_rep : RepL R31 [(0, 31)] := RepL.new.tail (by decide) (by decide) (by decide) fun _ h => (by cases h)
def t31 (b c : Nat) : Th := Th.new b c ((0 : Nat) + 16 * 1) 0 (31 : Nat) 0 true
/-- Main, behind the making of the semaphore. -/
def a31 : Ath := ans (setR ⟨0, 0, fun _ => 0, 31, false⟩ 2 0) 16
def zStart : Z := ⟨[(0, 31)], put (fun _ => none) 0 (some a31), [], 0, [], 0, 2⟩
theorem start_m1 (f : Nat → Nat) : M1 f 0 zStart :=
  ⟨rfl, ⟨a31, rfl, rfl, rfl, rfl⟩, fun _ h => (by cases h), rfl, rfl, rfl, rfl, rfl⟩
def x31 (B : KB) (b c : Nat) : Pl := ((Pl.first B 8 31 b c).stepped 0 (t31 b c) 1 (put (t31 b c).r 2 0)).called 0 { t31 b c with pc := 1, r := put (t31 b c).r 2 0 } 1 16
theorem start_fit (B : KB) (b c : Nat) : Fit zStart (x31 B b c) where
  T := rfl
  R := r31_rep
  Ll := rfl
  L1 := fun y hy => by
    obtain rfl : y = (0, 31) := by simpa [zStart] using hy
    exact ⟨rfl, rfl⟩
  L0 := fun p hp hno => by
    have h0 : p ≠ 0 := fun e => hno (0, 31) (by simp [zStart]) e.symm
    show (((List.replicate 16 Hs.no).set 0 _).getD p Hs.no).isIn = false
    rw [hs_set _ _ _ _ (by decide), if_neg h0, List.getD_eq_getElem?_getD, List.getElem?_replicate]
    split <;> rfl
  st0 := by show (0 : Int) ≤ 4 + 1 + 1; decide
  st := by show (4 : Int) + 1 + 1 ≤ 10 * ((2 : Nat) : Int) + 10; decide
  ln := by show 0 + 1 + 1 ≤ 2; decide
  an := by show 0 + 1 ≤ 2 * 2; decide
  nl := by show 0 ≤ 2; decide
  notes := rfl
  th := fun p a h => by
    have h : put (fun _ => none) 0 (some a31) p = some a := h
    by_cases e : p = 0
    · subst e
      rw [put_self] at h
      cases h
      exact ⟨({ t31 b c with pc := ((1 : Nat) : Int) + 1, r := put (t31 b c).r 2 0 } : Th).ans 16 0, rfl, ⟨rfl, rfl, rfl, rfl, rfl, rfl, rfl, rfl, by show (-1 : Int) < 0; decide, rfl⟩⟩
    · rw [put_ne _ _ e] at h
      cases h
  un := fun p h => by
    have h : 0 < p := h
    show put (put (put (fun _ => none) 0 _) 0 _) 0 _ p = none
    rw [put_ne _ _ (by omega), put_ne _ _ (by omega), put_ne _ _ (by omega)]
  E := ⟨List.nodup_nil, trivial, by decide, by decide, by decide, fun _ h => (by cases h), fun _ h => (by cases h)⟩
  k7 := by decide
theorem start_turn {B : KB} (hn : B.n = 8) (b c : Nat) : Turn B (Pl.first B 8 31 b c) 0 (t31 b c) := by
  obtain ⟨f1, f2, f3⟩ := r31_rep.first
  exact ⟨by decide, by rw [hn]; decide, rfl, f1, by show 1 ≤ Lib.bitLen R31.sm; omega, by show Lib.bitLen R31.sm ≤ 32; omega, f3, by show (0 : Int) ≤ 4; decide, by show (4 : Int) ≤ 500000000; decide, rfl⟩
theorem start_turn2 {B : KB} (hn : B.n = 8) (b c : Nat) : Turn B ((Pl.first B 8 31 b c).stepped 0 (t31 b c) 1 (put (t31 b c).r 2 0)) 0 { t31 b c with pc := 1, r := put (t31 b c).r 2 0 } := by
  obtain ⟨f1, f2, f3⟩ := r31_rep.first
  exact ⟨by decide, by rw [hn]; decide, rfl, f1, by show 1 ≤ Lib.bitLen R31.sm; omega, by show Lib.bitLen R31.sm ≤ 32; omega, f3, by show (0 : Int) ≤ 5; decide, by show (5 : Int) ≤ 500000000; decide, rfl⟩
/-- What there is behind 300 runs. -/
def Told (B : KB) (f : Nat → Nat) (n : Nat) (S : KS) : Prop := S.B = B ∧ S.lo.notes.map (·.1) = nts (ord f n)
theorem runs300 {B : KB} {f : Nat → Nat} {n : Nat} (W : WB B f n) (b c : Nat) : Steps B 300 (fun S => NowS S B (Pl.first B 8 31 b c)) (Told B f n) := by
  obtain ⟨m, y, h1, h2, h3⟩ := W.PS
  have hx : B.J.PS[0]? = some m := by rw [h1]; rfl
  obtain ⟨z', s, p⟩ := whole W (start_m1 f)
  refine Steps.cons (s_step (start_turn W.n8 b c) m 0 hx rfl 0 rfl (iSet 2 0) (by rw [h2]; rfl) (by show 0 ≤ 100000; decide) 1 (put (t31 b c).r 2 0) one_ok (step_set 2 (by decide) 0 0 (by decide) (t31 b c).r)) ?_
  refine Steps.cons (v_sem (start_turn2 W.n8 b c) m 0 hx rfl 1 rfl (by rw [h2]; rfl) (by decide) (by show 0 + 1 ≤ 100000; decide) (by show 0 ≤ 100000; decide) rfl) ?_
  refine Steps.pre (A := Is B zStart) (fun S hS => ⟨x31 B b c, hS, start_fit B b c⟩) (s.post ?_)
  rintro S ⟨x, N, F⟩
  exact ⟨N.N.B, by rw [N.N.notes, F.notes]; exact p⟩
end Wk
end Go.Proofs.YtagmlijhgncklaaGreatDoor.Ker
