/-
  The server of a thread that never waits, as a function of the tick; how often it runs within a window. Plain. Conditions: those said.
  The job of the sporadic thread, as plain data: main's seventeen runs, one behind the other. Conditions: those said.
  TopRobins, over the translation of this seat. There are no conditions.
  The sporadic thread's kernel, tick by tick: how it stands. Conditions: those said.
-/
import Derived.Test.YtagmlijhgncklaaGreatDoorP38
import Derived.Test.YtagmlijhgncklaaGreatDoorP35
set_option linter.unusedVariables false
namespace Go.Proofs.YtagmlijhgncklaaGreatDoor.Ker
open Go.RowKit Go.Proofs.YtagmlijhgncklaaGreatDoor Go.Proofs.YtagmlijhgncklaaGreatDoor.Code Go.Proofs.YtagmlijhgncklaaGreatDoor.Spo

/-- The server ahead of tick c. -/
def svAt (b P c : Nat) : Sv := if c % P < b then { bu := b, pe := P, lf := (b : Int) - (c % P : Nat), ac := true, si := (c : Int) - (c % P : Nat), us := (c % P : Nat), pv := .slice none 0 0, ps := [] }
  else { bu := b, pe := P, lf := 0, ac := false, si := 0, us := 0, pv := .slice none 0 0, ps := [((c : Int) - (c % P : Nat) + P, (b : Int))] }
theorem svAt_hi {b P c : Nat} (h : c % P < b) : svAt b P c = { bu := b, pe := P, lf := (b : Int) - (c % P : Nat), ac := true, si := (c : Int) - (c % P : Nat), us := (c % P : Nat), pv := .slice none 0 0, ps := [] } := if_pos h
theorem svAt_lo {b P c : Nat} (h : ¬ c % P < b) : svAt b P c = { bu := b, pe := P, lf := 0, ac := false, si := 0, us := 0, pv := .slice none 0 0, ps := [((c : Int) - (c % P : Nat) + P, (b : Int))] } := if_neg h
theorem high_at (b P c : Nat) : highF (svAt b P c) = decide (c % P < b) := by
  by_cases h : c % P < b
  · rw [svAt_hi h]
    unfold highF
    simp only [List.length_nil]
    rw [decide_eq_true h]
    simp
    omega
  · rw [svAt_lo h]
    unfold highF
    simp [h]
theorem mod_next (c P : Nat) (h : 1 ≤ P) : (c + 1) % P = if c % P + 1 = P then 0 else c % P + 1 := by
  have h1 := Nat.mod_lt c (show P > 0 by omega)
  by_cases e : c % P + 1 = P
  · rw [if_pos e, Nat.add_mod]
    by_cases p1 : P = 1
    · subst p1; exact Nat.mod_one _
    · rw [Nat.mod_eq_of_lt (show 1 < P by omega), e, Nat.mod_self]
  · rw [if_neg e, Nat.add_mod]
    by_cases p1 : P = 1
    · subst p1
      have := Nat.mod_one c
      omega
    · rw [Nat.mod_eq_of_lt (show 1 < P by omega)]
      exact Nat.mod_eq_of_lt (by omega)
theorem start_hi {s : Sv} {m : Int} (h : highF s = true) (ha : s.ac = false) : startF s m = { s with ac := true, si := m, us := 0 } := by
  unfold startF
  rw [h, ha]
  rfl
theorem start_lo {s : Sv} {m : Int} (h : highF s = false) : startF s m = s := by
  unfold startF
  rw [h]
  rfl
theorem start_ac {s : Sv} {m : Int} (h : s.ac = true) : startF s m = s := by
  unfold startF
  rw [h]
  simp
theorem high_pos {bu pe lf si us : Int} {ac : Bool} {pv : Value} (h : 0 < lf) : highF { bu := bu, pe := pe, lf := lf, ac := ac, si := si, us := us, pv := pv, ps := [] } = true := by
  unfold highF
  rw [decide_eq_true h]
  rfl
theorem sv_next (b P c : Nat) (h1 : 1 ≤ b) (h2 : b ≤ P) : nextF (svAt b P c) (decide (c % P < b)) ((c : Int) + 1) = svAt b P (c + 1) := by
  have hr := Nat.mod_lt c (show P > 0 by omega)
  have hn := mod_next c P (by omega)
  have hle := Nat.mod_le c P
  by_cases h : c % P < b
  · rw [decide_eq_true h]
    have hh := high_at b P c
    rw [decide_eq_true h] at hh
    rw [svAt_hi h] at hh ⊢
    unfold nextF tickF
    rw [hh]
    simp only [Bool.and_self, if_true]
    by_cases l : c % P + 1 < b
    · rw [if_neg (by omega)] at hn
      have e : svAt b P (c + 1) = { bu := b, pe := P, lf := (b : Int) - (c % P : Nat) - 1, ac := true, si := (c : Int) - (c % P : Nat), us := (c % P : Nat) + 1, pv := .slice none 0 0, ps := [] } := by
        rw [svAt_hi (by omega), hn]
        congr 1 <;> omega
      rw [e]
      simp only [useF]
      rw [if_pos (by omega)]
      simp only [dueF]
      exact start_ac rfl
    · have lb : c % P + 1 = b := by omega
      simp only [useF]
      rw [if_neg (by omega)]
      simp only [List.nil_append, dueF]
      by_cases p : P = b
      · rw [if_pos (by omega)] at hn
        have e : svAt b P (c + 1) = { bu := b, pe := P, lf := (b : Int), ac := true, si := (c : Int) + 1, us := 0, pv := .slice none 0 0, ps := [] } := by
          rw [svAt_hi (by omega), hn]
          congr 1 <;> omega
        rw [if_pos (by omega), e]
        rw [start_hi (high_pos (by omega)) rfl]
        congr 1
        show (0 : Int) + ((c % P : Nat) + 1) = b
        omega
      · rw [if_neg (by omega)] at hn
        have e : svAt b P (c + 1) = { bu := b, pe := P, lf := 0, ac := false, si := 0, us := 0, pv := .slice none 0 0, ps := [((c : Int) - (c % P : Nat) + P, (c % P : Nat) + 1)] } := by
          rw [svAt_lo (by omega), hn]
          congr 2
          congr 1 <;> omega
        rw [if_neg (by omega), e]
        exact start_lo rfl
  · rw [decide_eq_false h]
    rw [svAt_lo h]
    unfold nextF tickF
    simp only [Bool.false_and]
    simp only [if_neg (show ¬ (false = true) by decide), dueF]
    by_cases p : c % P + 1 = P
    · rw [if_pos p] at hn
      have e : svAt b P (c + 1) = { bu := b, pe := P, lf := (b : Int), ac := true, si := (c : Int) + 1, us := 0, pv := .slice none 0 0, ps := [] } := by
        rw [svAt_hi (by omega), hn]
        congr 1 <;> omega
      rw [if_pos (by omega), e]
      rw [start_hi (high_pos (by omega)) rfl]
      congr 1
      show (0 : Int) + (b : Int) = b
      omega
    · rw [if_neg p] at hn
      have e : svAt b P (c + 1) = { bu := b, pe := P, lf := 0, ac := false, si := 0, us := 0, pv := .slice none 0 0, ps := [((c : Int) - (c % P : Nat) + P, (b : Int))] } := by
        rw [svAt_lo (by omega), hn]
        congr 2
        congr 1 <;> omega
      rw [if_neg (by omega), e]
      exact start_lo rfl
theorem sv_zero (b P : Nat) (h1 : 1 ≤ b) (h2 : b ≤ P) : startF (newF b P) 0 = svAt b P 0 := by
  rw [start_new (by omega), svAt_hi (by rw [Nat.zero_mod]; omega), Nat.zero_mod]
  congr 1
theorem sv_range (b P c : Nat) (h1 : 1 ≤ b) (h2 : b ≤ P) (h3 : P ≤ 100) (hc : c ≤ 1000) : SvR (svAt b P c) := by
  have hr := Nat.mod_lt c (show P > 0 by omega)
  have hle := Nat.mod_le c P
  by_cases h : c % P < b
  · rw [svAt_hi h]
    refine ⟨?_, ?_, ?_, ?_, ?_, ?_, ?_, ?_, ?_, ?_, ?_⟩ <;> (try simp only [List.length_nil]) <;> (try omega)
    intro p hp
    cases hp
  · rw [svAt_lo h]
    refine ⟨?_, ?_, ?_, ?_, ?_, ?_, ?_, ?_, ?_, ?_, ?_⟩ <;> (try simp only [List.length_cons, List.length_nil]) <;> (try omega)
    intro p hp
    simp at hp
    subst hp
    show (0 : Int) ≤ b ∧ (b : Int) ≤ 1000
    omega
theorem sv_range2 (b P c : Nat) (h1 : 1 ≤ b) (h2 : b ≤ P) (h3 : P ≤ 100) (hc : c ≤ 1000) : SvR (tickF (svAt b P c) (decide (c % P < b))) := by
  have hr := Nat.mod_lt c (show P > 0 by omega)
  have hle := Nat.mod_le c P
  have hR := sv_range b P c h1 h2 h3 hc
  by_cases h : c % P < b
  · rw [decide_eq_true h]
    have hh := high_at b P c
    rw [decide_eq_true h] at hh
    unfold tickF
    rw [hh]
    rw [svAt_hi h]
    simp only [Bool.and_self, if_true, useF]
    by_cases l : c % P + 1 < b
    · rw [if_pos (by omega)]
      refine ⟨?_, ?_, ?_, ?_, ?_, ?_, ?_, ?_, ?_, ?_, ?_⟩ <;> (try simp only [List.length_nil]) <;> (try omega)
      intro p hp
      cases hp
    · rw [if_neg (by omega)]
      refine ⟨?_, ?_, ?_, ?_, ?_, ?_, ?_, ?_, ?_, ?_, ?_⟩ <;> (try simp only [List.nil_append, List.length_cons, List.length_nil]) <;> (try omega)
      intro p hp
      simp at hp
      subst hp
      show (0 : Int) ≤ (c % P : Nat) + 1 ∧ (((c % P : Nat) + 1 : Int)) ≤ 1000
      omega
  · rw [decide_eq_false h]
    unfold tickF
    simp only [Bool.false_and]
    exact hR
/-- How many of the first k ticks are the server's. -/
def cnt (b P : Nat) : Nat → Nat
  | 0 => 0
  | k + 1 => cnt b P k + if k % P < b then 1 else 0
theorem cnt_small (b P : Nat) (h2 : b ≤ P) : ∀ k, k ≤ P → cnt b P k = min k b := by
  intro k
  induction k with
  | zero => intro _; simp [cnt]
  | succ k ih =>
    intro hk
    rw [cnt, ih (by omega), Nat.mod_eq_of_lt (by omega)]
    split <;> omega
theorem cnt_period (b P : Nat) (h2 : b ≤ P) : ∀ k, cnt b P (k + P) = cnt b P k + b := by
  intro k
  induction k with
  | zero => rw [Nat.zero_add, cnt_small b P h2 P (Nat.le_refl _)]; simp [cnt]; omega
  | succ k ih =>
    rw [show k + 1 + P = (k + P) + 1 by omega, cnt, ih, cnt, Nat.add_mod_right]
    omega
theorem cnt_mono (b P : Nat) : ∀ j k, j ≤ k → cnt b P j ≤ cnt b P k := by
  intro j k h
  induction k with
  | zero => obtain rfl : j = 0 := by omega
            exact Nat.le_refl _
  | succ k ih =>
    by_cases e : j = k + 1
    · subst e; exact Nat.le_refl _
    · rw [cnt]
      have := ih (by omega)
      omega
/-- Within a window of a period the server has its budget at most. -/
theorem cnt_window (b P : Nat) (h2 : b ≤ P) (i j : Nat) (hj : j ≤ i) (hw : i ≤ j + P) : cnt b P i ≤ cnt b P j + b := by
  rw [← cnt_period b P h2 j]
  exact cnt_mono b P _ _ hw
end Go.Proofs.YtagmlijhgncklaaGreatDoor.Ker
namespace Go.Proofs.YtagmlijhgncklaaGreatDoor.Ker
open Go.RowKit Go.Proofs.YtagmlijhgncklaaGreatDoor Go.Proofs.YtagmlijhgncklaaGreatDoor.Code Go.Proofs.YtagmlijhgncklaaGreatDoor.Spo

def spL (bu pe : Int) : List Ins := [⟨1, 2, 0, 0, 1⟩, ⟨1, 3, 0, 0, 10⟩, ⟨1, 4, 0, 0, 0⟩, ⟨1, 5, 0, 0, 0⟩, ⟨7, 0, 0, 0, 1⟩, ⟨1, 2, 0, 0, 2⟩, ⟨1, 3, 0, 0, 15⟩, ⟨1, 4, 0, 0, 0⟩, ⟨1, 5, 0, 0, 0⟩, ⟨7, 0, 0, 0, 1⟩, ⟨1, 2, 0, 0, 17⟩, ⟨1, 3, 0, 0, 20⟩, ⟨1, 4, 0, 0, 10⟩, ⟨1, 5, 0, 0, bu⟩, ⟨1, 7, 0, 0, pe⟩, ⟨7, 0, 0, 0, 9⟩]
structure SpB (B : KB) (bu pe : Int) (m y1 y2 : Prg) : Prop where
  n : B.n = 4
  q : B.J.q = 2
  PS : B.J.PS = [m, y1, y2]
  m : m.L = spL bu pe
  y1 : y1.L = loopL
  y2 : y2.L = loopL
namespace Sp
def R1 : Rd := Rd.new.tailF 31 0
def R2 : Rd := R1.tailF 10 1
def R3 : Rd := R2.tailF 15 2
def R4 : Rd := (R3.remF 1).tailF 20 1
def Rhi : Rd := R4.remF 0
def Rlo : Rd := (Rhi.remF 1).headF 10 1
variable (B : KB) (b c b1 c1 b2 c2 : Nat) (bu pe : Int)
def a0 : Th := Th.new b c ((0 : Nat) + 16 * 1) 0 (31 : Nat) 0 true
def x0 : Pl := Pl.first B 4 31 b c
def o1 : Th := Th.new b1 c1 ((1 : Nat) + 16 * 1) 1 (10 : Nat) 0 true
def o2 : Th := Th.new b2 c2 ((2 : Nat) + 16 * 1) 2 (15 : Nat) 0 true
def a1 : Th := { a0 b c with pc := 1, r := put (a0 b c).r 2 1 }
def x1 : Pl := (x0 B b c).stepped 0 (a0 b c) (((0 : Nat) : Int) + 1) (put (a0 b c).r 2 1)
def a2 : Th := { a1 b c with pc := 2, r := put (a1 b c).r 3 10 }
def x2 : Pl := (x1 B b c).stepped 0 (a1 b c) (((1 : Nat) : Int) + 1) (put (a1 b c).r 3 10)
def a3 : Th := { a2 b c with pc := 3, r := put (a2 b c).r 4 0 }
def x3 : Pl := (x2 B b c).stepped 0 (a2 b c) (((2 : Nat) : Int) + 1) (put (a2 b c).r 4 0)
def a4 : Th := { a3 b c with pc := 4, r := put (a3 b c).r 5 0 }
def x4 : Pl := (x3 B b c).stepped 0 (a3 b c) (((3 : Nat) : Int) + 1) (put (a3 b c).r 5 0)
def a5 : Th := ({ a4 b c with pc := 5 } : Th).ans ((1 : Nat) + 16 * 1) 0
def x5 : Pl := (x4 B b c).created B 0 (a4 b c) 4 1 10 1 1 0 true b1 c1
def a6 : Th := { a5 b c with pc := 6, r := put (a5 b c).r 2 2 }
def x6 : Pl := (x5 B b c b1 c1).stepped 0 (a5 b c) (((5 : Nat) : Int) + 1) (put (a5 b c).r 2 2)
def a7 : Th := { a6 b c with pc := 7, r := put (a6 b c).r 3 15 }
def x7 : Pl := (x6 B b c b1 c1).stepped 0 (a6 b c) (((6 : Nat) : Int) + 1) (put (a6 b c).r 3 15)
def a8 : Th := { a7 b c with pc := 8, r := put (a7 b c).r 4 0 }
def x8 : Pl := (x7 B b c b1 c1).stepped 0 (a7 b c) (((7 : Nat) : Int) + 1) (put (a7 b c).r 4 0)
def a9 : Th := { a8 b c with pc := 9, r := put (a8 b c).r 5 0 }
def x9 : Pl := (x8 B b c b1 c1).stepped 0 (a8 b c) (((8 : Nat) : Int) + 1) (put (a8 b c).r 5 0)
def a10 : Th := ({ a9 b c with pc := 10 } : Th).ans ((2 : Nat) + 16 * 1) 0
def x10 : Pl := (x9 B b c b1 c1).created B 0 (a9 b c) 9 2 15 1 2 0 true b2 c2
def a11 : Th := { a10 b c with pc := 11, r := put (a10 b c).r 2 17 }
def x11 : Pl := (x10 B b c b1 c1 b2 c2).stepped 0 (a10 b c) (((10 : Nat) : Int) + 1) (put (a10 b c).r 2 17)
def a12 : Th := { a11 b c with pc := 12, r := put (a11 b c).r 3 20 }
def x12 : Pl := (x11 B b c b1 c1 b2 c2).stepped 0 (a11 b c) (((11 : Nat) : Int) + 1) (put (a11 b c).r 3 20)
def a13 : Th := { a12 b c with pc := 13, r := put (a12 b c).r 4 10 }
def x13 : Pl := (x12 B b c b1 c1 b2 c2).stepped 0 (a12 b c) (((12 : Nat) : Int) + 1) (put (a12 b c).r 4 10)
def a14 : Th := { a13 b c with pc := 14, r := put (a13 b c).r 5 bu }
def x14 : Pl := (x13 B b c b1 c1 b2 c2).stepped 0 (a13 b c) (((13 : Nat) : Int) + 1) (put (a13 b c).r 5 bu)
def a15 : Th := { a14 b c bu with pc := 15, r := put (a14 b c bu).r 7 pe }
def x15 : Pl := (x14 B b c b1 c1 b2 c2 bu).stepped 0 (a14 b c bu) (((14 : Nat) : Int) + 1) (put (a14 b c bu).r 7 pe)
def a16 : Th := ({ a15 b c bu pe with pc := 16 } : Th).ans 0 0
def x16 (sv : Nat) : Pl := (x15 B b c b1 c1 b2 c2 bu pe).spored B 0 (a15 b c bu pe) 15 1 (o1 b1 c1) 20 10 sv
def x17 (sv : Nat) : Pl := (x16 B b c b1 c1 b2 c2 bu pe sv).over 0 (a16 b c bu pe) ((a16 b c bu pe).r 0)
variable {B b c b1 c1 b2 c2 bu pe} {m y1 y2 : Prg}
theorem sp1 (A : SpB B bu pe m y1 y2) : DoesTo B evRun (fun S => NowM S B (x0 B b c) 0) (fun S => NowM S B (x1 B b c) 0) :=
  nowm_step (t := a0 b c) (Turn.ofs (by decide) (by rw [A.n]; decide) rfl R1 rfl (by decide) (by decide) (by decide) (by decide) 4 (by rfl) (by decide) rfl) m 0 (by rw [A.PS]; rfl) rfl 0 rfl ⟨1, 2, 0, 0, 1⟩ (by rw [A.m]; rfl) (by show (0 : Nat) ≤ 100000; decide) _ _ (show (1 : Int) ≠ 0 ∧ (1 : Int) ≠ 7 ∧ (1 : Int) ≠ 8 by decide) (step_set 2 (by decide) 1 0 (by decide) _)
theorem sp2 (A : SpB B bu pe m y1 y2) : DoesTo B evRun (fun S => NowM S B (x1 B b c) 0) (fun S => NowM S B (x2 B b c) 0) :=
  nowm_step (t := a1 b c) (Turn.ofs (by decide) (by rw [A.n]; decide) rfl R1 rfl (by decide) (by decide) (by decide) (by decide) 5 (by rfl) (by decide) rfl) m 0 (by rw [A.PS]; rfl) rfl 1 rfl ⟨1, 3, 0, 0, 10⟩ (by rw [A.m]; rfl) (by show (1 : Nat) ≤ 100000; decide) _ _ (show (1 : Int) ≠ 0 ∧ (1 : Int) ≠ 7 ∧ (1 : Int) ≠ 8 by decide) (step_set 3 (by decide) 10 1 (by decide) _)
theorem sp3 (A : SpB B bu pe m y1 y2) : DoesTo B evRun (fun S => NowM S B (x2 B b c) 0) (fun S => NowM S B (x3 B b c) 0) :=
  nowm_step (t := a2 b c) (Turn.ofs (by decide) (by rw [A.n]; decide) rfl R1 rfl (by decide) (by decide) (by decide) (by decide) 6 (by rfl) (by decide) rfl) m 0 (by rw [A.PS]; rfl) rfl 2 rfl ⟨1, 4, 0, 0, 0⟩ (by rw [A.m]; rfl) (by show (2 : Nat) ≤ 100000; decide) _ _ (show (1 : Int) ≠ 0 ∧ (1 : Int) ≠ 7 ∧ (1 : Int) ≠ 8 by decide) (step_set 4 (by decide) 0 2 (by decide) _)
theorem sp4 (A : SpB B bu pe m y1 y2) : DoesTo B evRun (fun S => NowM S B (x3 B b c) 0) (fun S => NowM S B (x4 B b c) 0) :=
  nowm_step (t := a3 b c) (Turn.ofs (by decide) (by rw [A.n]; decide) rfl R1 rfl (by decide) (by decide) (by decide) (by decide) 7 (by rfl) (by decide) rfl) m 0 (by rw [A.PS]; rfl) rfl 3 rfl ⟨1, 5, 0, 0, 0⟩ (by rw [A.m]; rfl) (by show (3 : Nat) ≤ 100000; decide) _ _ (show (1 : Int) ≠ 0 ∧ (1 : Int) ≠ 7 ∧ (1 : Int) ≠ 8 by decide) (step_set 5 (by decide) 0 3 (by decide) _)
theorem sp5 (A : SpB B bu pe m y1 y2) : DoesTo B evRun (fun S => NowM S B (x4 B b c) 0) (fun S => ∃ b1 c1, NowM S B (x5 B b c b1 c1) 0) :=
  nowm_create (t := a4 b c) (Turn.ofs (by decide) (by rw [A.n]; decide) rfl R1 rfl (by decide) (by decide) (by decide) (by decide) 8 (by rfl) (by decide) rfl) m 0 (by rw [A.PS]; rfl) rfl 4 rfl (by rw [A.m]; rfl) (by decide) (by show (4 : Nat) ≤ 100000; decide) (by show (0 : Nat) ≤ 100000; decide) 1 10 1 1 0 0 rfl rfl rfl rfl (by decide) (by rw [A.PS]; show (1 : Int) < ((3 : Nat) : Int); decide) (by rw [A.PS]; show (3 : Nat) ≤ 32; decide) (.inl rfl) (.inl rfl) (by rfl) (by rfl) (by decide) rfl (by rfl) (by decide) (by decide) (by rfl) (by rfl) (.inl (by rfl))
theorem sp6 (A : SpB B bu pe m y1 y2) : DoesTo B evRun (fun S => NowM S B (x5 B b c b1 c1) 0) (fun S => NowM S B (x6 B b c b1 c1) 0) :=
  nowm_step (t := a5 b c) (Turn.ofs (by decide) (by rw [A.n]; decide) rfl R2 rfl (by decide) (by decide) (by decide) (by decide) 13 (by rfl) (by decide) rfl) m 0 (by rw [A.PS]; rfl) rfl 5 rfl ⟨1, 2, 0, 0, 2⟩ (by rw [A.m]; rfl) (by show (5 : Nat) ≤ 100000; decide) _ _ (show (1 : Int) ≠ 0 ∧ (1 : Int) ≠ 7 ∧ (1 : Int) ≠ 8 by decide) (step_set 2 (by decide) 2 5 (by decide) _)
theorem sp7 (A : SpB B bu pe m y1 y2) : DoesTo B evRun (fun S => NowM S B (x6 B b c b1 c1) 0) (fun S => NowM S B (x7 B b c b1 c1) 0) :=
  nowm_step (t := a6 b c) (Turn.ofs (by decide) (by rw [A.n]; decide) rfl R2 rfl (by decide) (by decide) (by decide) (by decide) 14 (by rfl) (by decide) rfl) m 0 (by rw [A.PS]; rfl) rfl 6 rfl ⟨1, 3, 0, 0, 15⟩ (by rw [A.m]; rfl) (by show (6 : Nat) ≤ 100000; decide) _ _ (show (1 : Int) ≠ 0 ∧ (1 : Int) ≠ 7 ∧ (1 : Int) ≠ 8 by decide) (step_set 3 (by decide) 15 6 (by decide) _)
theorem sp8 (A : SpB B bu pe m y1 y2) : DoesTo B evRun (fun S => NowM S B (x7 B b c b1 c1) 0) (fun S => NowM S B (x8 B b c b1 c1) 0) :=
  nowm_step (t := a7 b c) (Turn.ofs (by decide) (by rw [A.n]; decide) rfl R2 rfl (by decide) (by decide) (by decide) (by decide) 15 (by rfl) (by decide) rfl) m 0 (by rw [A.PS]; rfl) rfl 7 rfl ⟨1, 4, 0, 0, 0⟩ (by rw [A.m]; rfl) (by show (7 : Nat) ≤ 100000; decide) _ _ (show (1 : Int) ≠ 0 ∧ (1 : Int) ≠ 7 ∧ (1 : Int) ≠ 8 by decide) (step_set 4 (by decide) 0 7 (by decide) _)
theorem sp9 (A : SpB B bu pe m y1 y2) : DoesTo B evRun (fun S => NowM S B (x8 B b c b1 c1) 0) (fun S => NowM S B (x9 B b c b1 c1) 0) :=
  nowm_step (t := a8 b c) (Turn.ofs (by decide) (by rw [A.n]; decide) rfl R2 rfl (by decide) (by decide) (by decide) (by decide) 16 (by rfl) (by decide) rfl) m 0 (by rw [A.PS]; rfl) rfl 8 rfl ⟨1, 5, 0, 0, 0⟩ (by rw [A.m]; rfl) (by show (8 : Nat) ≤ 100000; decide) _ _ (show (1 : Int) ≠ 0 ∧ (1 : Int) ≠ 7 ∧ (1 : Int) ≠ 8 by decide) (step_set 5 (by decide) 0 8 (by decide) _)
theorem sp10 (A : SpB B bu pe m y1 y2) : DoesTo B evRun (fun S => NowM S B (x9 B b c b1 c1) 0) (fun S => ∃ b2 c2, NowM S B (x10 B b c b1 c1 b2 c2) 0) :=
  nowm_create (t := a9 b c) (Turn.ofs (by decide) (by rw [A.n]; decide) rfl R2 rfl (by decide) (by decide) (by decide) (by decide) 17 (by rfl) (by decide) rfl) m 0 (by rw [A.PS]; rfl) rfl 9 rfl (by rw [A.m]; rfl) (by decide) (by show (9 : Nat) ≤ 100000; decide) (by show (1 : Nat) ≤ 100000; decide) 2 15 1 2 0 0 rfl rfl rfl rfl (by decide) (by rw [A.PS]; show (2 : Int) < ((3 : Nat) : Int); decide) (by rw [A.PS]; show (3 : Nat) ≤ 32; decide) (.inl rfl) (.inl rfl) (by rfl) (by rfl) (by decide) rfl (by rfl) (by decide) (by decide) (by rfl) (by rfl) (.inl (by rfl))
theorem sp11 (A : SpB B bu pe m y1 y2) : DoesTo B evRun (fun S => NowM S B (x10 B b c b1 c1 b2 c2) 0) (fun S => NowM S B (x11 B b c b1 c1 b2 c2) 0) :=
  nowm_step (t := a10 b c) (Turn.ofs (by decide) (by rw [A.n]; decide) rfl R3 rfl (by decide) (by decide) (by decide) (by decide) 22 (by rfl) (by decide) rfl) m 0 (by rw [A.PS]; rfl) rfl 10 rfl ⟨1, 2, 0, 0, 17⟩ (by rw [A.m]; rfl) (by show (10 : Nat) ≤ 100000; decide) _ _ (show (1 : Int) ≠ 0 ∧ (1 : Int) ≠ 7 ∧ (1 : Int) ≠ 8 by decide) (step_set 2 (by decide) 17 10 (by decide) _)
theorem sp12 (A : SpB B bu pe m y1 y2) : DoesTo B evRun (fun S => NowM S B (x11 B b c b1 c1 b2 c2) 0) (fun S => NowM S B (x12 B b c b1 c1 b2 c2) 0) :=
  nowm_step (t := a11 b c) (Turn.ofs (by decide) (by rw [A.n]; decide) rfl R3 rfl (by decide) (by decide) (by decide) (by decide) 23 (by rfl) (by decide) rfl) m 0 (by rw [A.PS]; rfl) rfl 11 rfl ⟨1, 3, 0, 0, 20⟩ (by rw [A.m]; rfl) (by show (11 : Nat) ≤ 100000; decide) _ _ (show (1 : Int) ≠ 0 ∧ (1 : Int) ≠ 7 ∧ (1 : Int) ≠ 8 by decide) (step_set 3 (by decide) 20 11 (by decide) _)
theorem sp13 (A : SpB B bu pe m y1 y2) : DoesTo B evRun (fun S => NowM S B (x12 B b c b1 c1 b2 c2) 0) (fun S => NowM S B (x13 B b c b1 c1 b2 c2) 0) :=
  nowm_step (t := a12 b c) (Turn.ofs (by decide) (by rw [A.n]; decide) rfl R3 rfl (by decide) (by decide) (by decide) (by decide) 24 (by rfl) (by decide) rfl) m 0 (by rw [A.PS]; rfl) rfl 12 rfl ⟨1, 4, 0, 0, 10⟩ (by rw [A.m]; rfl) (by show (12 : Nat) ≤ 100000; decide) _ _ (show (1 : Int) ≠ 0 ∧ (1 : Int) ≠ 7 ∧ (1 : Int) ≠ 8 by decide) (step_set 4 (by decide) 10 12 (by decide) _)
theorem sp14 (A : SpB B bu pe m y1 y2) : DoesTo B evRun (fun S => NowM S B (x13 B b c b1 c1 b2 c2) 0) (fun S => NowM S B (x14 B b c b1 c1 b2 c2 bu) 0) :=
  nowm_step (t := a13 b c) (Turn.ofs (by decide) (by rw [A.n]; decide) rfl R3 rfl (by decide) (by decide) (by decide) (by decide) 25 (by rfl) (by decide) rfl) m 0 (by rw [A.PS]; rfl) rfl 13 rfl ⟨1, 5, 0, 0, bu⟩ (by rw [A.m]; rfl) (by show (13 : Nat) ≤ 100000; decide) _ _ (show (1 : Int) ≠ 0 ∧ (1 : Int) ≠ 7 ∧ (1 : Int) ≠ 8 by decide) (step_set 5 (by decide) bu 13 (by decide) _)
theorem sp15 (A : SpB B bu pe m y1 y2) : DoesTo B evRun (fun S => NowM S B (x14 B b c b1 c1 b2 c2 bu) 0) (fun S => NowM S B (x15 B b c b1 c1 b2 c2 bu pe) 0) :=
  nowm_step (t := a14 b c bu) (Turn.ofs (by decide) (by rw [A.n]; decide) rfl R3 rfl (by decide) (by decide) (by decide) (by decide) 26 (by rfl) (by decide) rfl) m 0 (by rw [A.PS]; rfl) rfl 14 rfl ⟨1, 7, 0, 0, pe⟩ (by rw [A.m]; rfl) (by show (14 : Nat) ≤ 100000; decide) _ _ (show (1 : Int) ≠ 0 ∧ (1 : Int) ≠ 7 ∧ (1 : Int) ≠ 8 by decide) (step_set 7 (by decide) pe 14 (by decide) _)
theorem sp16 (A : SpB B bu pe m y1 y2) (h1 : 1 ≤ bu) (h2 : bu ≤ pe) (h3 : pe ≤ 1000) : DoesTo B evRun (fun S => NowM S B (x15 B b c b1 c1 b2 c2 bu pe) 0) (fun S => ∃ sv, NowS S B (x16 B b c b1 c1 b2 c2 bu pe sv) 1 (startF (newF bu pe) 0) 0) :=
  now_spor (t := a15 b c bu pe) (z := o1 b1 c1) (Turn.ofs (by decide) (by rw [A.n]; decide) rfl R3 rfl (by decide) (by decide) (by decide) (by decide) 27 (by rfl) (by decide) rfl) m 0 (by rw [A.PS]; rfl) rfl 15 rfl (by rw [A.m]; rfl) (by decide) (by show (15 : Nat) ≤ 100000; decide) (by show (2 : Nat) ≤ 100000; decide) (by decide) rfl (by decide) (by rfl) rfl rfl 20 10 bu pe rfl rfl rfl rfl (by decide) (by decide) (by decide) h1 h2 h3 10 ⟨by rfl, by decide, by decide, by decide, by decide, by rfl, .inl (by rfl), .inl (by rfl), .inl (by rfl)⟩
theorem sp17 (A : SpB B bu pe m y1 y2) {sv : Nat} {s : Sv} : DoesTo B evRun (fun S => NowS S B (x16 B b c b1 c1 b2 c2 bu pe sv) 1 s 0) (fun S => NowS S B (x17 B b c b1 c1 b2 c2 bu pe sv) 1 s 0) :=
  nows_past (p0 := 31) (t := a16 b c bu pe) (Turn.ofs (by decide) (by rw [A.n]; decide) rfl R4 rfl (by decide) (by decide) (by decide) (by decide) 34 (by rfl) (by decide) rfl) (by decide) m 0 (by rw [A.PS]; rfl) rfl 16 rfl (by rw [A.m]; rfl) (by show (16 : Nat) ≤ 100000; decide) rfl (by show (-1 : Int) < 0; decide) rfl ⟨by rfl, by decide, by decide, by rfl, .inl (by rfl), .inl (by rfl)⟩
theorem cycle : (Rlo.remF 1).headF 20 1 = Rhi := by decide +kernel
end Sp
end Go.Proofs.YtagmlijhgncklaaGreatDoor.Ker
namespace Go.Proofs.YtagmlijhgncklaaGreatDoor.Ker
open Go.RowKit Go.Proofs.YtagmlijhgncklaaGreatDoor Go.Proofs.YtagmlijhgncklaaGreatDoor.Code

def robJ (q : Int) (n a ca b c : Nat) : Job := ⟨8, 4, 4, q, 31, [⟨a, robinsL n, ca⟩, ⟨b, loopL, 2⟩], c, 2⟩
theorem robJ_ok (q : Int) (n a ca b c : Nat) (q1 : 1 ≤ q) (q2 : q ≤ 100) (hn : n ≤ 6) : (robJ q n a ca b c).Ok := by
  refine ⟨by show (1 : Int) ≤ 8; decide, by show (8 : Int) ≤ 16; decide, by show (1 : Int) ≤ 4; decide, by show (4 : Int) ≤ 8; decide, by show (1 : Int) ≤ 4; decide, by show (4 : Int) ≤ 32; decide, q1, q2, by show (1 : Int) ≤ 31; decide, by show (31 : Int) ≤ 31; decide, by show 1 ≤ 2; decide, by show 2 ≤ 32; decide, ?_⟩
  intro x hx
  simp [robJ] at hx
  rcases hx with rfl | rfl
  · exact ⟨robins_ok n _, by show (robinsL n).length ≤ 256; rw [robins_len]; omega⟩
  · exact ⟨loop_ok, by show (2 : Nat) ≤ 256; decide⟩
/-- A list of the caller's own, as a program in memory. -/
theorem own_prg {w : World} {B : Nat} {v : Value} {L : List Ins} (h : OwnI w B v L) (hl : 0 < L.length) : ∃ a ca, v = .slice (some ⟨a, 0, none⟩) L.length ca ∧ B ≤ a ∧ PrgH w a L := by
  rcases h.2 with ⟨_, h0⟩ | ⟨g, cap, cur, e, hb, hg, _, _, hs, ht⟩
  · omega
  · refine ⟨g, cap, e, hb, cur.toList, by simpa using hg, fun k i hk j hj => ?_⟩
    have hk2 : k < L.length := (List.getElem?_eq_some_iff.1 hk).1
    have q := flat_at L k i j hj hk
    rw [← ht] at q
    rw [List.getElem?_take_of_lt (by omega)] at q
    exact q
theorem robJ_pgs {w : World} {q : Int} {n a ca b c : Nat} (ha : PrgH w a (robinsL n)) (hb : w.heap[b]? = some (.cells (loopL.flatMap Ins.cells).toArray 29 (0, 0))) (hc : w.heap[c]? = some (.cells #[.slice (some ⟨a, 0, none⟩) (robinsL n).length ca, .slice (some ⟨b, 0, none⟩) 2 2] 24 (0, 0))) : PgsH w c (robJ q n a ca b c).PS := by
  refine ⟨⟨[.slice (some ⟨a, 0, none⟩) (robinsL n).length ca, .slice (some ⟨b, 0, none⟩) 2 2], hc, ?_⟩, ?_⟩
  · intro k x hk
    match k, hk with
    | 0, hk => cases hk; rfl
    | 1, hk => cases hk; rfl
  · intro x hx
    simp [robJ] at hx
    rcases hx with rfl | rfl
    · exact ha
    · exact ⟨_, hb, fun k i hk j hj => flat_at loopL k i j hj hk⟩
theorem robB_of {B : KB} {PS : List Prg} {b cap n : Nat} {t o s q pr : Int} (hJ : B.J = ⟨t, o, s, q, pr, PS, b, cap⟩) (hL : PS.map Prg.L = [robinsL n, loopL]) (hn : B.n = 8) : ∃ m y, RobB B n q m y := by
  match PS, hL, hJ with
  | [m, y], hL, hJ =>
    simp at hL
    exact ⟨m, y, hn, by rw [hJ], by rw [hJ], hL.1, hL.2⟩
  | [], hL, _ => simp at hL
  | [_], hL, _ => simp at hL
  | _ :: _ :: _ :: _, hL, _ => simp at hL
/-- What was there ahead of the kernel is as it was. -/
def BelowK (w : World) (S : KS) (W : World) : Prop := Below w.heap.size w W ∧ ∀ k, k < w.heap.size → S.lo.lab k = 0
theorem BelowK.fr {w W W' : World} {S S' : KS} (h : BelowK w S W) (f : Fr S S' W W') : BelowK w S' W' :=
  ⟨⟨f.os.trans h.1.os, f.tape.trans h.1.tape, f.output.trans h.1.output, Nat.le_trans h.1.size f.size, fun k hk => (f.block k (Nat.lt_of_lt_of_le hk h.1.size) (h.2 k hk)).trans (h.1.block k hk)⟩, fun k hk => (f.lab k (Nat.lt_of_lt_of_le hk h.1.size)).trans (h.2 k hk)⟩
theorem BelowK.reads {w W W' : World} {S : KS} (h : BelowK w S W) (b : Below W.heap.size W W') : BelowK w S W' := h.fr (Fr.reads S b)
/-- A block outside of the kernel is set. -/
theorem KW.outer {w w' : World} {S : KS} {b : Nat} {o : Obj} (h : KW w S) (hl : S.lo.lab b = 0) (U : Upd w b o w') : KW w' S :=
  h.keeps U.2.size fun c hc h0 => U.2.block c hc (by intro e; cases e; exact h0 hl)
theorem BelowK.outer {w W W' : World} {S : KS} {b : Nat} {o : Obj} (h : BelowK w S W) (hb : w.heap.size ≤ b) (U : Upd W b o W') : BelowK w S W' :=
  ⟨h.1.trans (U.below hb h.1.size), h.2⟩
def hasC (f : Nat → Int) : Array Value := #[.int .i64 (f 0), .int .i64 (f 1), .int .i64 (f 2), .int .i64 (f 3), .int .i64 (f 4), .int .i64 (f 5), .int .i64 (f 6), .int .i64 (f 7)]
theorem has_at (f : Nat → Int) {i : Nat} (hi : i < 8) : (hasC f)[i]? = some (.int .i64 (f i)) := by
  match i, hi with
  | 0, _ => rfl | 1, _ => rfl | 2, _ => rfl | 3, _ => rfl | 4, _ => rfl | 5, _ => rfl | 6, _ => rfl | 7, _ => rfl | _ + 8, h => exact absurd h (by omega)
theorem has_put (f : Nat → Int) {i : Nat} (hi : i < 8) (x : Int) : (hasC f).setIfInBounds i (.int .i64 x) = hasC (put f i x) := by
  match i, hi with
  | 0, _ => rfl | 1, _ => rfl | 2, _ => rfl | 3, _ => rfl | 4, _ => rfl | 5, _ => rfl | 6, _ => rfl | 7, _ => rfl | _ + 8, h => exact absurd h (by omega)
theorem grown_below {w W W' : World} {v : Value} {L : List Ins} (h : Below w.heap.size w W) (ho : OwnI W w.heap.size v L) (g : W.grownBy W' v.ownBlock) : Below w.heap.size w W' :=
  ⟨g.os.trans h.os, g.tape.trans h.tape, g.output.trans h.output, Nat.le_trans h.size g.size, fun k hk => (g.block k (Nat.lt_of_lt_of_le hk h.size) (by
    rcases ho.2 with ⟨e, _⟩ | ⟨a, cap, cur, e, hb, _⟩
    · rw [e]; intro q; cases q
    · rw [e]; intro q; cases q; exact absurd hk (by show ¬ a < _; omega))).trans (h.block k hk)⟩
theorem hs_no (k : Nat) : (List.replicate 16 Hs.no).getD k Hs.no = Hs.no := by
  rw [List.getD_eq_getElem?_getD, List.getElem?_replicate]
  split <;> rfl
theorem main_start {B : KB} {n : Nat} {q : Int} {m y : Prg} (A : RobB B n q m y) (b c : Nat) : MainAt q 0 0 (Pl.first B 8 31 b c) := by
  refine ⟨rfl, rfl, ?_, fun k k1 k2 => absurd k1 (by omega), ?_, rfl, rfl, rfl, rfl, rfl, ⟨Th.new b c ((0 : Nat) + 16 * 1) 0 (31 : Nat) 0 true, rfl, ⟨rfl, rfl, rfl, rfl, rfl, by show (-1 : Int) < 0; decide, fun h => absurd h (by decide), fun h => absurd h (by decide), fun h => absurd h (by decide), fun h => absurd h (by decide)⟩⟩, fun k k1 k2 => absurd k1 (by omega), ?_⟩
  · show ((List.replicate 16 Hs.no).set 0 ⟨true, false, (31 : Nat), B.J.q⟩).getD 0 Hs.no = _
    rw [A.q]; rfl
  · intro k hk
    show ((List.replicate 16 Hs.no).set 0 _).getD k Hs.no = _
    rw [hs_set _ _ _ _ (by decide), if_neg (by omega), hs_no]
  · intro k hk
    show put (fun _ => (none : Option Th)) 0 (some _) k = none
    rw [put_ne _ _ (by omega)]
/-- Behind k runs. -/
def Phase (B : KB) (n : Nat) (q : Int) (k : Nat) (S : KS) : Prop := if k = 5 * n + 1 then Som B (RingAt n q 0 q 100 100) S else Som B (MainAt q (k / 5) (k % 5)) S
theorem phase_next {B : KB} {n : Nat} {q : Int} {m y : Prg} (A : RobB B n q m y) (n0 : 0 < n) (n1 : n < 7) (k : Nat) (hk : k < 5 * n + 1) : DoesTo B evRun (Phase B n q k) (Phase B n q (k + 1)) := by
  unfold Phase
  rw [show (fun S => if k = 5 * n + 1 then Som B (RingAt n q 0 q 100 100) S else Som B (MainAt q (k / 5) (k % 5)) S) = Som B (MainAt q (k / 5) (k % 5)) by funext S; rw [if_neg (by omega)]]
  by_cases h : k = 5 * n
  · subst h
    rw [show (fun S => if 5 * n + 1 = 5 * n + 1 then Som B (RingAt n q 0 q 100 100) S else Som B (MainAt q ((5 * n + 1) / 5) ((5 * n + 1) % 5)) S) = Som B (RingAt n q 0 q 100 100) by funext S; rw [if_pos rfl], show 5 * n / 5 = n by omega, show 5 * n % 5 = 0 by omega]
    exact main_ends A n0 n1
  · rw [show (fun S => if k + 1 = 5 * n + 1 then Som B (RingAt n q 0 q 100 100) S else Som B (MainAt q ((k + 1) / 5) ((k + 1) % 5)) S) = Som B (MainAt q ((k + 1) / 5) ((k + 1) % 5)) by funext S; rw [if_neg (by omega)]]
    by_cases h4 : k % 5 = 4
    · rw [show (k + 1) / 5 = k / 5 + 1 by omega, show (k + 1) % 5 = 0 by omega, h4]
      exact main_make A n1 (by omega)
    · rw [show (k + 1) / 5 = k / 5 by omega, show (k + 1) % 5 = k % 5 + 1 by omega]
      exact main_set A n1 (by omega) (by omega)
theorem alive_7 (w : World) : Calls Tryz.prog 7 #[] w fun e w' => e = .returned (.bool true) ∧ Below w.heap.size w w' := alive_c w
/-- Ahead of tick c. -/
def TickS (w : World) (B : KB) (n : Nat) (q : Int) (hb c : Nat) (W : World) : Prop :=
  ∃ (i : Nat) (lf : Int) (f : Nat → Int) (S : KS), i < n ∧ HasAt n q i lf c f ∧ Som B (RingAt n q i lf (100 + 20 * c) (100 + 4 * c)) S ∧ KW W S ∧ Out W S hb (.cells (hasC f) 50 (0, 0)) ∧ BelowK w S W
theorem TickS.reads {w : World} {B : KB} {n : Nat} {q : Int} {hb c : Nat} {W W' : World} (h : TickS w B n q hb c W) (b : Below W.heap.size W W') : TickS w B n q hb c W' := by
  obtain ⟨i, lf, f, S, h1, h2, h3, h4, h5, h6⟩ := h
  exact ⟨i, lf, f, S, h1, h2, h3, h4.reads b, h5.fr (Fr.reads S b), h6.reads b⟩
set_option maxHeartbeats 2000000 in
set_option maxRecDepth 100000 in
theorem robins_walk (w : World) (n : Nat) (q tk : Int) (n0 : 1 ≤ n) (n1 : n ≤ 6) (q0 : 1 ≤ q) (q1 : q ≤ 100) (t0 : 0 ≤ tk) (t1 : tk ≤ 300) : Calls Tryz.prog 4 #[.int .i64 n, .int .i64 q, .int .i64 tk] w fun e w' => e = .returned (.bool true) ∧ Below w.heap.size w w' := by
  go_enter Tryz.func4, Tryz.ntmps4
  go_wp2_with fail
  go_loopw [7, 8] (fun v i wr => ∃ j : Nat, i = .int .i64 j ∧ j ≤ n ∧ OwnI wr w.heap.size v (robinsL j) ∧ Below w.heap.size w wr) (fun _ i _ => n - (intOf i).toNat)
  case atStart => exact ⟨0, rfl, by omega, ⟨rfl, .inl ⟨rfl, rfl⟩⟩, Below.refl _ _⟩
  case round =>
    obtain ⟨j, rfl, hj, ho, hb⟩ := hrel
    by_cases hlt : j < n
    · have PC := put_c (wr.alloc (.cells #[.int .i64 1, .int .i64 9, .int .i64 1, .int .i64 0] 2)) w.heap.size u7 (robinsL j) (World.ownsRow.alloc ho _) (Nat.le_trans hb.size (by simp)) 1 wr.heap.size 4 [1, 9, 1, 0] (heap_alloc_new wr _) (fun e => absurd (owns_lt ho e) (by omega)) (by rw [robins_len]; omega) (by decide)
      simp only [robins_put] at PC
      have HO := Lib.hid ho
      have HB := Lib.hid hb
      clear ho hb
      go_wp2_with (go_at_call 8; refine PC.mono ?_; rintro e w1 ⟨v1, rfl, PW⟩; have HPW := Lib.hid PW; clear PW PC)
      go_roundw
      case rel => exact ⟨j + 1, by go_num, by omega, HPW.out.own, grown_below (HB.out.alloc HB.out.size _) (World.ownsRow.alloc HO.out _) HPW.out.grown⟩
      case measure => simp [intOf]; omega
    · obtain rfl : j = n := by omega
      obtain ⟨a, ca, rfl, ha, hp⟩ := own_prg ho (by rw [robins_len]; omega)
      have hlen : (robinsL j).length = 5 * j := robins_len j
      rw [hlen]
      have hp : PrgH wr a (robinsL j) := hp
      have HB := Lib.hid hb
      have HP0 := Lib.hid hp
      have HLEN := Lib.hid hlen
      clear hb hp ho hlen
      have JC : ∀ V, Calls Tryz.prog 11 #[.slice (some ⟨wr.heap.size + 1, 0, none⟩) 2 2] V fun e w' => e = .returned (.agg #[.int .i64 4, .int .i64 4, .int .i64 4, .int .i64 2, .int .i64 512, .int .i64 5, .slice (some ⟨wr.heap.size + 1, 0, none⟩) 2 2, .slice none 0 0]) ∧ Below V.heap.size V w' := fun V => Job_c V [⟨a, robinsL j, ca⟩, ⟨wr.heap.size, loopL, 2⟩] (wr.heap.size + 1) 2
      go_upto_region 9 with (go_at_call 11; with_reducible refine (JC _).mono ?_; rintro e w1 ⟨rfl, b1⟩; have HB1 := Lib.hid b1; clear b1 JC)
      obtain ⟨c, hc⟩ : ∃ c, c = wr.heap.size + 1 := ⟨_, rfl⟩
      obtain ⟨b, hb⟩ : ∃ b, b = wr.heap.size := ⟨_, rfl⟩
      have xb := heap_alloc_new wr (.cells #[.int .i64 3, .int .i64 7, .int .i64 7, .int .i64 6, .int .i64 0, .int .i64 5, .int .i64 0, .int .i64 0, .int .i64 0, .int .i64 0] 29)
      have xc := heap_alloc_new (wr.alloc (.cells #[.int .i64 3, .int .i64 7, .int .i64 7, .int .i64 6, .int .i64 0, .int .i64 5, .int .i64 0, .int .i64 0, .int .i64 0, .int .i64 0] 29)) (.cells #[.slice (some ⟨a, 0, none⟩) (robinsL j).length ca, .slice (some ⟨b, 0, none⟩) 2 2] 24)
      rw [show (wr.alloc (.cells #[.int .i64 3, .int .i64 7, .int .i64 7, .int .i64 6, .int .i64 0, .int .i64 5, .int .i64 0, .int .i64 0, .int .i64 0, .int .i64 0] 29)).heap.size = c by rw [hc]; simp] at xc
      have bl1 := (Below.refl wr.heap.size wr).alloc (Nat.le_refl _) (.cells #[.int .i64 3, .int .i64 7, .int .i64 7, .int .i64 6, .int .i64 0, .int .i64 5, .int .i64 0, .int .i64 0, .int .i64 0, .int .i64 0] 29)
      have bl2 := bl1.alloc (by simp) (.cells #[.slice (some ⟨a, 0, none⟩) (robinsL j).length ca, .slice (some ⟨b, 0, none⟩) 2 2] 24)
      have hpg : PgsH ((wr.alloc (.cells #[.int .i64 3, .int .i64 7, .int .i64 7, .int .i64 6, .int .i64 0, .int .i64 5, .int .i64 0, .int .i64 0, .int .i64 0, .int .i64 0] 29)).alloc (.cells #[.slice (some ⟨a, 0, none⟩) (robinsL j).length ca, .slice (some ⟨b, 0, none⟩) 2 2] 24)) c (robJ q j a ca b c).PS := robJ_pgs (HP0.out.reads bl2) (by rw [hb]; exact below_alloc_has xb) xc
      have hb1 := HB1.out
      rw [← HLEN.out, ← hb] at hb1
      have hbw := HB.out.trans (bl2.mono HB.out.size)
      have hpg1 := hpg.reads hb1
      have hbw1 := hbw.trans (hb1.mono hbw.size)
      obtain ⟨jb, hjb⟩ : ∃ jb, jb = w1.heap.size := ⟨_, rfl⟩
      have bl3 := (Below.refl w1.heap.size w1).alloc (Nat.le_refl _) (.cells #[.int .i64 4, .int .i64 4, .int .i64 4, .int .i64 2, .int .i64 512, .int .i64 5, .slice (some ⟨c, 0, none⟩) 2 2, .slice none 0 0] 34)
      rw [← hc, ← hjb]
      refine world_wp (fun W => W.heap[jb]? = some (.cells #[.int .i64 4, .int .i64 4, .int .i64 4, .int .i64 2, .int .i64 512, .int .i64 5, .slice (some ⟨c, 0, none⟩) 2 2, .slice none 0 0] 34 (0, 0)) ∧ ∀ o W', Upd W jb o W' → PgsH W' c (robJ q j a ca b c).PS ∧ Below w.heap.size w W') ⟨by rw [hjb]; exact heap_alloc_new w1 _, fun o W' U => by
        have bu := bl3.trans (U.below (B := w1.heap.size) (by rw [hjb]; exact Nat.le_refl _) bl3.size)
        exact ⟨hpg1.reads bu, hbw1.trans (bu.mono hbw1.size)⟩⟩ ?_
      have hjw : w.heap.size ≤ jb := by rw [hjb]; exact hbw1.size
      have HJW0 := Lib.hid hjw
      clear bl3 hbw1 hpg1 hbw hb1 hpg bl2 bl1 xc xb hc HB1 HP0 HLEN hjb hb hjw
      rintro W ⟨xj, hpg⟩
      have fz := has_free xj
      have U0 := ((((Upd.refl xj).setCell 0 (.int .i64 8)).setCell 5 (.int .i64 31)).setCell 3 (.int .i64 q))
      have c0 : W.cell? ⟨jb, 0, none⟩ = some (.int .i64 4) := has_cell 0 xj rfl
      have c5 : W.cell? ⟨jb, 5, none⟩ = some (.int .i64 5) := has_cell 5 xj rfl
      have c3 : W.cell? ⟨jb, 3, none⟩ = some (.int .i64 2) := has_cell 3 xj rfl
      have U1 := U0.to (o' := .cells (robJ q j a ca b c).cells.toArray 34 (0, 0)) (by simp only [robJ, Job.cells, List.setIfInBounds_toArray, List.set_cons_succ, List.set_cons_zero]; rfl)
      have HU := Lib.hid (And.intro U1.1 (hpg _ _ U1))
      clear hpg U0 U1
      go_upto_region 12 with fail
      refine world_wp (fun W => W.heap[jb]? = some (.cells (robJ q j a ca b c).cells.toArray 34 (0, 0)) ∧ PgsH W c (robJ q j a ca b c).PS ∧ Below w.heap.size w W) HU.out ?_
      clear HU xj c0 c5 c3 fz W
      clear w1
      rintro W ⟨xj, hpg, hbw⟩
      have d0 : W.cell? ⟨jb, 0, none⟩ = some (.int .i64 8) := has_cell 0 xj rfl
      have d1 : W.cell? ⟨jb, 1, none⟩ = some (.int .i64 4) := has_cell 1 xj rfl
      have d2 : W.cell? ⟨jb, 2, none⟩ = some (.int .i64 4) := has_cell 2 xj rfl
      have d3 : W.cell? ⟨jb, 3, none⟩ = some (.int .i64 q) := has_cell 3 xj rfl
      have d4 : W.cell? ⟨jb, 4, none⟩ = some (.int .i64 512) := has_cell 4 xj rfl
      have d5 : W.cell? ⟨jb, 5, none⟩ = some (.int .i64 31) := has_cell 5 xj rfl
      have d6 : W.cell? ⟨jb, 6, none⟩ = some (.slice (some ⟨c, 0, none⟩) 2 2) := has_cell 6 xj rfl
      have d7 : W.cell? ⟨jb, 7, none⟩ = some (.slice none 0 0) := has_cell 7 xj rfl
      have HPG := Lib.hid hpg
      have HBW := Lib.hid hbw
      have NC : ∀ V, PgsH V c (robJ q j a ca b c).PS → _ := fun V h => new_c V (robJ q j a ca b c) h (robJ_ok q j a ca b c q0 q1 n1) 8 4 31 rfl rfl rfl
      clear hpg hbw xj
      go_upto_region 13 with (go_at_call 12; refine (NC _ HPG.out).mono ?_; rintro e w2 ⟨B, lo, tb, tc, rfl, hJ, hn, l1, l2, l3, l4, k2, cm, b2, hl⟩; have HK2 := Lib.hid k2; have HN0 := Lib.hid (now_first cm l1 l3 l4); have HB2 := Lib.hid (HBW.out.trans (b2.mono HBW.out.size)); have HJJ := Lib.hid hJ; have HNN := Lib.hid hn; have HLL := Lib.hid hl; clear NC k2 cm l1 l2 l3 l4 b2 hJ hn hl)
      obtain ⟨m, y, AB⟩ : ∃ m y, RobB B j q m y := by
        obtain ⟨PS, b', cap, h1, h2⟩ := HJJ.out
        exact robB_of h1 h2 HNN.out
      have HAB := Lib.hid AB
      have HSW : RowKit.Hid (∃ S, Phase B j q 0 S ∧ KW w2 S ∧ BelowK w S w2) := Lib.hid ⟨_, by unfold Phase; rw [if_neg (by omega)]; exact ⟨_, main_start AB tb tc, HN0.out⟩, HK2.out, HB2.out, fun k hk => HLL.out k (Nat.lt_of_lt_of_le hk HBW.out.size)⟩
      clear AB d0 d1 d2 d3 d4 d5 d6 d7 HPG HBW HK2 HN0 HB2 HJJ HNN HLL HJW0 W
      go_wp2_with fail
      go_loopw [12] (fun i wr => ∃ (k : Nat) (S : KS), i = .int .i64 k ∧ k ≤ 5 * j + 1 ∧ Phase B j q k S ∧ KW wr S ∧ BelowK w S wr) (fun i _ => 5 * j + 1 - (intOf i).toNat)
      case atStart =>
        obtain ⟨S, h1, h2, h3⟩ := HSW.out
        exact ⟨0, S, rfl, by omega, h1, h2, h3⟩
      case round =>
        clear HSW
        obtain ⟨k, S, rfl, hk, hA, hK, hF⟩ := hrel
        have HA := Lib.hid hA
        have HK := Lib.hid hK
        have HF := Lib.hid hF
        clear hA hK hF
        by_cases hlt : k < 5 * j + 1
        · have i1 : (0 : Int) ≤ k := by omega
          go_wp2_with (first
            | (go_at_call 14; refine (Run_c _).mono ?_; rintro e w3 ⟨rfl, b3⟩; have HK3 := Lib.hid (HK.out.reads b3); have HF3 := Lib.hid (HF.out.reads b3); clear b3)
            | (go_at_call 13; refine (phase_next HAB.out (by omega) (by omega) k (by omega) w3 S HA.out HK3.out).mono ?_; rintro e w4 ⟨S4, rfl, hA4, k4, f4⟩; have HA4 := Lib.hid hA4; have HK4 := Lib.hid k4; have HF4 := Lib.hid (HF3.out.fr f4); clear hA4 k4 f4))
          go_roundw
          case rel => exact ⟨k + 1, S4, by go_num, by omega, HA4.out, HK4.out, HF4.out⟩
          case measure => simp [intOf]; omega
        · obtain rfl : k = 5 * j + 1 := by omega
          have hR : Som B (RingAt j q 0 q 100 100) S := by have := HA.out; unfold Phase at this; rwa [if_pos rfl] at this
          have HR := Lib.hid hR
          clear hR HA
          obtain ⟨hb, hhb⟩ : ∃ hb, hb = wr.heap.size := ⟨_, rfl⟩
          have U0 := (Below.refl wr.heap.size wr).alloc (Nat.le_refl _) (.cells (hasC fun _ => 0) 50)
          have HT0 : RowKit.Hid (w.heap.size ≤ hb ∧ TickS w B j q hb 0 (wr.alloc (.cells (hasC fun _ => 0) 50))) := Lib.hid ⟨by rw [hhb]; exact HF.out.1.size, 0, q, fun _ => 0, S, by omega, HasAt.zero j q q0, HR.out, HK.out.reads U0, ⟨by rw [hhb]; exact heap_alloc_new wr _, HK.out.fresh _ (by rw [hhb]; exact Nat.le_refl _)⟩, HF.out.reads U0⟩
          unfold hasC at HT0
          clear HR HK HF U0
          go_upto_region 20 with fail
          rw [← hhb]
          clear hhb
          refine world_wp (fun W => w.heap.size ≤ hb ∧ TickS w B j q hb 0 W) HT0.out ?_
          clear HT0 wr
          rintro W hT0
          have HT0 := Lib.hid hT0
          clear hT0
          go_wp2_with fail
          go_loopw [14] (fun i wr => ∃ c : Nat, i = .int .i64 c ∧ (c : Int) ≤ tk ∧ w.heap.size ≤ hb ∧ TickS w B j q hb c wr) (fun i _ => (tk - intOf i).toNat)
          case atStart => exact ⟨0, rfl, by omega, HT0.out⟩
          case round =>
            clear HT0
            obtain ⟨c, rfl, hc, hwb, i, lf, f, S, hi, hH, hS, hK, hO, hF⟩ := hrel
            have HH := Lib.hid hH
            have HK := Lib.hid hK
            have HO := Lib.hid hO
            have HF := Lib.hid hF
            have HSo := Lib.hid hS
            have HWB := Lib.hid hwb
            clear hH hK hO hF hwb
            by_cases hlt : (c : Int) < tk
            · obtain ⟨x, M, N⟩ := hS
              obtain ⟨b1, b2, s0, _⟩ := ring_facts j (by omega) i hi
              have RU := Runs_c wr S N.B HK.out N.calm.P (by rw [N.R, M.R]; exact b1) (by rw [N.R, M.R]; exact b2) (by rw [N.R, M.R]; exact s0) (by rw [N.st]; exact M.st0) (by rw [N.st]; have := M.st; omega)
              rw [show S.R.firstF = ((i + 1 : Nat) : Int) by rw [N.R, M.R]; exact ring_first j (by omega) i hi] at RU
              have hS1 := ring_runs HSo.out
              obtain ⟨S1, eS1⟩ : ∃ S1 : KS, S1 = { S with st := S.st + 1 } := ⟨_, rfl⟩
              rw [← eS1] at hS1 RU
              have HS1 := Lib.hid hS1
              have hfb := HH.out.f0 (i + 1)
              clear hS1 eS1 N M b1 b2 s0 HSo
              have p0 : (1 : Int) ≤ ((i + 1 : Nat) : Int) := by omega
              have p1 : ((i + 1 : Nat) : Int) ≤ j := by omega
              go_upto_region 26 with (go_at_call 16; refine RU.mono ?_; rintro e w5 ⟨rfl, k5, f5⟩; have HK5 := Lib.hid k5; have HF5 := Lib.hid (HF.out.fr f5); have HO5 := Lib.hid (HO.out.fr f5); clear k5 f5 RU)
              obtain ⟨xh, lh⟩ := HO5.out
              have ch : w5.cell? ⟨hb, i + 1, none⟩ = some (.int .i64 (f (i + 1))) := has_cell _ xh (has_at f (by omega))
              have fz := has_free xh
              have U1 := (Upd.refl xh).setCell (i + 1) (.int .i64 (f (i + 1) + 1))
              have U2 := U1.to (o' := .cells (hasC (put f (i + 1) (f (i + 1) + 1))) 50 (0, 0)) (by rw [has_put f (by omega)])
              have HK6 := Lib.hid (HK5.out.outer lh U2)
              have HF6 := Lib.hid (HF5.out.outer HWB.out U2)
              have HO6 : RowKit.Hid (Out (w5.setCell ⟨hb, i + 1, none⟩ (.int .i64 (f (i + 1) + 1))) S1 hb _) := Lib.hid ⟨U2.1, lh⟩
              have fi0 := hfb.1
              have fi1 := hfb.2
              clear U1 U2 xh lh HK5 HF5 HO5 hfb
              go_upto_region 27 with fail
              clear ch fz fi0 fi1 p0 p1
              obtain ⟨g, hg⟩ : ∃ g, g = put f (i + 1) (f (i + 1) + 1) := ⟨_, rfl⟩
              have hH7 := HH.out.next hi
              rw [← hg] at hH7 HO6
              have HH7 := Lib.hid hH7
              obtain ⟨i7, hi7⟩ : ∃ i7, i7 = nextI j i lf := ⟨_, rfl⟩
              obtain ⟨lf7, hlf7⟩ : ∃ lf7, lf7 = nextL q lf := ⟨_, rfl⟩
              have li7 : i7 < j := by rw [hi7]; unfold nextI; split; · exact hi
                                      · exact Nat.mod_lt _ (by omega)
              have lf100 : lf ≤ 100 := by have := HH.out.l1; omega
              have c300 : c ≤ 300 := by omega
              have RUN := ring_run HAB.out (by omega) hi (sb := 100 + 20 * c + 1) (lb := 100 + 4 * c) (by omega) (by omega) (lf := lf)
              have TICK := ring_tick HAB.out (by omega) hi (sb := 100 + 20 * c + 1 + 1) (lb := 100 + 4 * c + 1) (by omega) (by omega) (lf := lf) lf100
              rw [← hi7, ← hlf7] at TICK hH7
              have HRUN := Lib.hid RUN
              have HTICK := Lib.hid TICK
              have HH8 := Lib.hid hH7
              have HI := Lib.hid li7
              have HC := Lib.hid c300
              clear RUN TICK hH7 HH7 hg hi7 hlf7 li7 lf100 HH c300
              refine world_wp (fun W => KW W S1 ∧ BelowK w S1 W ∧ Out W S1 hb (.cells (hasC g) 50 (0, 0))) ⟨HK6.out, HF6.out, HO6.out⟩ ?_
              clear HK6 HF6 HO6 w5
              rintro W6 ⟨k6, f6, o6⟩
              have HK6 := Lib.hid k6
              have HF6 := Lib.hid f6
              have HO6 := Lib.hid o6
              clear k6 f6 o6
              go_upto_region 29 with (first
                | (go_at_call 14; refine (Run_c _).mono ?_; rintro e w7 ⟨rfl, b7⟩; have HK7 := Lib.hid (HK6.out.reads b7); have HF7 := Lib.hid (HF6.out.reads b7); have HO7 := Lib.hid (HO6.out.fr (Fr.reads S1 b7)); clear b7 HK6 HF6 HO6)
                | (go_at_call 13; refine (HRUN.out w7 S1 HS1.out HK7.out).mono ?_; rintro e w8 ⟨S8, rfl, hA8, k8, f8⟩; have HA8 := Lib.hid hA8; have HK8 := Lib.hid k8; have HF8 := Lib.hid (HF7.out.fr f8); have HO8 := Lib.hid (HO7.out.fr f8); clear hA8 k8 f8 HK7 HF7 HO7 HS1 HRUN)
                | (go_at_call 17; refine (Tick_c _).mono ?_; rintro e w9 ⟨rfl, b9⟩; have HK9 := Lib.hid (HK8.out.reads b9); have HF9 := Lib.hid (HF8.out.reads b9); have HO9 := Lib.hid (HO8.out.fr (Fr.reads S8 b9)); clear b9 HK8 HF8 HO8)
                | (go_at_call 13; refine (HTICK.out w9 S8 HA8.out HK9.out).mono ?_; rintro e w10 ⟨S10, rfl, hA10, k10, f10⟩; have HA10 := Lib.hid hA10; have HK10 := Lib.hid k10; have HF10 := Lib.hid (HF9.out.fr f10); have HO10 := Lib.hid (HO9.out.fr f10); clear hA10 k10 f10 HK9 HF9 HO9 HTICK))
              have HT10 : RowKit.Hid (TickS w B j q hb (c + 1) w10) := Lib.hid ⟨i7, lf7, g, S10, HI.out, HH8.out, by
                obtain ⟨x, M, N⟩ := HA10.out
                exact ⟨x, ⟨M.R, M.Ll, M.L1, M.st0, by have := M.st; omega, by have := M.ln; omega, M.t1⟩, N⟩, HK10.out, HO10.out, HF10.out⟩
              have HG : RowKit.Hid (w10.heap[hb]? = some (.cells (hasC g) 50 (0, 0))) := Lib.hid HO10.out.1
              clear HA10 HK10 HF10 HO10 HI
              go_wp2_with fail
              go_loopw [17] (fun u wr => ∃ a : Nat, u = .int .i64 a ∧ 1 ≤ a ∧ a ≤ j + 1 ∧ Below w10.heap.size w10 wr) (fun u _ => j + 1 - (intOf u).toNat)
              case atStart => exact ⟨1, rfl, by omega, by omega, Below.refl _ _⟩
              case round =>
                obtain ⟨a, rfl, a1, a2, ba⟩ := hrel
                have HBa := Lib.hid ba
                clear ba
                by_cases alt : a < j + 1
                · go_wp2_with fail
                  go_loopw [18] (fun u wr => ∃ b : Nat, u = .int .i64 b ∧ 1 ≤ b ∧ b ≤ j + 1 ∧ Below w10.heap.size w10 wr) (fun u _ => j + 1 - (intOf u).toNat)
                  case atStart => exact ⟨1, rfl, by omega, by omega, HBa.out⟩
                  case round =>
                    clear HBa
                    obtain ⟨b, rfl, b1, b2, bb⟩ := hrel
                    have HBb := Lib.hid bb
                    clear bb
                    by_cases blt : b < j + 1
                    · have xg := below_has HBb.out HG.out
                      have ca' : wr.cell? ⟨hb, a, none⟩ = some (.int .i64 (g a)) := has_cell _ xg (has_at g (by omega))
                      have cb' : wr.cell? ⟨hb, b, none⟩ = some (.int .i64 (g b)) := has_cell _ xg (has_at g (by omega))
                      have fair := HH8.out.fair a b a1 (by omega) b1 (by omega)
                      have ga := HH8.out.f0 a
                      have gb := HH8.out.f0 b
                      have hcc := HC.out
                      have ga0 := ga.1
                      have gb0 := gb.1
                      have gb1 : g b ≤ 301 := by have := gb.2; omega
                      have ga1 : g a ≤ 301 := by have := ga.2; omega
                      clear xg ga gb hcc
                      go_upto_region 35 with fail
                      go_region
                      go_wp2_with fail
                      go_roundw
                      case rel => exact ⟨b + 1, by go_num, by omega, by omega, HBb.out.drew⟩
                      case measure => simp [intOf]; omega
                    · obtain rfl : b = j + 1 := by omega
                      go_wp2_with fail
                      go_roundw
                      case rel => exact ⟨a + 1, by go_num, by omega, by omega, HBb.out⟩
                      case measure => simp [intOf]; omega
                · obtain rfl : a = j + 1 := by omega
                  have HT := Lib.hid (HT10.out.reads HBa.out)
                  go_wp2_with fail
                  go_roundw
                  case rel =>
                    iterate 57 apply Exists.intro
                    refine ⟨?_, rfl⟩
                    exact ⟨c + 1, by go_num, by go_num, HWB.out, HT.out⟩
                  case measure => simp [intOf]; omega
            · obtain rfl : (c : Int) = tk := by omega
              go_wp2_with (go_at_call 7; refine (alive_7 _).mono ?_; rintro e w9 ⟨rfl, b9⟩; have HB9 := Lib.hid b9; clear b9)
              go_ret
              exact ⟨rfl, HF.out.1.trans (HB9.out.mono HF.out.1.size)⟩
end Go.Proofs.YtagmlijhgncklaaGreatDoor.Ker
namespace Go.Proofs.YtagmlijhgncklaaGreatDoor.Ker
open Go.RowKit Go.Proofs.YtagmlijhgncklaaGreatDoor Go.Proofs.YtagmlijhgncklaaGreatDoor.Code Go.Proofs.YtagmlijhgncklaaGreatDoor.Spo

/-- A thread that goes round a loop of two instructions. -/
structure LoopTh (t : Th) (n : Nat) : Prop where
  prog : t.prog = n
  pc : t.pc = (0 : Nat) ∨ t.pc = (1 : Nat)
  ak : t.can.ak = false
  en : t.en = false
/-- Phase r of the period; at most sb steps, lb events were. -/
structure SpAt (b r sb lb : Nat) (x : Pl) : Prop where
  R : x.R = if r < b then Sp.Rhi else Sp.Rlo
  Ll : x.L.length = 16
  L1 : x.L.getD 1 Hs.no = ⟨true, false, if r < b then (20 : Nat) else (10 : Nat), 2⟩
  L2 : x.L.getD 2 Hs.no = ⟨true, false, (15 : Nat), 2⟩
  st0 : 0 ≤ x.st
  st : x.st ≤ sb
  ln : x.ln ≤ lb
  t1 : ∃ t, x.th 1 = some t ∧ LoopTh t 1 ∧ t.high = (20 : Nat) ∧ t.low = (10 : Nat) ∧ t.eff = if r < b then ((20 : Nat) : Int) else ((10 : Nat) : Int)
  t2 : ∃ t, x.th 2 = some t ∧ LoopTh t 2
def SomS (B : KB) (b P c sb lb : Nat) (S : KS) : Prop := ∃ x, SpAt b (c % P) sb lb x ∧ NowS S B x 1 (svAt b P c) c
theorem rd_facts : ∀ h : Bool, (if h then Sp.Rhi else Sp.Rlo).firstF = ((if h then 1 else 2 : Nat) : Int) ∧ 1 ≤ Lib.bitLen (if h then Sp.Rhi else Sp.Rlo).sm ∧ Lib.bitLen (if h then Sp.Rhi else Sp.Rlo).sm ≤ 32 ∧ (if h then Sp.Rhi else Sp.Rlo).sm ≠ 0 := by decide +kernel
theorem SpAt.turn {B : KB} {bu pe : Int} {m y1 y2 : Prg} (A : SpB B bu pe m y1 y2) {b r sb lb : Nat} {x : Pl} (M : SpAt b r sb lb x) (hs : sb ≤ 100000) : ∃ t, Turn B x (if r < b then 1 else 2) t ∧ LoopTh t (if r < b then 1 else 2) := by
  have e0 := M.st0
  have e1 := M.st
  by_cases h : r < b
  · obtain ⟨t, ht, T, _⟩ := M.t1
    have hR := M.R
    rw [if_pos h] at hR ⊢
    obtain ⟨f, b1, b2, s0⟩ := rd_facts true
    exact ⟨t, Turn.ofs (by decide) (by rw [A.n]; decide) ht Sp.Rhi hR f b1 b2 s0 x.st.toNat (by omega) (by omega) T.ak, T⟩
  · obtain ⟨t, ht, T⟩ := M.t2
    have hR := M.R
    rw [if_neg h] at hR ⊢
    obtain ⟨f, b1, b2, s0⟩ := rd_facts false
    exact ⟨t, Turn.ofs (by decide) (by rw [A.n]; decide) ht Sp.Rlo hR f b1 b2 s0 x.st.toNat (by omega) (by omega) T.ak, T⟩
theorem does_sp {B : KB} {ev : Value} {b P c c' sb lb sb' lb' : Nat} (h : ∀ x, SpAt b (c % P) sb lb x → ∃ A : KS → Prop, DoesTo B ev (fun S => NowS S B x 1 (svAt b P c) c) A ∧ ∀ S, A S → SomS B b P c' sb' lb' S) : DoesTo B ev (SomS B b P c sb lb) (SomS B b P c' sb' lb') := by
  rintro W S ⟨x, hx, hN⟩ hW
  obtain ⟨A, hD, hA⟩ := h x hx
  refine (hD W S hN hW).mono ?_
  rintro e w' ⟨S', rfl, hS, k, f⟩
  exact ⟨S', rfl, hA S' hS, k, f⟩
theorem sps_run {B : KB} {bu pe : Int} {m y1 y2 : Prg} (A : SpB B bu pe m y1 y2) {b P c sb lb : Nat} (hs : sb ≤ 100000) (hl : lb ≤ 100000) : DoesTo B evRun (SomS B b P c sb lb) (SomS B b P c (sb + 1) (lb + 1)) := by
  refine does_sp fun x M => ?_
  obtain ⟨t, T, K⟩ := M.turn A hs
  have e0 := M.st0
  have e1 := M.st
  have e2 := M.ln
  have fin : ∀ (pc' : Int) (r' : Nat → Int), (pc' = (0 : Nat) ∨ pc' = (1 : Nat)) → SpAt b (c % P) (sb + 1) (lb + 1) (x.stepped (if c % P < b then 1 else 2) t pc' r') := fun pc' r' h => by
    refine ⟨M.R, M.Ll, M.L1, M.L2, ?_, ?_, ?_, ?_, ?_⟩
    · show 0 ≤ x.st + 1; omega
    · show x.st + 1 ≤ _; omega
    · show x.ln + 1 ≤ _; omega
    · obtain ⟨t1, ht1, T1, h1, h2, h3⟩ := M.t1
      show ∃ t', put x.th (if c % P < b then 1 else 2) _ 1 = some t' ∧ _
      by_cases hh : c % P < b
      · simp only [if_pos hh] at T K h3 ⊢
        obtain rfl : t = t1 := by have := T.th; rw [ht1] at this; cases this; rfl
        exact ⟨_, put_self _ _ _, ⟨K.prog, h, K.ak, K.en⟩, h1, h2, h3⟩
      · simp only [if_neg hh] at h3 ⊢
        rw [put_ne _ _ (by decide)]
        exact ⟨t1, ht1, T1, h1, h2, h3⟩
    · obtain ⟨t2, ht2, T2⟩ := M.t2
      show ∃ t', put x.th (if c % P < b then 1 else 2) _ 2 = some t' ∧ _
      by_cases hh : c % P < b
      · simp only [if_pos hh]
        rw [put_ne _ _ (by decide)]
        exact ⟨t2, ht2, T2⟩
      · simp only [if_neg hh] at T K ⊢
        exact ⟨_, put_self _ _ _, ⟨K.prog, h, K.ak, K.en⟩⟩
  obtain ⟨y, hy, hyl⟩ : ∃ y, B.J.PS[if c % P < b then 1 else 2]? = some y ∧ y.L = loopL := by
    rw [A.PS]
    by_cases hh : c % P < b
    · rw [if_pos hh]; exact ⟨y1, rfl, A.y1⟩
    · rw [if_neg hh]; exact ⟨y2, rfl, A.y2⟩
  rcases K.pc with hp | hp
  · exact ⟨_, nows_step T y _ hy K.prog 0 hp ⟨3, 7, 7, 6, 0⟩ (by rw [hyl]; rfl) (by omega) _ _ (by decide) (step_add 7 7 6 (by decide) (by decide) (by decide) 0 (by decide) t.r), fun S hS => ⟨_, fin _ _ (.inr rfl), hS⟩⟩
  · exact ⟨_, nows_step T y _ hy K.prog 1 hp ⟨5, 0, 0, 0, 0⟩ (by rw [hyl]; rfl) (by omega) _ _ (by decide) (step_jump 0 1 (by decide) t.r), fun S hS => ⟨_, fin _ _ (.inl rfl), hS⟩⟩
theorem lift_facts : (Sp.Rhi.pr.getD 1 0 = ((20 : Nat) : Int) ∧ lkb (Sp.Rhi.pv.getD 1 0) = true ∧ lkb (Sp.Rhi.nx.getD 1 0) = true ∧ lkb ((Sp.Rhi.remF 1).hd.getD 10 0) = true)
    ∧ (Sp.Rlo.pr.getD 1 0 = ((10 : Nat) : Int) ∧ lkb (Sp.Rlo.pv.getD 1 0) = true ∧ lkb (Sp.Rlo.nx.getD 1 0) = true ∧ lkb ((Sp.Rlo.remF 1).hd.getD 20 0) = true) := by decide +kernel
theorem up_small {c : Nat} (h : c ≤ 1000) : Clk.upF (c : Int) = ((c + 1 : Nat) : Int) := by
  unfold Clk.upF
  rw [if_neg (by omega)]
  omega
theorem sps_tick {B : KB} {bu pe : Int} {m y1 y2 : Prg} (A : SpB B bu pe m y1 y2) {b P c sb lb : Nat} (b1 : 1 ≤ b) (b2 : b ≤ P) (p1 : P ≤ 100) (hc : c ≤ 900) (hs : sb ≤ 100000) (hl : lb ≤ 100000) : DoesTo B evTick (SomS B b P c sb lb) (SomS B b P (c + 1) (sb + 8) (lb + 1)) := by
  refine does_sp fun x M => ?_
  obtain ⟨t, T, K⟩ := M.turn A hs
  have e0 := M.st0
  have e1 := M.st
  have e2 := M.ln
  have hr := Nat.mod_lt c (show P > 0 by omega)
  have hn := mod_next c P (by omega)
  obtain ⟨t1, ht1, T1, k1, k2, k3⟩ := M.t1
  have R0 := sv_range b P c b1 b2 p1 (by omega)
  have q : decide ((if c % P < b then 1 else 2) = 1) = decide (c % P < b) := by
    by_cases h : c % P < b
    · rw [if_pos h, decide_eq_true h]; rfl
    · rw [if_neg h, decide_eq_false h]; rfl
  have R1 : SvR (tickF (svAt b P c) (decide ((if c % P < b then 1 else 2) = 1))) := by rw [q]; exact sv_range2 b P c b1 b2 p1 (by omega)
  have nx : nextF (svAt b P c) (decide ((if c % P < b then 1 else 2) = 1)) (Clk.upF c) = svAt b P (c + 1) := by
    rw [q, up_small (by omega)]
    exact sv_next b P c b1 b2
  have hrob : (x.L.getD (if c % P < b then 1 else 2) Hs.no).rob = false := by
    by_cases h : c % P < b
    · rw [if_pos h, M.L1]
    · rw [if_neg h, M.L2]
  have up := up_small (c := c) (by omega)
  by_cases h : ((c + 1) % P < b ↔ c % P < b)
  · have D := nows_keep T ht1 R0 R1 hrob (by omega) (by rw [nx, high_at, high_at]; exact decide_eq_decide.2 h)
    rw [nx, up] at D
    refine ⟨_, D, fun S hS => ⟨_, ?_, hS⟩⟩
    have hi : ∀ {α : Type} (u v : α), (if (c + 1) % P < b then u else v) = if c % P < b then u else v := fun u v => by
      by_cases e : c % P < b
      · rw [if_pos e, if_pos (h.2 e)]
      · rw [if_neg e, if_neg (fun g => e (h.1 g))]
    refine ⟨by rw [hi]; exact M.R, M.Ll, by rw [hi]; exact M.L1, M.L2, ?_, ?_, ?_, ?_, M.t2⟩
    · show 0 ≤ x.st + 2; omega
    · show x.st + 2 ≤ _; omega
    · show x.ln + 1 ≤ _; omega
    · exact ⟨t1, ht1, T1, k1, k2, by rw [hi]; exact k3⟩
  · obtain ⟨⟨u1, u2, u3, u4⟩, ⟨v1, v2, v3, v4⟩⟩ := lift_facts
    have fin : ∀ pr : Nat, (x.R.remF 1).headF pr 1 = (if (c + 1) % P < b then Sp.Rhi else Sp.Rlo) → pr = (if (c + 1) % P < b then 20 else 10) → SpAt b ((c + 1) % P) (sb + 8) (lb + 1) (x.lift 1 pr t1) := fun pr hR hp => by
      have hp2 : ((pr : Nat) : Int) = if (c + 1) % P < b then ((20 : Nat) : Int) else ((10 : Nat) : Int) := by
        rw [hp]; split <;> rfl
      refine ⟨hR, ?_, ?_, ?_, ?_, ?_, ?_, ?_, ?_⟩
      · show (x.L.set _ _).length = 16; rw [List.length_set]; exact M.Ll
      · show (x.L.set 1 { x.L.getD 1 Hs.no with pr := (pr : Int) }).getD 1 Hs.no = _
        rw [hs_set _ _ _ _ (by rw [M.Ll]; omega), if_pos rfl, M.L1, hp2]
      · show (x.L.set 1 _).getD 2 Hs.no = _
        rw [hs_set _ _ _ _ (by rw [M.Ll]; omega), if_neg (by decide)]
        exact M.L2
      · show 0 ≤ x.st + 8; omega
      · show x.st + 8 ≤ _; omega
      · show x.ln + 1 ≤ _; omega
      · exact ⟨{ t1 with eff := (pr : Int) }, put_self x.th 1 _, ⟨T1.prog, T1.pc, T1.ak, T1.en⟩, k1, k2, hp2⟩
      · obtain ⟨t2, ht2, T2⟩ := M.t2
        exact ⟨t2, (put_ne (j := 2) x.th (i := 1) (some { t1 with eff := (pr : Int) }) (by decide)).trans ht2, T2⟩
    by_cases e : c % P < b
    · have g : ¬ (c + 1) % P < b := fun g => h ⟨fun _ => e, fun _ => g⟩
      have hR := M.R
      have hL := M.L1
      rw [if_pos e] at hR k3 hL
      have D := nows_lift (pr := 10) (p0 := 20) T ht1 R0 R1 hrob (by omega) (by rw [nx]; unfold effF; rw [high_at, decide_eq_false g]; exact k2) k3 ⟨by rw [hL], by decide, by decide, by decide, by decide, by decide, by rw [hL], by rw [hR]; exact u1, by rw [hR]; exact lk_of u2, by rw [hR]; exact lk_of u3, by rw [hR]; exact lk_of u4⟩
      rw [nx, up] at D
      exact ⟨_, D, fun S hS => ⟨_, fin 10 (by rw [if_neg g, hR]; rfl) (by rw [if_neg g]), hS⟩⟩
    · have g : (c + 1) % P < b := Classical.byContradiction fun g => h ⟨fun k => absurd k g, fun k => absurd k e⟩
      have hR := M.R
      have hL := M.L1
      rw [if_neg e] at hR k3 hL
      have D := nows_lift (pr := 20) (p0 := 10) T ht1 R0 R1 hrob (by omega) (by rw [nx]; unfold effF; rw [high_at, decide_eq_true g]; exact k1) k3 ⟨by rw [hL], by decide, by decide, by decide, by decide, by decide, by rw [hL], by rw [hR]; exact v1, by rw [hR]; exact lk_of v2, by rw [hR]; exact lk_of v3, by rw [hR]; exact lk_of v4⟩
      rw [nx, up] at D
      exact ⟨_, D, fun S hS => ⟨_, fin 20 (by rw [if_pos g, hR]; exact Sp.cycle) (by rw [if_pos g]), hS⟩⟩
/-- One more step of the turns' own count. -/
theorem sps_one {B : KB} {b P c sb lb : Nat} {S : KS} (h : SomS B b P c sb lb S) : SomS B b P c (sb + 1) lb ({ S with st := S.st + 1 } : KS) := by
  obtain ⟨x, M, N⟩ := h
  have e0 := M.st0
  have e1 := M.st
  exact ⟨{ x with st := x.st + 1 }, ⟨M.R, M.Ll, M.L1, M.L2, by show 0 ≤ x.st + 1; omega, by show x.st + 1 ≤ _; omega, M.ln, M.t1, M.t2⟩, nows_one N⟩
theorem SomS.more {B : KB} {b P c sb lb sb' lb' : Nat} {S : KS} (h : SomS B b P c sb lb S) (h1 : sb ≤ sb') (h2 : lb ≤ lb') : SomS B b P c sb' lb' S := by
  obtain ⟨x, M, N⟩ := h
  have e1 := M.st
  have e2 := M.ln
  exact ⟨x, ⟨M.R, M.Ll, M.L1, M.L2, M.st0, by omega, by omega, M.t1, M.t2⟩, N⟩
/-- Behind k runs. -/
def SpPh (B : KB) (b P : Nat) (tb tc : Nat) (k : Nat) (S : KS) : Prop :=
  match k with
  | 0 => NowM S B (Sp.x0 B tb tc) 0
  | 1 => NowM S B (Sp.x1 B tb tc) 0
  | 2 => NowM S B (Sp.x2 B tb tc) 0
  | 3 => NowM S B (Sp.x3 B tb tc) 0
  | 4 => NowM S B (Sp.x4 B tb tc) 0
  | 5 => ∃ b1 c1, NowM S B (Sp.x5 B tb tc b1 c1) 0
  | 6 => ∃ b1 c1, NowM S B (Sp.x6 B tb tc b1 c1) 0
  | 7 => ∃ b1 c1, NowM S B (Sp.x7 B tb tc b1 c1) 0
  | 8 => ∃ b1 c1, NowM S B (Sp.x8 B tb tc b1 c1) 0
  | 9 => ∃ b1 c1, NowM S B (Sp.x9 B tb tc b1 c1) 0
  | 10 => ∃ b1 c1 b2 c2, NowM S B (Sp.x10 B tb tc b1 c1 b2 c2) 0
  | 11 => ∃ b1 c1 b2 c2, NowM S B (Sp.x11 B tb tc b1 c1 b2 c2) 0
  | 12 => ∃ b1 c1 b2 c2, NowM S B (Sp.x12 B tb tc b1 c1 b2 c2) 0
  | 13 => ∃ b1 c1 b2 c2, NowM S B (Sp.x13 B tb tc b1 c1 b2 c2) 0
  | 14 => ∃ b1 c1 b2 c2, NowM S B (Sp.x14 B tb tc b1 c1 b2 c2 b) 0
  | 15 => ∃ b1 c1 b2 c2, NowM S B (Sp.x15 B tb tc b1 c1 b2 c2 b P) 0
  | 16 => ∃ b1 c1 b2 c2 sv, NowS S B (Sp.x16 B tb tc b1 c1 b2 c2 b P sv) 1 (svAt b P 0) 0
  | _ => SomS B b P 0 100 100 S
section
open Sp
variable {B : KB} {b c b1 c1 b2 c2 sv : Nat} {bu pe : Int}
theorem x16_R : (x16 B b c b1 c1 b2 c2 bu pe sv).R = Sp.R4 := rfl
theorem x17_R : (x17 B b c b1 c1 b2 c2 bu pe sv).R = Rhi := by
  unfold x17
  rw [show ∀ (x : Pl) (t : Th) (v : Int), (x.over 0 t v).R = x.R.remF 0 from fun _ _ _ => rfl, x16_R]
  unfold Rhi
  rfl
theorem x17_Ll : (x17 B b c b1 c1 b2 c2 bu pe sv).L.length = 16 := rfl
theorem x17_L1 : (x17 B b c b1 c1 b2 c2 bu pe sv).L.getD 1 Hs.no = ⟨true, false, (20 : Nat), B.J.q⟩ := rfl
theorem x17_L2 : (x17 B b c b1 c1 b2 c2 bu pe sv).L.getD 2 Hs.no = ⟨true, false, (15 : Nat), B.J.q⟩ := rfl
theorem x17_st : (x17 B b c b1 c1 b2 c2 bu pe sv).st = 37 := rfl
theorem x17_ln : (x17 B b c b1 c1 b2 c2 bu pe sv).ln = 17 := rfl
theorem x17_t1 : (x17 B b c b1 c1 b2 c2 bu pe sv).th 1 = some { (Sp.o1 b1 c1).spor (20 : Nat) (10 : Nat) sv with eff := ((20 : Nat) : Int) } := rfl
theorem x17_t2 : (x17 B b c b1 c1 b2 c2 bu pe sv).th 2 = some (Sp.o2 b2 c2) := rfl
end
theorem ex_does {α : Type} {B : KB} {ev : Value} {X : α → KS → Prop} {Y : KS → Prop} (h : ∀ a, DoesTo B ev (X a) Y) : DoesTo B ev (fun S => ∃ a, X a S) Y := by
  rintro W S ⟨a, ha⟩ hW
  exact h a W S ha hW
theorem does_to {B : KB} {ev : Value} {X Y Z : KS → Prop} (h : DoesTo B ev X Y) (k : ∀ S, Y S → Z S) : DoesTo B ev X Z := by
  intro W S hS hW
  refine (h W S hS hW).mono ?_
  rintro e w' ⟨S', rfl, hS', k1, f1⟩
  exact ⟨S', rfl, k S' hS', k1, f1⟩
theorem spph_next {B : KB} {b P : Nat} {m y1 y2 : Prg} (A : SpB B b P m y1 y2) (b1 : 1 ≤ b) (b2 : b ≤ P) (p1 : P ≤ 100) (tb tc : Nat) (k : Nat) (hk : k < 17) : DoesTo B evRun (SpPh B b P tb tc k) (SpPh B b P tb tc (k + 1)) := by
  match k, hk with
  | 0, _ => exact Sp.sp1 A
  | 1, _ => exact Sp.sp2 A
  | 2, _ => exact Sp.sp3 A
  | 3, _ => exact Sp.sp4 A
  | 4, _ => exact Sp.sp5 A
  | 5, _ => exact ex_does fun u => ex_does fun v => does_to (Sp.sp6 A) fun S h => ⟨u, v, h⟩
  | 6, _ => exact ex_does fun u => ex_does fun v => does_to (Sp.sp7 A) fun S h => ⟨u, v, h⟩
  | 7, _ => exact ex_does fun u => ex_does fun v => does_to (Sp.sp8 A) fun S h => ⟨u, v, h⟩
  | 8, _ => exact ex_does fun u => ex_does fun v => does_to (Sp.sp9 A) fun S h => ⟨u, v, h⟩
  | 9, _ => exact ex_does fun u => ex_does fun v => does_to (Sp.sp10 A) fun S ⟨x, y, h⟩ => ⟨u, v, x, y, h⟩
  | 10, _ => exact ex_does fun u => ex_does fun v => ex_does fun x => ex_does fun y => does_to (Sp.sp11 A) fun S h => ⟨u, v, x, y, h⟩
  | 11, _ => exact ex_does fun u => ex_does fun v => ex_does fun x => ex_does fun y => does_to (Sp.sp12 A) fun S h => ⟨u, v, x, y, h⟩
  | 12, _ => exact ex_does fun u => ex_does fun v => ex_does fun x => ex_does fun y => does_to (Sp.sp13 A) fun S h => ⟨u, v, x, y, h⟩
  | 13, _ => exact ex_does fun u => ex_does fun v => ex_does fun x => ex_does fun y => does_to (Sp.sp14 A) fun S h => ⟨u, v, x, y, h⟩
  | 14, _ => exact ex_does fun u => ex_does fun v => ex_does fun x => ex_does fun y => does_to (Sp.sp15 A) fun S h => ⟨u, v, x, y, h⟩
  | 15, _ => exact ex_does fun u => ex_does fun v => ex_does fun x => ex_does fun y => does_to (Sp.sp16 A (by omega) (by omega) (by omega)) fun S ⟨sv, h⟩ => ⟨u, v, x, y, sv, by rw [sv_zero b P b1 b2] at h; exact h⟩
  | 16, _ =>
    refine ex_does fun u => ex_does fun v => ex_does fun x => ex_does fun y => ex_does fun sv => does_to (Sp.sp17 A) fun S h => ?_
    refine ⟨_, ⟨?_, ?_, ?_, ?_, ?_, ?_, ?_, ?_, ?_⟩, h⟩
    · rw [Nat.zero_mod, if_pos (by omega)]; exact x17_R
    · exact x17_Ll
    · rw [Nat.zero_mod, if_pos (by omega), x17_L1, A.q]
    · rw [x17_L2, A.q]
    · rw [x17_st]; decide
    · rw [x17_st]; decide
    · rw [x17_ln]; decide
    · exact ⟨_, x17_t1, ⟨rfl, .inl rfl, rfl, rfl⟩, rfl, rfl, by rw [Nat.zero_mod, if_pos (by omega)]⟩
    · exact ⟨_, x17_t2, ⟨rfl, .inl rfl, rfl, rfl⟩⟩
  | _ + 17, h => exact absurd h (by omega)
end Go.Proofs.YtagmlijhgncklaaGreatDoor.Ker
