/-
  The kernel of the known rows (alive), as plain data: eight runs, one behind the other. Conditions: those said.
  The eight runs of the known rows as one chain. Conditions: those said.
  The known rows of the Top statements (alive), over the translation of this seat. There are no conditions.
  What a sporadic server's functions compute, over the translation of this seat. Conditions: the blocks that are named hold what is said.
  A sporadic server's pieces come back (Due); a server is made (New), over the translation of this seat. Conditions: the blocks that are named hold what is said; there is at most one piece.
  A kernel with a sporadic server: where it lies, what its turning makes of the kernel, over the translation of this seat. Conditions: those said.
  The kernel's graph, and settle, where a thread's priority is found by a sporadic server (which draws), over the translation of this seat. Conditions: the blocks that are named hold what is said; nobody waits for a mutex, there is none.
  A server used, and its pieces come back, as one contract each, over the translation of this seat. Conditions: the blocks that are named hold what is said; there is at most one piece.
  A tick of the kernel with one sporadic thread, over the translation of this seat. Conditions: the blocks that are named hold what is said; no timer, no deadline is set.
  A tick of the kernel with one sporadic thread (tick), over the translation of this seat. Conditions: the blocks that are named hold what is said; no timer, no deadline is set; who runs is no robin.
  A thread that waits for nothing goes to another priority (change), over the translation of this seat. Conditions: the blocks that are named hold what is said.
  The kernel settles where one thread's priority has turned (settle), over the translation of this seat. Conditions: the blocks that are named hold what is said; nobody waits for a mutex, there is none.
  A handle's thread that lives (other), a thread's priority out of the graph (found), a thread goes to its priority's tail (put), over the translation of this seat. Conditions: the blocks that are named hold what is said.
  A server is made and given to the kernel, over the translation of this seat. Conditions: the blocks that are named hold what is said.
  A call that makes a thread sporadic, over the translation of this seat. Conditions: the blocks that are named hold what is said.
  The kernel's Do of an event, where settle may turn a priority, over the translation of this seat. Conditions: the blocks that are named hold what is said; what the event does, and what settle does, is known.
  The program that makes robins, as a list. Plain. There are no conditions but those said.
  Main makes its robins, one by one, and ends: how the kernel stands behind each instruction. Plain. There are no conditions but those said.
-/
import Derived.Test.YtagmlijhgncklaaGreatDoorW41
import Derived.BigQuiet
import Derived.Test.YtagmlijhgncklaaGreatDoorW14
import Derived.BigRegion
import Derived.Test.YtagmlijhgncklaaGreatDoorW31
set_option linter.unusedVariables false
namespace Go.Proofs.YtagmlijhgncklaaGreatDoor.Ker
open Go.RowKit Go.Proofs.YtagmlijhgncklaaGreatDoor Go.Proofs.YtagmlijhgncklaaGreatDoor.Code

def mainL : List Ins := [⟨1, 2, 0, 0, 1⟩, ⟨1, 3, 0, 0, 9⟩, ⟨7, 0, 0, 0, 1⟩, ⟨1, 2, 0, 0, 17⟩, ⟨7, 0, 0, 0, 3⟩, ⟨8, 0, 0, 0, 0⟩]
def otherL : List Ins := [⟨1, 2, 0, 0, 7⟩, ⟨7, 0, 0, 0, 2⟩]
structure AlB (B : KB) (m y : Prg) : Prop where
  n : B.n = 4
  q : B.J.q = 2
  PS : B.J.PS = [m, y]
  m : m.L = mainL
  y : y.L = otherL
theorem Turn.ofs {B : KB} {x : Pl} {p : Nat} {t : Th} (p16 : p < 16) (pn : p < B.n) (th : x.th p = some t) (R : Rd) (hR : x.R = R) (first : R.firstF = p) (b1 : 1 ≤ Lib.bitLen R.sm) (b2 : Lib.bitLen R.sm ≤ 32) (sm : R.sm ≠ 0) (st : Nat) (hst : x.st = st) (s1 : st ≤ 500000000) (ak : t.can.ak = false) : Turn B x p t := by
  subst hR
  exact ⟨p16, pn, th, first, b1, b2, sm, by omega, by omega, ak⟩
def R1 : Rd := Rd.new.tailF 5 0
def R2 : Rd := R1.tailF 9 1
def R3 : Rd := R2.remF 1
variable (B : KB) (b c b2 c2 : Nat)
def a0 : Th := Th.new b c ((0 : Nat) + 16 * 1) 0 (5 : Nat) 0 true
def a1 : Th := { a0 b c with pc := 1, r := put (a0 b c).r 2 1 }
def a2 : Th := { a1 b c with pc := 2, r := put (a1 b c).r 3 9 }
def a3 : Th := ({ a2 b c with pc := 3 } : Th).ans ((1 : Nat) + 16 * 1) 0
def a4 : Th := { a3 b c with pc := 4, r := put (a3 b c).r 2 17 }
def a5 : Th := ({ a4 b c with pc := 5 } : Th).ans 7 0
def o0 : Th := Th.new b2 c2 ((1 : Nat) + 16 * 1) 1 (9 : Nat) 0 true
def o1 : Th := { o0 b2 c2 with pc := 1, r := put (o0 b2 c2).r 2 7 }
def o2 : Th := { ({ o1 b2 c2 with pc := 2 } : Th).unw 7 with en := true }
def x0 : Pl := Pl.first B 4 5 b c
def x1 : Pl := (x0 B b c).stepped 0 (a0 b c) (((0 : Nat) : Int) + 1) (put (a0 b c).r 2 1)
def x2 : Pl := (x1 B b c).stepped 0 (a1 b c) (((1 : Nat) : Int) + 1) (put (a1 b c).r 3 9)
def x3 : Pl := (x2 B b c).created B 0 (a2 b c) 2 1 9 1 1 0 true b2 c2
/-- Behind Runs, which counts one step. -/
def x3r : Pl := { x3 B b c b2 c2 with st := (x3 B b c b2 c2).st + 1 }
def x4 : Pl := (x3r B b c b2 c2).stepped 1 (o0 b2 c2) (((0 : Nat) : Int) + 1) (put (o0 b2 c2).r 2 7)
def x5 : Pl := (x4 B b c b2 c2).over 1 { o1 b2 c2 with pc := ((1 : Nat) : Int) + 1 } ((o1 b2 c2).r 2)
def x6 : Pl := (x5 B b c b2 c2).stepped 0 (a3 b c) (((3 : Nat) : Int) + 1) (put (a3 b c).r 2 17)
def x7 : Pl := (x6 B b c b2 c2).joined 0 (a4 b c) 4 1 (o2 b2 c2).val
def x8 : Pl := (x7 B b c b2 c2).noted 0 (a5 b c) 5 0
variable {B b c b2 c2} {m y : Prg}
theorem al1 (A : AlB B m y) : DoesTo B evRun (fun S => Now S B (x0 B b c)) (fun S => Now S B (x1 B b c)) :=
  now_step (t := a0 b c) (Turn.ofs (by decide) (by rw [A.n]; decide) rfl R1 rfl (by decide) (by decide) (by decide) (by decide) 4 (by rfl) (by decide) rfl) m 0 (by rw [A.PS]; rfl) rfl 0 rfl ⟨1, 2, 0, 0, 1⟩ (by rw [A.m]; rfl) (by show (0 : Nat) ≤ 100000; decide) _ _ (by decide) (step_set 2 (by decide) 1 0 (by decide) _)
theorem al2 (A : AlB B m y) : DoesTo B evRun (fun S => Now S B (x1 B b c)) (fun S => Now S B (x2 B b c)) :=
  now_step (t := a1 b c) (Turn.ofs (by decide) (by rw [A.n]; decide) rfl R1 rfl (by decide) (by decide) (by decide) (by decide) 5 (by rfl) (by decide) rfl) m 0 (by rw [A.PS]; rfl) rfl 1 rfl ⟨1, 3, 0, 0, 9⟩ (by rw [A.m]; rfl) (by show (1 : Nat) ≤ 100000; decide) _ _ (by decide) (step_set 3 (by decide) 9 1 (by decide) _)
theorem al3 (A : AlB B m y) : DoesTo B evRun (fun S => Now S B (x2 B b c)) (fun S => ∃ b2 c2, Now S B (x3 B b c b2 c2)) :=
  now_create (t := a2 b c) (Turn.ofs (by decide) (by rw [A.n]; decide) rfl R1 rfl (by decide) (by decide) (by decide) (by decide) 6 (by rfl) (by decide) rfl) m 0 (by rw [A.PS]; rfl) rfl 2 rfl (by rw [A.m]; rfl) (by decide) (by show (2 : Nat) ≤ 100000; decide) (by show (0 : Nat) ≤ 100000; decide) 1 9 1 1 0 0 rfl rfl rfl rfl (by decide) (by rw [A.PS]; show (1 : Int) < ((2 : Nat) : Int); decide) (by rw [A.PS]; show (2 : Nat) ≤ 32; decide) (.inl rfl) (.inl rfl) (by rfl) (by rfl) (by decide) rfl (by rfl) (by decide) (by decide) (by rfl) (by rfl) (.inl (by rfl))
theorem al4 (A : AlB B m y) : DoesTo B evRun (fun S => Now S B (x3r B b c b2 c2)) (fun S => Now S B (x4 B b c b2 c2)) :=
  now_step (t := o0 b2 c2) (Turn.ofs (by decide) (by rw [A.n]; decide) rfl R2 rfl (by decide) (by decide) (by decide) (by decide) 12 (by rfl) (by decide) rfl) y 1 (by rw [A.PS]; rfl) rfl 0 rfl ⟨1, 2, 0, 0, 7⟩ (by rw [A.y]; rfl) (by show (3 : Nat) ≤ 100000; decide) _ _ (by decide) (step_set 2 (by decide) 7 0 (by decide) _)
theorem al5 (A : AlB B m y) : DoesTo B evRun (fun S => Now S B (x4 B b c b2 c2)) (fun S => Now S B (x5 B b c b2 c2)) :=
  now_exit (p0 := 9) (t := o1 b2 c2) (Turn.ofs (by decide) (by rw [A.n]; decide) rfl R2 rfl (by decide) (by decide) (by decide) (by decide) 13 (by rfl) (by decide) rfl) y 1 (by rw [A.PS]; rfl) rfl 1 rfl (by rw [A.y]; rfl) (by decide) (by show (4 : Nat) ≤ 100000; decide) (by show (1 : Nat) ≤ 100000; decide) rfl (by show (-1 : Int) < 0; decide) rfl ⟨rfl, by decide, by decide, by rfl, .inl (by rfl), .inl (by rfl)⟩
theorem al6 (A : AlB B m y) : DoesTo B evRun (fun S => Now S B (x5 B b c b2 c2)) (fun S => Now S B (x6 B b c b2 c2)) :=
  now_step (t := a3 b c) (Turn.ofs (by decide) (by rw [A.n]; decide) rfl R3 rfl (by decide) (by decide) (by decide) (by decide) 16 (by rfl) (by decide) rfl) m 0 (by rw [A.PS]; rfl) rfl 3 rfl ⟨1, 2, 0, 0, 17⟩ (by rw [A.m]; rfl) (by show (5 : Nat) ≤ 100000; decide) _ _ (by decide) (step_set 2 (by decide) 17 3 (by decide) _)
theorem al7 (A : AlB B m y) : DoesTo B evRun (fun S => Now S B (x6 B b c b2 c2)) (fun S => Now S B (x7 B b c b2 c2)) :=
  now_join (q := 1) (t := a4 b c) (z := o2 b2 c2) (Turn.ofs (by decide) (by rw [A.n]; decide) rfl R3 rfl (by decide) (by decide) (by decide) (by decide) 17 (by rfl) (by decide) rfl) m 0 (by rw [A.PS]; rfl) rfl 4 rfl (by rw [A.m]; rfl) (by decide) (by show (6 : Nat) ≤ 100000; decide) (by show (1 : Nat) ≤ 100000; decide) (by decide) rfl (by decide) (by rfl) rfl rfl (by show (-1 : Int) < 0; decide) rfl rfl
theorem al8 (A : AlB B m y) : DoesTo B evRun (fun S => Now S B (x7 B b c b2 c2)) (fun S => Now S B (x8 B b c b2 c2)) :=
  now_note (t := a5 b c) (Turn.ofs (by decide) (by rw [A.n]; decide) rfl R3 rfl (by decide) (by decide) (by decide) (by decide) 18 (by rfl) (by decide) rfl) m 0 (by rw [A.PS]; rfl) rfl 5 rfl ⟨8, 0, 0, 0, 0⟩ (by rw [A.m]; rfl) (by show (7 : Nat) ≤ 100000; decide) 0 rfl rfl (by decide) (by decide) (by show (0 : Nat) ≤ 1000; decide)
theorem now_one {S : KS} {B : KB} {x : Pl} (N : Now S B x) : Now ({ S with st := S.st + 1 } : KS) B { x with st := x.st + 1 } :=
  ⟨N.B, N.T, N.L, N.R, by show S.st + 1 = x.st + 1; rw [N.st], N.th, N.ln, N.an, N.notes, N.calm.one, N.q0, N.q1⟩
end Go.Proofs.YtagmlijhgncklaaGreatDoor.Ker
namespace Go.Proofs.YtagmlijhgncklaaGreatDoor.Ker
open Go.RowKit Go.Proofs.YtagmlijhgncklaaGreatDoor Go.Proofs.YtagmlijhgncklaaGreatDoor.Code

/-- Behind j runs. -/
def AlS (B : KB) (b c : Nat) : Nat → KS → Prop
  | 0, S => Now S B (x0 B b c)
  | 1, S => Now S B (x1 B b c)
  | 2, S => Now S B (x2 B b c)
  | 3, S => ∃ b2 c2, Now S B (x3 B b c b2 c2)
  | 4, S => ∃ b2 c2, Now S B (x3r B b c b2 c2)
  | 5, S => ∃ b2 c2, Now S B (x4 B b c b2 c2)
  | 6, S => ∃ b2 c2, Now S B (x5 B b c b2 c2)
  | 7, S => ∃ b2 c2, Now S B (x6 B b c b2 c2)
  | 8, S => ∃ b2 c2, Now S B (x7 B b c b2 c2)
  | 9, S => ∃ b2 c2, Now S B (x8 B b c b2 c2)
  | _ + 10, _ => False
theorem does_some {B : KB} {ev : Value} {X Y : Nat → Nat → Pl} (h : ∀ b2 c2, DoesTo B ev (fun S => Now S B (X b2 c2)) (fun S => Now S B (Y b2 c2))) : DoesTo B ev (fun S => ∃ b2 c2, Now S B (X b2 c2)) (fun S => ∃ b2 c2, Now S B (Y b2 c2)) := by
  rintro W S ⟨b2, c2, hN⟩ hW
  refine (h b2 c2 W S hN hW).mono ?_
  rintro e w' ⟨S', rfl, hS, k, f⟩
  exact ⟨S', rfl, ⟨b2, c2, hS⟩, k, f⟩
theorem al_next {B : KB} {b c : Nat} {m y : Prg} (A : AlB B m y) (j : Nat) (hj : j < 9) (h3 : j ≠ 3) : DoesTo B evRun (AlS B b c j) (AlS B b c (j + 1)) := by
  match j, hj with
  | 0, _ => exact al1 A
  | 1, _ => exact al2 A
  | 2, _ => exact al3 A
  | 3, _ => exact absurd rfl h3
  | 4, _ => exact does_some fun b2 c2 => al4 A
  | 5, _ => exact does_some fun b2 c2 => al5 A
  | 6, _ => exact does_some fun b2 c2 => al6 A
  | 7, _ => exact does_some fun b2 c2 => al7 A
  | 8, _ => exact does_some fun b2 c2 => al8 A
  | _ + 9, h => exact absurd h (by omega)
theorem alB_of {B : KB} {PS : List Prg} {b cap : Nat} {t o s q pr : Int} (hJ : B.J = ⟨t, o, s, q, pr, PS, b, cap⟩) (hq : q = 2) (hL : PS.map Prg.L = [mainL, otherL]) (hn : B.n = 4) : ∃ m y, AlB B m y := by
  match PS, hL, hJ with
  | [m, y], hL, hJ =>
    simp at hL
    exact ⟨m, y, hn, by rw [hJ]; exact hq, by rw [hJ], hL.1, hL.2⟩
  | [], hL, _ => simp at hL
  | [_], hL, _ => simp at hL
  | _ :: _ :: _ :: _, hL, _ => simp at hL
end Go.Proofs.YtagmlijhgncklaaGreatDoor.Ker
namespace Go.Proofs.YtagmlijhgncklaaGreatDoor.Ker
open Go.RowKit Go.Proofs.YtagmlijhgncklaaGreatDoor Go.Proofs.YtagmlijhgncklaaGreatDoor.Code

theorem main_ok : ∀ i ∈ mainL, i.Ok 6 := by
  intro i hi
  simp [mainL] at hi
  rcases hi with rfl | rfl | rfl | rfl | rfl | rfl <;> simp [Ins.Ok, RegOk]
theorem other_ok : ∀ i ∈ otherL, i.Ok 2 := by
  intro i hi
  simp [otherL] at hi
  rcases hi with rfl | rfl <;> simp [Ins.Ok, RegOk]
def alJ (a b c : Nat) : Job := ⟨4, 4, 4, 2, 5, [⟨a, mainL, 6⟩, ⟨b, otherL, 2⟩], c, 2⟩
theorem alJ_ok (a b c : Nat) : (alJ a b c).Ok := by
  refine ⟨by show (1 : Int) ≤ 4; decide, by show (4 : Int) ≤ 16; decide, by show (1 : Int) ≤ 4; decide, by show (4 : Int) ≤ 8; decide, by show (1 : Int) ≤ 4; decide, by show (4 : Int) ≤ 32; decide, by show (1 : Int) ≤ 2; decide, by show (2 : Int) ≤ 100; decide, by show (1 : Int) ≤ 5; decide, by show (5 : Int) ≤ 31; decide, by show 1 ≤ 2; decide, by show 2 ≤ 32; decide, ?_⟩
  intro x hx
  simp [alJ] at hx
  rcases hx with rfl | rfl
  · exact ⟨main_ok, by show (6 : Nat) ≤ 256; decide⟩
  · exact ⟨other_ok, by show (2 : Nat) ≤ 256; decide⟩
theorem alJ_pgs {w : World} {a b c : Nat} (ha : w.heap[a]? = some (.cells (mainL.flatMap Ins.cells).toArray 29 (0, 0))) (hb : w.heap[b]? = some (.cells (otherL.flatMap Ins.cells).toArray 29 (0, 0))) (hc : w.heap[c]? = some (.cells #[.slice (some ⟨a, 0, none⟩) 6 6, .slice (some ⟨b, 0, none⟩) 2 2] 24 (0, 0))) : PgsH w c (alJ a b c).PS := by
  refine ⟨⟨[.slice (some ⟨a, 0, none⟩) 6 6, .slice (some ⟨b, 0, none⟩) 2 2], hc, ?_⟩, ?_⟩
  · intro k x hk
    match k, hk with
    | 0, hk => cases hk; rfl
    | 1, hk => cases hk; rfl
  · intro x hx
    simp [alJ] at hx
    rcases hx with rfl | rfl
    · exact ⟨_, ha, fun k i hk j hj => flat_at mainL k i j hj hk⟩
    · exact ⟨_, hb, fun k i hk j hj => flat_at otherL k i j hj hk⟩
set_option maxHeartbeats 2000000 in
set_option maxRecDepth 100000 in
theorem alive_c (w : World) : Calls Tryz.prog 7 #[] w fun e w' => e = .returned (.bool true) ∧ Below w.heap.size w w' := by
  have S21 : ∀ W, Calls Tryz.prog 19 #[.int .i64 2, .int .i64 1] W fun e w' => e = .returned (.agg #[.int .i64 1, .int .i64 2, .int .i64 0, .int .i64 0, .int .i64 1]) ∧ Below W.heap.size W w' := fun W => Set_c W 2 1
  have S39 : ∀ W, Calls Tryz.prog 19 #[.int .i64 3, .int .i64 9] W fun e w' => e = .returned (.agg #[.int .i64 1, .int .i64 3, .int .i64 0, .int .i64 0, .int .i64 9]) ∧ Below W.heap.size W w' := fun W => Set_c W 3 9
  have S217 : ∀ W, Calls Tryz.prog 19 #[.int .i64 2, .int .i64 17] W fun e w' => e = .returned (.agg #[.int .i64 1, .int .i64 2, .int .i64 0, .int .i64 0, .int .i64 17]) ∧ Below W.heap.size W w' := fun W => Set_c W 2 17
  have S27 : ∀ W, Calls Tryz.prog 19 #[.int .i64 2, .int .i64 7] W fun e w' => e = .returned (.agg #[.int .i64 1, .int .i64 2, .int .i64 0, .int .i64 0, .int .i64 7]) ∧ Below W.heap.size W w' := fun W => Set_c W 2 7
  have C1 : ∀ W, Calls Tryz.prog 10 #[.int .i64 1] W fun e w' => e = .returned (.agg #[.int .i64 7, .int .i64 0, .int .i64 0, .int .i64 0, .int .i64 1]) ∧ Below W.heap.size W w' := fun W => Call_c W 1
  have C2 : ∀ W, Calls Tryz.prog 10 #[.int .i64 2] W fun e w' => e = .returned (.agg #[.int .i64 7, .int .i64 0, .int .i64 0, .int .i64 0, .int .i64 2]) ∧ Below W.heap.size W w' := fun W => Call_c W 2
  have C3 : ∀ W, Calls Tryz.prog 10 #[.int .i64 3] W fun e w' => e = .returned (.agg #[.int .i64 7, .int .i64 0, .int .i64 0, .int .i64 0, .int .i64 3]) ∧ Below W.heap.size W w' := fun W => Call_c W 3
  go_enter Tryz.func7, Tryz.ntmps7
  go_upto_region 2 with (first
    | (go_at_call 19; with_reducible refine (S21 _).mono ?_; rintro e w1 ⟨rfl, b1⟩; have HB1 := Lib.hid b1; clear b1)
    | (go_at_call 19; with_reducible refine (S39 _).mono ?_; rintro e w2 ⟨rfl, b2⟩; have HB2 := Lib.hid (HB1.out.trans (b2.mono HB1.out.size)); clear b2)
    | (go_at_call 10; with_reducible refine (C1 _).mono ?_; rintro e w3 ⟨rfl, b3⟩; have HB3 := Lib.hid (HB2.out.trans (b3.mono HB2.out.size)); clear b3)
    | (go_at_call 19; with_reducible refine (S217 _).mono ?_; rintro e w4 ⟨rfl, b4⟩; have HB4 := Lib.hid (HB3.out.trans (b4.mono HB3.out.size)); clear b4)
    | (go_at_call 10; with_reducible refine (C3 _).mono ?_; rintro e w5 ⟨rfl, b5⟩; have HB5 := Lib.hid (HB4.out.trans (b5.mono HB4.out.size)); clear b5))
  have xa : (w5.alloc (.cells #[.int .i64 1, .int .i64 2, .int .i64 0, .int .i64 0, .int .i64 1, .int .i64 1, .int .i64 3, .int .i64 0, .int .i64 0, .int .i64 9, .int .i64 7, .int .i64 0, .int .i64 0, .int .i64 0, .int .i64 1, .int .i64 1, .int .i64 2, .int .i64 0, .int .i64 0, .int .i64 17, .int .i64 7, .int .i64 0, .int .i64 0, .int .i64 0, .int .i64 3, .int .i64 8, .int .i64 0, .int .i64 0, .int .i64 0, .int .i64 0] 29)).heap[w5.heap.size]? = some (.cells (mainL.flatMap Ins.cells).toArray 29 (0, 0)) := heap_alloc_new w5 _
  obtain ⟨a, ha⟩ : ∃ a, a = w5.heap.size := ⟨_, rfl⟩
  rw [← ha] at xa ⊢
  refine world_wp (fun W => Below w.heap.size w W ∧ W.heap[a]? = some (.cells (mainL.flatMap Ins.cells).toArray 29 (0, 0))) ⟨HB5.out.alloc HB5.out.size _, xa⟩ ?_
  clear xa ha HB1 HB2 HB3 HB4 HB5 S21 S39 S217 C1 C3
  clear w1 w2 w3 w4 w5
  rintro W ⟨hb, xa⟩
  have HB := Lib.hid hb
  have HA := Lib.hid xa
  clear hb xa
  go_upto_region 3 with (first
    | (go_at_call 19; with_reducible refine (S27 _).mono ?_; rintro e w1 ⟨rfl, b1⟩; have HA1 := Lib.hid (below_has b1 HA.out); have HB1 := Lib.hid (HB.out.trans (b1.mono HB.out.size)); clear b1)
    | (go_at_call 10; with_reducible refine (C2 _).mono ?_; rintro e w2 ⟨rfl, b2⟩; have HA2 := Lib.hid (below_has b2 HA1.out); have HB2 := Lib.hid (HB1.out.trans (b2.mono HB1.out.size)); clear b2))
  have xb : (w2.alloc (.cells #[.int .i64 1, .int .i64 2, .int .i64 0, .int .i64 0, .int .i64 7, .int .i64 7, .int .i64 0, .int .i64 0, .int .i64 0, .int .i64 2] 29)).heap[w2.heap.size]? = some (.cells (otherL.flatMap Ins.cells).toArray 29 (0, 0)) := heap_alloc_new w2 _
  have xa := below_alloc_has (o := .cells #[.int .i64 1, .int .i64 2, .int .i64 0, .int .i64 0, .int .i64 7, .int .i64 7, .int .i64 0, .int .i64 0, .int .i64 0, .int .i64 2] 29) HA2.out
  obtain ⟨b, hb⟩ : ∃ b, b = w2.heap.size := ⟨_, rfl⟩
  rw [← hb] at xb ⊢
  refine world_wp (fun W => Below w.heap.size w W ∧ W.heap[a]? = some (.cells (mainL.flatMap Ins.cells).toArray 29 (0, 0)) ∧ W.heap[b]? = some (.cells (otherL.flatMap Ins.cells).toArray 29 (0, 0))) ⟨HB2.out.alloc HB2.out.size _, xa, xb⟩ ?_
  clear xa xb hb HA1 HA2 HB1 HB2 HA HB S27 C2
  clear W w1 w2
  rintro W ⟨hb, xa, xb⟩
  have c1 := (Below.refl W.heap.size W).alloc (Nat.le_refl _) (.cells #[.slice (some ⟨a, 0, none⟩) 6 6, .slice (some ⟨b, 0, none⟩) 2 2] 24)
  have HP : Hid (PgsH (W.alloc (.cells #[.slice (some ⟨a, 0, none⟩) 6 6, .slice (some ⟨b, 0, none⟩) 2 2] 24)) W.heap.size (alJ a b W.heap.size).PS) := Lib.hid (alJ_pgs (below_has c1 xa) (below_has c1 xb) (heap_alloc_new W _))
  have HB := Lib.hid (hb.trans (c1.mono hb.size))
  have JC := fun V => Job_c V (alJ a b W.heap.size).PS W.heap.size 2
  have NC := fun V h => new_c V (alJ a b W.heap.size) h (alJ_ok a b W.heap.size) 4 4 5 rfl rfl rfl
  clear hb xa xb c1
  go_upto_region 4 with (first
    | (go_at_call 11; refine (JC _).mono ?_; rintro e w1 ⟨rfl, b1⟩; have HP1 := Lib.hid (HP.out.reads b1); have HB1 := Lib.hid (HB.out.trans (b1.mono HB.out.size)); clear b1 JC)
    | (go_at_call 12; refine (NC _ HP1.out).mono ?_; rintro e w2 ⟨B, lo, tb, tc, rfl, hJ, hn, l1, l2, l3, l4, k2, cm, b2, hl⟩; have HK2 := Lib.hid k2; have HN0 := Lib.hid (now_first cm l1 l3 l4); have HB2 := Lib.hid (HB1.out.trans (b2.mono HB1.out.size)); have HJJ := Lib.hid hJ; have HNN := Lib.hid hn; have HLL := Lib.hid hl; clear NC k2 cm l1 l2 l3 l4 b2 hJ hn hl))
  obtain ⟨m, y, AB⟩ : ∃ m y, AlB B m y := by
    obtain ⟨PS, b', cap, h1, h2⟩ := HJJ.out
    exact alB_of h1 rfl h2 HNN.out
  have HAB := Lib.hid AB
  have HSW : RowKit.Hid (∃ S, AlS B tb tc 0 S ∧ KW w2 S ∧ Fr (KS.first B lo 4 4 5 tb tc) S w2 w2) := Lib.hid ⟨_, HN0.out, HK2.out, Fr.refl _ _⟩
  clear AB
  go_wp2_with fail
  go_loopw [5] (fun i wr => ∃ (j : Nat) (S : KS), i = .int .i64 j ∧ j ≤ 3 ∧ AlS B tb tc j S ∧ KW wr S ∧ Fr (KS.first B lo 4 4 5 tb tc) S w2 wr) (fun i _ => 3 - (intOf i).toNat)
  case atStart =>
    obtain ⟨S, h1, h2, h3⟩ := HSW.out
    exact ⟨0, S, rfl, by omega, h1, h2, h3⟩
  case round =>
    obtain ⟨j, S, rfl, hj, hA, hK, hF⟩ := hrel
    have HA := Lib.hid hA
    have HK := Lib.hid hK
    have HF := Lib.hid hF
    clear hA hK hF
    by_cases hlt : j < 3
    · have i1 : (0 : Int) ≤ j := by omega
      go_wp2_with (first
        | (go_at_call 14; refine (Run_c wr).mono ?_; rintro e w3 ⟨rfl, b3⟩; have HK3 := Lib.hid (HK.out.reads b3); have HF3 := Lib.hid (HF.out.trans (Fr.reads S b3)); clear b3)
        | (go_at_call 13; refine (al_next HAB.out j (by omega) (by omega) w3 S HA.out HK3.out).mono ?_; rintro e w4 ⟨S4, rfl, hA4, k4, f4⟩; have HA4 := Lib.hid hA4; have HK4 := Lib.hid k4; have HF4 := Lib.hid (HF3.out.trans f4); clear hA4 k4 f4))
      go_roundw
      case rel => exact ⟨j + 1, S4, by go_num, by omega, HA4.out, HK4.out, HF4.out⟩
      case measure => simp [intOf]; omega
    · obtain rfl : j = 3 := by omega
      obtain ⟨b2, c2, N3⟩ : ∃ b2 c2, Now S B (x3 B tb tc b2 c2) := HA.out
      have RU := Runs_c wr S N3.B HK.out N3.calm.P (by rw [N3.R]; show 1 ≤ Lib.bitLen R2.sm; decide) (by rw [N3.R]; show Lib.bitLen R2.sm ≤ 32; decide) (by rw [N3.R]; show R2.sm ≠ 0; decide) (by rw [N3.st]; show (0 : Int) ≤ ((11 : Nat) : Int); decide) (by rw [N3.st]; show ((11 : Nat) : Int) ≤ 800000000; decide)
      rw [show S.R.firstF = 1 by rw [N3.R]; show R2.firstF = 1; decide] at RU
      obtain ⟨S5, hS5⟩ : ∃ S5 : KS, S5 = { S with st := S.st + 1 } := ⟨_, rfl⟩
      have HA5 : RowKit.Hid (AlS B tb tc 4 S5) := Lib.hid (by rw [hS5]; exact ⟨b2, c2, now_one N3⟩)
      rw [← hS5] at RU
      clear N3 hS5
      go_wp2_with (go_at_call 16; refine RU.mono ?_; rintro e w5 ⟨rfl, k5, f5⟩; have HK5 := Lib.hid k5; have HF5 := Lib.hid (HF.out.trans f5); clear k5 f5 RU)
      go_loopw [8] (fun i wr => ∃ (j : Nat) (S : KS), i = .int .i64 j ∧ j ≤ 5 ∧ AlS B tb tc (4 + j) S ∧ KW wr S ∧ Fr (KS.first B lo 4 4 5 tb tc) S w2 wr) (fun i _ => 5 - (intOf i).toNat)
      case atStart => exact ⟨0, S5, rfl, by omega, HA5.out, HK5.out, HF5.out⟩
      case round =>
        clear HA HK HF HA5 HK5 HF5 HSW hlt hj
        obtain ⟨j, S6, rfl, hj, hA, hK, hF⟩ := hrel
        have HA := Lib.hid hA
        have HK := Lib.hid hK
        have HF := Lib.hid hF
        clear hA hK hF
        by_cases hlt : j < 5
        · have i1 : (0 : Int) ≤ j := by omega
          go_wp2_with (first
            | (go_at_call 14; refine (Run_c _).mono ?_; rintro e w7 ⟨rfl, b7⟩; have HK7 := Lib.hid (HK.out.reads b7); have HF7 := Lib.hid (HF.out.trans (Fr.reads S6 b7)); clear b7)
            | (go_at_call 13; refine (al_next HAB.out (4 + j) (by omega) (by omega) w7 S6 HA.out HK7.out).mono ?_; rintro e w8 ⟨S8, rfl, hA8, k8, f8⟩; have HA8 := Lib.hid hA8; have HK8 := Lib.hid k8; have HF8 := Lib.hid (HF7.out.trans f8); clear hA8 k8 f8))
          go_roundw
          case rel => exact ⟨j + 1, S8, by go_num, by omega, HA8.out, HK8.out, HF8.out⟩
          case measure => simp [intOf]; omega
        · obtain rfl : j = 5 := by omega
          obtain ⟨b2', c2', N8⟩ : ∃ b2 c2, Now S6 B (x8 B tb tc b2 c2) := HA.out
          have hno : S6.lo.notes = [(0, 7)] := N8.notes
          have hnt := HK.out.nt
          rw [hno] at hnt
          obtain ⟨g, cp, hnv⟩ : ∃ g cp, S6.lo.nv = .slice (some ⟨g, 0, none⟩) 1 cp := by
            rcases hnt.2 with ⟨_, e⟩ | ⟨g, cp, cur, e, _⟩
            · cases e
            · exact ⟨g, cp, e⟩
          have NT := Notes_c wr S6 N8.B HK.out (by rw [hno]; decide) g cp (by rw [hno]; exact hnv)
          rw [hno] at NT
          have HE : RowKit.Hid (Below w.heap.size w wr) := Lib.hid ⟨HF.out.os.trans HB2.out.os, HF.out.tape.trans HB2.out.tape, HF.out.output.trans HB2.out.output, Nat.le_trans HB2.out.size HF.out.size, fun k hk => (HF.out.block k (Nat.lt_of_lt_of_le hk HB2.out.size) (HLL.out k (Nat.lt_of_lt_of_le hk HB1.out.size))).trans (HB2.out.block k hk)⟩
          clear hnt hno hnv N8
          go_wp2_with (go_at_call 15; refine NT.mono ?_; rintro e w9 ⟨v, rfl, ow, nn, b9⟩
                       obtain ⟨g9, q9, rfl⟩ : ∃ g q, v = .slice (some ⟨g, 0, none⟩) 1 q := by
                         rcases ow.2 with ⟨e, _⟩ | ⟨g, q, cur, e, _⟩
                         · exact absurd e nn
                         · exact ⟨g, q, e⟩
                       have y0 : w9.cell? ⟨g9, 0, none⟩ = some (.int .i64 0) := by
                         have q := World.ownsRow.cellAt ow 0 (by decide)
                         simpa using q
                       have y1 : w9.cell? ⟨g9, 1, none⟩ = some (.int .i64 7) := by
                         have q := World.ownsRow.cellAt ow 1 (by decide)
                         simpa using q
                       have HB9 := Lib.hid b9
                       clear ow nn b9 NT)
          go_ret
          exact ⟨rfl, HE.out.trans (HB9.out.mono HE.out.size)⟩
end Go.Proofs.YtagmlijhgncklaaGreatDoor.Ker
namespace Go.Proofs.YtagmlijhgncklaaGreatDoor.Spo
open Go.RowKit Go.Proofs.YtagmlijhgncklaaGreatDoor

/-- A server: budget, period, what is left, is it active, since when, what was used, its pieces. -/
structure Sv where
  bu : Int
  pe : Int
  lf : Int
  ac : Bool
  si : Int
  us : Int
  pv : Value
  ps : List (Int × Int)
def svO (s : Sv) : Obj := .cells #[.int .i64 s.bu, .int .i64 s.pe, .int .i64 4, .int .i64 s.lf, .bool s.ac, .int .i64 s.si, .int .i64 s.us, s.pv] 344 (0, 0)
def pcC (l : List (Int × Int)) : List Value := l.flatMap fun x => [.int .i64 x.1, .int .i64 x.2]
/-- The pieces lie where they say. -/
def PcW (w : World) (s : Sv) : Prop := w.ownsRow 0 348 2 s.pv s.ps.length (pcC s.ps)
theorem PcW.slice {w : World} {s : Sv} (h : PcW w s) : ∃ a c, s.pv = .slice a s.ps.length c := by
  rcases h.2 with ⟨e, n⟩ | ⟨g, c, _, e, _⟩
  · exact ⟨none, 0, by rw [e, n]⟩
  · exact ⟨some ⟨g, 0, none⟩, c, e⟩
theorem is_c (w : World) (b : Nat) (s : Sv) (h : w.heap[b]? = some (svO s)) (hb : 0 < s.bu) : Calls Tryz.prog 151 #[.pointer (some ⟨b, 0, none⟩)] w fun e w' => e = .returned (.bool true) ∧ w = w' := by
  have c0 : w.cell? ⟨b, 0, none⟩ = some (.int .i64 s.bu) := has_cell 0 h rfl
  clear h
  go_enter Tryz.func151, Tryz.ntmps151
  go_wp2
  go_ret
  exact ⟨rfl, rfl⟩
def highF (s : Sv) : Bool := decide (0 < s.lf) && decide (s.ps.length < 4)
/-- A server has turned: its block and its pieces' block; what is elsewhere is as it was. -/
structure SvTo (w : World) (b : Nat) (s s' : Sv) (w' : World) : Prop where
  os : w'.os = w.os
  tape : w'.tape = w.tape
  output : w'.output = w.output
  size : w.heap.size ≤ w'.heap.size
  has : w'.heap[b]? = some (svO s')
  pc : PcW w' s'
  keep : ∀ k, k < w.heap.size → k ≠ b → s.pv.ownBlock ≠ some k → w'.heap[k]? = w.heap[k]?
  blk : s'.pv.ownBlock = s.pv.ownBlock ∨ ∀ g, s'.pv.ownBlock = some g → w.heap.size ≤ g
/-- The pieces' block is not the server's own. -/
def Apart (b : Nat) (s : Sv) : Prop := s.pv.ownBlock ≠ some b
theorem pc_lt {w : World} {s : Sv} (h : PcW w s) {g : Nat} (hg : s.pv.ownBlock = some g) : g < w.heap.size := Ker.owns_lt h hg
theorem SvTo.apart {w w' : World} {b : Nat} {s s' : Sv} (h : SvTo w b s s' w') (a : Apart b s) (hb : b < w.heap.size) : Apart b s' := by
  intro e
  rcases h.blk with q | q
  · exact a (q.symm.trans e)
  · have := q b e; omega
theorem SvTo.trans {w w1 w2 : World} {b : Nat} {s s1 s2 : Sv} (h : SvTo w b s s1 w1) (k : SvTo w1 b s1 s2 w2) : SvTo w b s s2 w2 := by
  refine ⟨k.os.trans h.os, k.tape.trans h.tape, k.output.trans h.output, Nat.le_trans h.size k.size, k.has, k.pc, fun j hj hjb hjp => ?_, ?_⟩
  · refine (k.keep j (Nat.lt_of_lt_of_le hj h.size) hjb ?_).trans (h.keep j hj hjb hjp)
    intro e
    rcases h.blk with q | q
    · exact hjp (q.symm.trans e)
    · have := q j e; omega
  · rcases k.blk with q | q
    · rcases h.blk with r | r
      · exact .inl (q.trans r)
      · exact .inr fun g hg => r g (q.symm.trans hg)
    · exact .inr fun g hg => Nat.le_trans h.size (q g hg)
/-- The server's own block alone has turned. -/
theorem SvTo.own {w w' : World} {b : Nat} {s s' : Sv} (hp : PcW w s) (a : Apart b s) (e1 : s'.pv = s.pv) (e2 : s'.ps = s.ps) (U : Upd w b (svO s') w') : SvTo w b s s' w' :=
  ⟨U.2.os, U.2.tape, U.2.output, U.2.size, U.1, by
    unfold PcW
    rw [e1, e2]
    exact Ker.owns_kept hp fun g hg => U.2.block g (pc_lt hp hg) (by intro e; cases e; exact a hg), fun k hk hkb _ => U.2.block k hk (by intro e; cases e; exact hkb rfl), .inl (by rw [e1])⟩
theorem SvTo.reads {w w1 w2 : World} {b : Nat} {s s1 : Sv} (h : SvTo w b s s1 w1) (k : Below w1.heap.size w1 w2) : SvTo w b s s1 w2 :=
  ⟨k.os.trans h.os, k.tape.trans h.tape, k.output.trans h.output, Nat.le_trans h.size k.size, below_has k h.has, Ker.owns_kept h.pc fun g hg => k.block g (pc_lt h.pc hg), fun j hj a c => (k.block j (Nat.lt_of_lt_of_le hj h.size)).trans (h.keep j hj a c), h.blk⟩
end Go.Proofs.YtagmlijhgncklaaGreatDoor.Spo
namespace Go.Proofs.YtagmlijhgncklaaGreatDoor.Spo
open Go.RowKit Go.Proofs.YtagmlijhgncklaaGreatDoor

structure DueW (w W : World) (x y : Nat) (now n : Int) : Prop where
  below : Below w.heap.size w W
  hx : W.heap[x]? = some (.cells #[.int .i64 now] 2 (0, 0))
  hy : W.heap[y]? = some (.cells #[.int .i64 n] 2 (0, 0))
  xw : w.heap.size ≤ x
  yw : w.heap.size ≤ y
  xy : x ≠ y
theorem DueW.reads {w W W' : World} {x y : Nat} {now n : Int} (h : DueW w W x y now n) (k : Below W.heap.size W W') : DueW w W' x y now n :=
  ⟨h.below.trans (k.mono h.below.size), below_has k h.hx, below_has k h.hy, h.xw, h.yw, h.xy⟩
theorem DueW.first (w : World) (now : Int) : DueW w ((w.alloc (.cells #[.int .i64 now] 2)).alloc (.cells #[.int .i64 0] 2)) w.heap.size (w.heap.size + 1) now 0 := by
  have b1 := (Below.refl w.heap.size w).alloc (Nat.le_refl _) (.cells #[.int .i64 now] 2)
  have x1 := heap_alloc_new w (.cells #[.int .i64 now] 2)
  have y1 := heap_alloc_new (w.alloc (.cells #[.int .i64 now] 2)) (.cells #[.int .i64 0] 2)
  rw [World.size_alloc] at y1
  exact ⟨b1.alloc b1.size _, below_alloc_has x1, y1, Nat.le_refl _, Nat.le_succ _, by omega⟩
/-- A server is made. -/
theorem new_c (w : World) (bu pe : Int) (b0 : 1 ≤ bu) (b1 : bu ≤ pe) (p1 : pe ≤ 1099511627776) : Calls Tryz.prog 492 #[.int .i64 bu, .int .i64 pe, .int .i64 4] w fun e w' => e = .returned (.tuple #[.pointer (some ⟨w.heap.size, 0, none⟩), .int .i64 0]) ∧ w' = w.alloc (.cells #[.int .i64 bu, .int .i64 pe, .int .i64 4, .int .i64 bu, .bool false, .int .i64 0, .int .i64 0, .slice none 0 0] 344) := by
  go_enter Tryz.func492, Tryz.ntmps492
  go_wp2
  go_ret2
  exact ⟨rfl, rfl⟩
end Go.Proofs.YtagmlijhgncklaaGreatDoor.Spo
namespace Go.Proofs.YtagmlijhgncklaaGreatDoor.Ker
open Go.RowKit Go.Proofs.YtagmlijhgncklaaGreatDoor Go.Proofs.YtagmlijhgncklaaGreatDoor.Spo

structure HasSv (S : KS) (sv : Nat) (s : Sv) : Prop where
  e0 : S.ext 0 = some (sv, svO s)
  e1 : ∀ g, s.pv.ownBlock = some g → ∃ o, S.ext 1 = some (g, o)
  pc : ∀ W : World, (∀ g o, S.ext 1 = some (g, o) → W.heap[g]? = some o) → PcW W s
  bu : 0 < s.bu
theorem obj_ext {S : KS} (k : Nat) : S.obj (k + 45) = S.ext k := by
  show (if k + 32 < 32 then S.thObj (k + 32) else S.ext (k + 32 - 32)) = _
  rw [if_neg (by omega), show k + 32 - 32 = k by omega]
theorem HasSv.has {w : World} {S : KS} {sv : Nat} {s : Sv} (H : HasSv S sv s) (h : KW w S) : w.heap[sv]? = some (svO s) ∧ S.lo.lab sv = 50 := h.ob 45 sv _ ((obj_ext 0).trans H.e0)
theorem HasSv.apart {w : World} {S : KS} {sv : Nat} {s : Sv} (H : HasSv S sv s) (h : KW w S) : Apart sv s := by
  intro e
  obtain ⟨o, ho⟩ := H.e1 sv e
  have q := (h.ob 46 sv o ((obj_ext 1).trans ho)).2
  have := (H.has h).2
  omega
/-- The kernel whose server is s' now. -/
def KS.withSv (S : KS) (w' : World) (sv : Nat) (s' : Sv) : KS :=
  { S with ext := fun n => if n = 0 then some (sv, svO s') else if n = 1 then (s'.pv.ownBlock.bind fun g => (w'.heap[g]?).map fun o => (g, o)) else S.ext n, lo := { S.lo with lab := fun x => if s'.pv.ownBlock = some x then 51 else S.lo.lab x } }
theorem KW.server {w w' : World} {S : KS} {sv : Nat} {s s' : Sv} (h : KW w S) (H : HasSv S sv s) (T : SvTo w sv s s' w') (hb : 0 < s'.bu) : KW w' (S.withSv w' sv s') ∧ Fr S (S.withSv w' sv s') w w' ∧ HasSv (S.withSv w' sv s') sv s' := by
  have l50 := (H.has h).2
  have g51 : ∀ g, s.pv.ownBlock = some g → S.lo.lab g = 51 := fun g hg => by
    obtain ⟨o, ho⟩ := H.e1 g hg
    exact (h.ob 46 g o ((obj_ext 1).trans ho)).2
  have keep : ∀ c, c < w.heap.size → S.lo.lab c ≠ 50 → S.lo.lab c ≠ 51 → w'.heap[c]? = w.heap[c]? := fun c hc h0 h1 => T.keep c hc (by intro e; subst e; exact h0 l50) (by intro e; exact h1 (g51 c e))
  have lab : ∀ x, x < w.heap.size → (S.withSv w' sv s').lo.lab x = S.lo.lab x := fun x hx => by
    show (if s'.pv.ownBlock = some x then 51 else S.lo.lab x) = _
    by_cases e : s'.pv.ownBlock = some x
    · rw [if_pos e]
      rcases T.blk with q | q
      · exact (g51 x (q.symm.trans e)).symm
      · have := q x e; omega
    · rw [if_neg e]
  have lt : ∀ {x : Nat} {o : Obj}, w.heap[x]? = some o → x < w.heap.size := fun h => has_lt h
  have hsv : sv < w.heap.size := lt (H.has h).1
  have K : KW w' (S.withSv w' sv s') := by
    refine ⟨?_, ?_, ?_, ?_, ?_, ?_, ?_, ?_, ?_⟩
    · intro i b o hi
      by_cases e0 : i = 45
      · subst e0
        cases hi
        exact ⟨T.has, (lab _ hsv).trans l50⟩
      · by_cases e1 : i = 46
        · subst e1
          have hi : (s'.pv.ownBlock.bind fun g => (w'.heap[g]?).map fun o => (g, o)) = some (b, o) := hi
          cases hg : s'.pv.ownBlock with
          | none => rw [hg] at hi; cases hi
          | some g =>
            rw [hg] at hi
            cases ho : w'.heap[g]? with
            | none => rw [Option.bind_some, ho] at hi; cases hi
            | some o' =>
              rw [Option.bind_some, ho] at hi
              obtain ⟨rfl, rfl⟩ : g = b ∧ o' = o := by simpa using hi
              exact ⟨ho, by show (if s'.pv.ownBlock = some g then 51 else _) = _; rw [if_pos hg]⟩
        · have same : (S.withSv w' sv s').obj i = S.obj i := by
            match i with
            | 0 => rfl
            | 1 => rfl | 2 => rfl | 3 => rfl | 4 => rfl | 5 => rfl | 6 => rfl | 7 => rfl | 8 => rfl | 9 => rfl | 10 => rfl | 11 => rfl | 12 => rfl
            | n + 13 =>
              show (if n < 32 then S.thObj n else (S.withSv w' sv s').ext (n - 32)) = (if n < 32 then S.thObj n else S.ext (n - 32))
              by_cases hn : n < 32
              · rw [if_pos hn, if_pos hn]
              · rw [if_neg hn, if_neg hn]
                show (if n - 32 = 0 then _ else if n - 32 = 1 then _ else S.ext (n - 32)) = _
                rw [if_neg (by omega), if_neg (by omega)]
          rw [same] at hi
          have k := h.ob i b o hi
          exact ⟨(keep b (lt k.1) (by rw [k.2]; omega) (by rw [k.2]; omega)).trans k.1, (lab _ (lt k.1)).trans k.2⟩
    · intro c x hx
      have k := h.cs c x hx
      exact ⟨(keep c (lt k.1) (by rw [k.2]; omega) (by rw [k.2]; omega)).trans k.1, (lab _ (lt k.1)).trans k.2⟩
    · obtain ⟨xs, hx⟩ := h.l
      exact ⟨xs, owns_kept hx fun c hc => keep c (owns_lt hx hc) (by rw [h.ll c hc]; omega) (by rw [h.ll c hc]; omega)⟩
    · intro b hb
      obtain ⟨xs, hx⟩ := h.l
      exact (lab _ (owns_lt hx hb)).trans (h.ll b hb)
    · exact owns_kept h.nt fun c hc => keep c (owns_lt h.nt hc) (by rw [h.nl c hc]; omega) (by rw [h.nl c hc]; omega)
    · intro b hb
      exact (lab _ (owns_lt h.nt hb)).trans (h.nl b hb)
    · obtain ⟨xs, hx⟩ := h.a
      exact ⟨xs, owns_kept hx fun c hc => keep c (owns_lt hx hc) (by rw [h.al c hc]; omega) (by rw [h.al c hc]; omega)⟩
    · intro b hb
      obtain ⟨xs, hx⟩ := h.a
      exact (lab _ (owns_lt hx hb)).trans (h.al b hb)
    · intro c hc
      show (if s'.pv.ownBlock = some c then 51 else S.lo.lab c) = 0
      rw [if_neg (fun e => by have := pc_lt T.pc e; omega)]
      exact h.fresh c (Nat.le_trans T.size hc)
  have e1 : ∀ g, s'.pv.ownBlock = some g → ∃ o, (S.withSv w' sv s').ext 1 = some (g, o) := fun g hg => by
    have hl := pc_lt T.pc hg
    refine ⟨w'.heap[g], ?_⟩
    show (s'.pv.ownBlock.bind fun g => (w'.heap[g]?).map fun o => (g, o)) = _
    rw [hg, Option.bind_some, Array.getElem?_eq_getElem hl]
    rfl
  refine ⟨K, ⟨T.os, T.tape, T.output, T.size, fun k hk h0 => keep k hk (by rw [h0]; omega) (by rw [h0]; omega), lab⟩, ⟨rfl, e1, fun W hW => ?_, hb⟩⟩
  refine owns_kept T.pc fun g hg => ?_
  have hl := pc_lt T.pc hg
  have ho : (S.withSv w' sv s').ext 1 = some (g, w'.heap[g]) := by
    show (s'.pv.ownBlock.bind fun g => (w'.heap[g]?).map fun o => (g, o)) = _
    rw [hg, Option.bind_some, Array.getElem?_eq_getElem hl]
    rfl
  rw [hW g _ ho, Array.getElem?_eq_getElem hl]
/-- What is said of a server holds of each kernel with the same. -/
theorem HasSv.same {S S' : KS} {sv : Nat} {s : Sv} (H : HasSv S sv s) (he : S'.ext = S.ext) : HasSv S' sv s :=
  ⟨by rw [he]; exact H.e0, fun g hg => by rw [he]; exact H.e1 g hg, fun W hW => H.pc W (by rw [he] at hW; exact hW), H.bu⟩
end Go.Proofs.YtagmlijhgncklaaGreatDoor.Ker
namespace Go.Proofs.YtagmlijhgncklaaGreatDoor.Ker
open Go.RowKit Go.Proofs.YtagmlijhgncklaaGreatDoor

attribute [local go_sem] Oper.semAt_some
attribute [local go_sem] Tab.wide_fn Tab.wide_round_fn

/-- What prio answers for each thread that has not ended; it may draw. -/
def PrioB (S : KS) (f : Nat → Int) : Prop := ∀ (W : World) (p : Nat) (t : Th), KW W S → p < 16 → S.th p = some t → t.en = false → Calls Tryz.prog 49 #[.pointer (some ⟨t.b, 0, none⟩)] W fun e w' => e = .returned (.int .i64 (f p)) ∧ Below W.heap.size W w'
theorem PrioB.of {S : KS} {f : Nat → Int} (h : PrioOk S f) : PrioB S f := fun W p t a b c d => (h W p t a b c d).mono fun e w' ⟨h1, h2⟩ => ⟨h1, by subst h2; exact Below.refl _ _⟩
set_option maxRecDepth 100000 in
set_option maxHeartbeats 1000000 in
theorem graphB_c (w : World) (S : KS) {B : KB} (hB : S.B = B) (h : KW w S) (P : KP S) (f : Nat → Int) (hf : PrioB S f) (hr : ∀ p t, p < 16 → S.th p = some t → t.en = false → 0 ≤ f p ∧ f p ≤ 31) (hk : ∀ p t, S.th p = some t → t.wt.kind ≠ 2) (hm : ∀ i, Tab.tk S.muT i = false) :
    Calls Tryz.prog 69 #[.pointer (some ⟨B.kb, 0, none⟩)] w fun e w' => ∃ g, e = .returned (.pointer (some ⟨g, 0, none⟩)) ∧ w.heap.size ≤ g ∧ GrW w w' S f g 16 := by
  subst hB
  have HK := Lib.hid h
  have hbx := below_alloc_has (o := .cells #[.pointer (some ⟨S.B.kb, 0, none⟩)] 36) (h.has 0 rfl)
  have n1 := P.n1
  have n16 := P.n16
  refine Tab.calls_of_marks 4 Tryz.func69 rfl ?_
  simp only [Tryz.ntmps69, List.size_toArray, List.length_cons, List.length_nil, Nat.reduceAdd, Nat.reduceSub, Array.replicate_succ, Array.replicate_zero, List.push_toArray, List.append_toArray, List.nil_append, List.cons_append]
  have k0 := h.reads ((Below.refl w.heap.size w).alloc (Nat.le_refl _) (.cells #[.pointer (some ⟨S.B.kb, 0, none⟩)] 36))
  have cj := kc0 (B := S.B) k0 rfl
  rw [P.n] at cj
  have c00 : (w.alloc (.cells #[.pointer (some ⟨S.B.kb, 0, none⟩)] 36)).cell? ⟨w.heap.size, 0, none⟩ = some (.pointer (some ⟨S.B.kb, 0, none⟩)) := has_cell 0 (heap_alloc_new w _) rfl
  have HP := Lib.hid P
  clear h P hbx
  refine wpIn_wide.2 ?_
  go_wp2_with (first
    | (go_at_call 111; refine (Inh.new_c _ S.B.n n1 n16).mono ?_; rintro e w1 ⟨rfl, x1, b1, z1⟩; have k1 := k0.reads b1; have bx := below_has b1 (heap_alloc_new w (.cells #[.pointer (some ⟨S.B.kb, 0, none⟩)] 36)); have c0 : w1.cell? ⟨w.heap.size, 0, none⟩ = some (.pointer (some ⟨S.B.kb, 0, none⟩)) := has_cell 0 bx rfl; have hr72 := k1.tpr; have HB1 := Lib.hid (((Below.refl w.heap.size w).alloc (Nat.le_refl _) (.cells #[.pointer (some ⟨S.B.kb, 0, none⟩)] 36)).trans (b1.mono (by simp))); clear b1 cj k0)
    | (refine wpList_load_mid rfl 72 (.tmp 27) rfl S.B.kb 10 rfl S.tps _ hr72 Tryz.underlying72 rfl (by kernel_rfl) ?_))
  rw [World.size_alloc] at x1
  clear hr72 c0 c00
  have H1 : GrW w w1 S f (w.heap.size + 1) 0 := ⟨HB1.out, bx, Inh.newG S.B.n, x1, Inh.newG_ok n1 n16, rfl, fun p t hp => absurd hp (Nat.not_lt_zero _), rfl, rfl⟩
  clear x1 z1 k1 bx HB1
  have hsz : w.heap.size + 1 < w1.heap.size := by obtain ⟨G, hG, _⟩ := H1.g; exact has_lt hG
  go_loopw [29] (fun i wr => ∃ j : Nat, i = .int .i64 j ∧ j ≤ 16 ∧ GrW w wr S f (w.heap.size + 1) j) (fun i _ => 16 - (intOf i).toNat)
  case atStart => exact ⟨0, rfl, by omega, H1⟩
  case round =>
    clear H1
    obtain ⟨j, rfl, hj, GW⟩ := hrel
    by_cases hlt : j < 16
    · have hix := run_index_72 S.tps j _ rfl hlt (S.tps_get hlt) wr
      have htp := HP.out.tp j hlt
      cases hth : S.th j with
      | none =>
        rw [hth, Option.map_none] at htp
        rw [htp] at hix
        have HG := Lib.hid GW
        have HTH := Lib.hid hth
        clear htp hth GW
        go_wp2_with fail
        go_roundw
        case rel => exact ⟨j + 1, by go_num, by omega, HG.out.below, HG.out.box, by
          obtain ⟨G, g1, g2, g3, g4, g5⟩ := HG.out.g
          exact ⟨G, g1, g2, g3, fun p t hp hp16 ht he => by
            by_cases e : p = j
            · subst e; rw [HTH.out] at ht; cases ht
            · exact g4 p t (by omega) hp16 ht he, g5⟩⟩
        case measure => simp [intOf]; omega
      | some t =>
        rw [hth, Option.map_some] at htp
        rw [htp] at hix
        have hT : wr.heap[t.b]? = some (thO j t) := (HK.out.reads GW.below).getTh hlt hth
        have c20 := tc20 hT
        cases hen : t.en with
        | true =>
          rw [hen] at c20
          have HG := Lib.hid GW
          have HTH := Lib.hid hth
          have HEN := Lib.hid hen
          clear htp hth GW hen hT
          go_wp2_with fail
          go_roundw
          case rel => exact ⟨j + 1, by go_num, by omega, HG.out.below, HG.out.box, by
            obtain ⟨G, g1, g2, g3, g4, g5⟩ := HG.out.g
            exact ⟨G, g1, g2, g3, fun p x hp hp16 hx he => by
              by_cases e : p = j
              · subst e; rw [HTH.out] at hx; cases hx; rw [HEN.out] at he; cases he
              · exact g4 p x (by omega) hp16 hx he, g5⟩⟩
          case measure => simp [intOf]; omega
        | false =>
          rw [hen] at c20
          obtain ⟨G, g1, g2, g3, g4, g5, g6⟩ := GW.g
          have A := hf wr j t (HK.out.reads GW.below) hlt hth hen
          have jn := HP.out.thn j t hth
          have hfr := hr j t hlt hth hen
          have Bc := fun (W : World) (hW : W.heap[w.heap.size + 1]? = some (Inh.gO G)) => Inh.base_c W (w.heap.size + 1) G j (f j) hW g2 (by rw [g3]; exact jn) hfr
          have HG1 := Lib.hid g1
          have d : (t.wt.kind == 2) = false := by simpa using hk j t hth
          have j0 : (0 : Int) ≤ j := by omega
          have j1 : (j : Int) < 16 := by omega
          have HG := Lib.hid GW
          have HTH := Lib.hid hth
          have HJN := Lib.hid jn
          have HFR := Lib.hid hfr
          have HG2 := Lib.hid g2
          have HG3 := Lib.hid g3
          have HG4 := Lib.hid g4
          have HG5 := Lib.hid g5
          have HG6 := Lib.hid g6
          clear htp hth GW hen hT jn hfr g1 g2 g3 g4 g5 g6
          go_wp2_with (first
            | (go_at_call 49; refine A.mono ?_; rintro e wq ⟨rfl, bq⟩; have HGQ := Lib.hid (HG.out.reads bq); have HG1Q := Lib.hid (below_has bq HG1.out); clear bq A)
            | (go_at_call 112; refine (Bc _ HG1Q.out).mono ?_; rintro e w2 ⟨rfl, u2⟩; have B2 := HGQ.out.below.trans (u2.below (B := w.heap.size) (by omega) HGQ.out.below.size); have c23 := tc23 ((HK.out.reads B2).getTh hlt HTH.out); have HU := Lib.hid u2; have HB2 := Lib.hid B2; clear u2 B2))
          go_roundw
          case rel =>
            refine ⟨j + 1, by go_num, by omega, HB2.out, HU.out.other HGQ.out.box (by omega), { G with ba := Inh.upd G.ba j (f j) }, HU.out.1, ?_, HG3.out, fun p x hp hp16 hx he => ?_, HG5.out, HG6.out⟩
            · have k := HG2.out
              exact ⟨k.n1, k.n2, fun i hi => by
                show 0 ≤ (if i = j then f j else G.ba i) ∧ (if i = j then f j else G.ba i) ≤ 31
                split
                · exact HFR.out
                · exact k.ba i hi, k.ce, k.wt, fun i h1 h2 => by
                have q := k.out i h1 h2
                have hij : i ≠ j := by
                  have h1' : G.n ≤ i := h1
                  rw [HG3.out] at h1'
                  have := HJN.out
                  omega
                exact ⟨by show (if i = j then f j else G.ba i) = 0; rw [if_neg hij]; exact q.1, q.2⟩⟩
            · show (if p = j then f j else G.ba p) = f p
              by_cases e : p = j
              · rw [if_pos e, e]
              · rw [if_neg e]
                exact HG4.out p x (by omega) hp16 hx he
          case measure => simp [intOf]; omega
    · obtain rfl : j = 16 := by omega
      obtain ⟨G, g1, g2, g3, g4, g5, g6⟩ := GW.g
      have hbx := GW.box
      have B1 := GW.below
      have szr : w.heap.size + 1 < wr.heap.size := has_lt g1
      go_upto_region 13 with fail
      refine world_wp (fun W => GrE w W S (w.heap.size + 1) wr.heap.size G ∧ wr.heap.size < W.heap.size) ⟨⟨B1.alloc B1.size _, below_alloc_has hbx, below_alloc_has g1, heap_alloc_new wr _⟩, by simp⟩ ?_
      rintro wa ⟨GE, sza⟩
      obtain ⟨cb, hcb⟩ : ∃ cb, cb = wr.heap.size := ⟨_, rfl⟩
      rw [← hcb] at GE sza szr ⊢
      clear hcb
      have ka := HK.out.reads GE.below
      have ca : wa.cell? ⟨w.heap.size, 0, none⟩ = some (.pointer (some ⟨S.B.kb, 0, none⟩)) := has_cell 0 GE.box rfl
      have c63 := kc63 (B := S.B) ka rfl
      have cmt : wa.cell? ⟨S.B.mu, 0, none⟩ = some (.pointer (some ⟨S.B.mub, 0, none⟩)) := has_cell 0 (ka.has 9 rfl) rfl
      have HE := Lib.hid GE
      have HG2 := Lib.hid g2
      have HG3 := Lib.hid g3
      have HG4 := Lib.hid g4
      have HG5 := Lib.hid g5
      have HG6 := Lib.hid g6
      clear GE GW g1 g2 g3 g4 g5 g6 hbx B1 hr hk hf hlt hj
      go_wp2_with (go_at_call 109; refine (Tab.all_c _ _).mono ?_; rintro e w6 ⟨rfl, x6, b6⟩; have k6 := ka.reads b6; have G6 : GrE w w6 S (w.heap.size + 1) cb G := ⟨HE.out.below.trans (b6.mono HE.out.below.size), below_has b6 HE.out.box, below_has b6 HE.out.g, below_has b6 HE.out.cs⟩; clear ka ca c63 cmt b6)
      have sz6 : wa.heap.size < w6.heap.size := has_lt x6
      refine (wpIn_wide (n := 4)).1 ?_
      refine named ?_
      intro fa hfa
      refine wpIn_rangeFunc_ownF rfl (by decide) (gf := 178) (lb := #[.pointer (some ⟨wa.heap.size, 0, none⟩)]) (by rw [hfa]; rfl) trivial Tab.enters178
        (Tab.all_free 3 (by decide) S.B.mub wa.heap.size S.muT w6 (k6.has 10 rfl) x6 HP.out.mu1 HP.out.mu2 (fun i => ⟨(HP.out.mug i).1, by have := (HP.out.mug i).2; omega⟩) hm) (fun _ _ => trivial) (fun _ _ _ _ _ _ _ _ => trivial) (Below.refl _ _) (fun _ => rfl)
        (fun (_ : List (Nat × Int)) W => GrE w W S (w.heap.size + 1) cb G) (fun _ _ _ => False)
        (fun _ X Y row hs hg hr => ⟨ownFrom_below (β := Unit) (n₀ := w.heap.size) (B := w6.heap.size) (w₀ := w) (Nat.le_refl _) (by omega) () X Y row hs.below hg hr, Tab.own_has (β := Unit) (B := w6.heap.size) (by omega) (fun _ => _) () X Y row hs.box hg hr, Tab.own_has (β := Unit) (B := w6.heap.size) (by omega) (fun _ => _) () X Y row hs.g hg hr, Tab.own_has (β := Unit) (B := w6.heap.size) (by omega) (fun _ => _) () X Y row hs.cs hg hr⟩) (fun _ => Tab.own_pure _) G6
        (fun x => { tmps := ((fa.tmps.setIfInBounds 83 (.int .i64 x.1)).setIfInBounds 84 (.int .i64 x.2)).setIfInBounds 11 (.int .i64 x.2), defers := [] })
        ?assign ?body ?done ?stop
      case assign =>
        intro l x W K hK
        subst hfa
        simp only [Tab.encH, Tab.zip2, Tab.fold2, List.setIfInBounds_toArray, List.set_cons_succ, List.set_cons_zero] at hK ⊢
        gi_wp2
        exact hK
      case body =>
        intro l pre x W _ hlen
        exact absurd hlen (Nat.not_lt_zero _)
      case stop =>
        rintro D c pre W _ h _ _
        exact h.elim
      case done =>
        rintro D ys W hD rfl hS hK
        subst hfa
        have kW := HK.out.reads hS.below
        have cW : W.cell? ⟨w.heap.size, 0, none⟩ = some (.pointer (some ⟨S.B.kb, 0, none⟩)) := has_cell 0 hS.box rfl
        have cj := kc0 (B := S.B) kW rfl
        rw [HP.out.n] at cj
        have HS := Lib.hid hS
        have HM := Lib.hid hK
        clear hS hK kW hm
        go_wp2_with fail
        clear cW cj
        go_loopw [119] (fun i wl => ∃ j : Nat, i = .int .i64 j ∧ j ≤ S.B.n ∧ GrE w wl S (w.heap.size + 1) cb G ∧ wl.heap[D]? = some (.deferred (some []))) (fun i _ => S.B.n - (intOf i).toNat)
        case atStart => exact ⟨0, rfl, by omega, HS.out, HM.out⟩
        case round =>
          obtain ⟨j, rfl, hj, E1, M1⟩ := hrel
          by_cases hlt : j < S.B.n
          · have cc : wr.cell? ⟨cb, j, none⟩ = some (.int .i64 0) := has_cell j E1.cs (by rw [List.getElem?_toArray, List.getElem?_replicate, if_pos (by omega)])
            have A := Inh.ceil_c wr (w.heap.size + 1) G j 0 E1.g HG2.out (by rw [HG3.out]; exact hlt) ⟨by omega, by omega⟩
            rw [show ({ G with ce := Inh.upd G.ce j 0 } : Inh.Gs) = G by
              have e : Inh.upd G.ce j 0 = G.ce := by
                rw [HG6.out]
                funext k
                unfold Inh.upd
                split <;> rfl
              rw [e]] at A
            have j0 : (0 : Int) ≤ j := by omega
            have j1 : (j : Int) < 16 := by omega
            have HE1 := Lib.hid E1
            have HM1 := Lib.hid M1
            clear E1 M1
            go_wp2_with (go_at_call 117; refine A.mono ?_; rintro e w2 ⟨rfl, u2⟩; have HU := Lib.hid u2; clear u2)
            go_roundw
            case rel => exact ⟨j + 1, by go_num, by omega, ⟨HE1.out.below.trans (HU.out.below (B := w.heap.size) (by omega) HE1.out.below.size), HU.out.other HE1.out.box (by omega), HU.out.1, HU.out.other HE1.out.cs (by omega)⟩, HU.out.other HM1.out (by omega)⟩
            case measure => simp [intOf]; omega
          · obtain rfl : j = S.B.n := by omega
            have HE1 := Lib.hid E1
            have HM1 := Lib.hid M1
            clear E1 M1
            go_wp2_with fail
            refine ⟨by simp, .inl ⟨_, _, rfl, run_takeDeferred HM1.out, ?_⟩⟩
            refine ⟨_, results_tmp rfl _ _ _, w.heap.size + 1, rfl, Nat.le_succ _, ?_⟩
            have Bm := Tab.below_mark HE1.out.below (by omega) HM1.out (.deferred none)
            exact ⟨Bm, (World.putObj_heap_other (by omega)).trans HE1.out.box, G, (World.putObj_heap_other (by omega)).trans HE1.out.g, HG2.out, HG3.out, HG4.out, HG5.out, HG6.out⟩
end Go.Proofs.YtagmlijhgncklaaGreatDoor.Ker
namespace Go.Proofs.YtagmlijhgncklaaGreatDoor.Ker
open Go.RowKit Go.Proofs.YtagmlijhgncklaaGreatDoor Go.Proofs.YtagmlijhgncklaaGreatDoor.Code Go.Proofs.YtagmlijhgncklaaGreatDoor.Spo

/-- A server's numbers are small. -/
structure SvR (s : Sv) : Prop where
  b0 : 0 < s.bu
  pe : s.bu ≤ s.pe
  p1 : s.pe ≤ 1000
  l0 : 0 ≤ s.lf
  l1 : s.lf ≤ 1000
  u0 : 0 ≤ s.us
  u1 : s.us ≤ 1000
  s0 : 0 ≤ s.si
  s1 : s.si ≤ 1000000
  ps : s.ps.length ≤ 1
  pb : ∀ p ∈ s.ps, 0 ≤ p.2 ∧ p.2 ≤ 1000
end Go.Proofs.YtagmlijhgncklaaGreatDoor.Ker
namespace Go.Proofs.YtagmlijhgncklaaGreatDoor.Ker
open Go.RowKit Go.Proofs.YtagmlijhgncklaaGreatDoor Go.Proofs.YtagmlijhgncklaaGreatDoor.Code Go.Proofs.YtagmlijhgncklaaGreatDoor.Spo

/-- Two kernels are alike but for the server's blocks and labels. -/
structure Like (S S' : KS) : Prop where
  B : S'.B = S.B
  tp : S'.tp = S.tp
  th : S'.th = S.th
  T : S'.T = S.T
  L : S'.L = S.L
  R : S'.R = S.R
  st : S'.st = S.st
  re : S'.re = S.re
  mo : S'.mo = S.mo
  W0 : S'.W0 = S.W0
  W1 : S'.W1 = S.W1
  kx : S'.kx = S.kx
  muT : S'.muT = S.muT
  muL : S'.muL = S.muL
  seT : S'.seT = S.seT
  seL : S'.seL = S.seL
  cst : S'.lo.cst = S.lo.cst
  lv : S'.lo.lv = S.lo.lv
  ln : S'.lo.ln = S.lo.ln
  nv : S'.lo.nv = S.lo.nv
  notes : S'.lo.notes = S.lo.notes
  av : S'.lo.av = S.lo.av
  an : S'.lo.an = S.lo.an
theorem Like.refl (S : KS) : Like S S := ⟨rfl, rfl, rfl, rfl, rfl, rfl, rfl, rfl, rfl, rfl, rfl, rfl, rfl, rfl, rfl, rfl, rfl, rfl, rfl, rfl, rfl, rfl, rfl⟩
theorem Like.trans {S S1 S2 : KS} (h : Like S S1) (k : Like S1 S2) : Like S S2 :=
  ⟨k.B.trans h.B, k.tp.trans h.tp, k.th.trans h.th, k.T.trans h.T, k.L.trans h.L, k.R.trans h.R, k.st.trans h.st, k.re.trans h.re, k.mo.trans h.mo, k.W0.trans h.W0, k.W1.trans h.W1, k.kx.trans h.kx, k.muT.trans h.muT, k.muL.trans h.muL, k.seT.trans h.seT, k.seL.trans h.seL, k.cst.trans h.cst, k.lv.trans h.lv, k.ln.trans h.ln, k.nv.trans h.nv, k.notes.trans h.notes, k.av.trans h.av, k.an.trans h.an⟩
theorem Like.withSv (S : KS) (w : World) (sv : Nat) (s : Sv) : Like S (S.withSv w sv s) := ⟨rfl, rfl, rfl, rfl, rfl, rfl, rfl, rfl, rfl, rfl, rfl, rfl, rfl, rfl, rfl, rfl, rfl, rfl, rfl, rfl, rfl, rfl, rfl⟩
theorem Like.KP {S S' : KS} (h : Like S S') (P : KP S) : KP S' := by
  obtain ⟨B, tp, th, T, L, R, st, re, mo, W0, W1, kx, muT, muL, seT, seL, cst, lv, ln, nv, notes, av, an⟩ := h
  obtain ⟨B', tp', th', T', L', R', st', re', mo', W0', W1', kx', muT', muL', seT', seL', ext', lo'⟩ := S'
  obtain ⟨lab', cst', lv', ln', nv', notes', av', an'⟩ := lo'
  simp only at B tp th T L R st re mo W0 W1 kx muT muL seT seL cst lv ln nv notes av an
  subst B tp th T L R st re mo W0 W1 kx muT muL seT seL cst lv ln nv notes av an
  exact { P with }
/-- A kernel, with what its server stands at. -/
def Svd (S : KS) (sv : Nat) (s : Sv) (w : World) (S0 : KS) (W : World) : Prop := ∃ S' pv, Like S S' ∧ KW W S' ∧ Fr S0 S' w W ∧ HasSv S' sv { s with pv := pv }
theorem Svd.reads {S S0 : KS} {sv : Nat} {s : Sv} {w W W' : World} (h : Svd S sv s w S0 W) (b : Below W.heap.size W W') : Svd S sv s w S0 W' := by
  obtain ⟨S', pv, L, k, f, H⟩ := h
  exact ⟨S', pv, L, k.reads b, f.trans (Fr.reads S' b), H⟩
/-- The server turns. -/
theorem Svd.turn {S S0 S' : KS} {sv : Nat} {s' : Sv} {s : Sv} {w W W' : World} (L : Like S S') (k : KW W S') (f : Fr S0 S' w W) (H : HasSv S' sv s) (T : SvTo W sv s s' W') (hb : 0 < s'.bu) : Svd S sv s' w S0 W' := by
  obtain ⟨k2, f2, H2⟩ := k.server H T hb
  exact ⟨S'.withSv W' sv s', s'.pv, L.trans (Like.withSv _ _ _ _), k2, f.trans f2, H2⟩
end Go.Proofs.YtagmlijhgncklaaGreatDoor.Ker
namespace Go.Proofs.YtagmlijhgncklaaGreatDoor.Ker
open Go.RowKit Go.Proofs.YtagmlijhgncklaaGreatDoor Go.Proofs.YtagmlijhgncklaaGreatDoor.Code Go.Proofs.YtagmlijhgncklaaGreatDoor.Spo

theorem SvR.pv {s : Sv} (R : SvR s) (v : Value) : SvR { s with pv := v } := ⟨R.b0, R.pe, R.p1, R.l0, R.l1, R.u0, R.u1, R.s0, R.s1, R.ps, R.pb⟩
end Go.Proofs.YtagmlijhgncklaaGreatDoor.Ker
namespace Go.Proofs.YtagmlijhgncklaaGreatDoor.Ker
open Go.RowKit Go.Proofs.YtagmlijhgncklaaGreatDoor Go.Proofs.YtagmlijhgncklaaGreatDoor.Code Go.Proofs.YtagmlijhgncklaaGreatDoor.Spo

/-- A thread goes to the head of another priority. -/
def KS.lifted (S : KS) (p pr : Nat) : KS := { S with L := S.L.set p { S.L.getD p Hs.no with pr := pr }, R := (S.R.remF p).headF pr p, st := S.st + 6 }
end Go.Proofs.YtagmlijhgncklaaGreatDoor.Ker
namespace Go.Proofs.YtagmlijhgncklaaGreatDoor.Ker
open Go.RowKit Go.Proofs.YtagmlijhgncklaaGreatDoor Go.Proofs.YtagmlijhgncklaaGreatDoor.Code Go.Proofs.YtagmlijhgncklaaGreatDoor.Spo

/-- In the midst of the first round: of the threads below j each is settled. -/
def MidS (w : World) (S S' : KS) (g : Nat) (G : Inh.Gs) (p j : Nat) (W : World) : Prop :=
  W.heap[g]? = some (Inh.gO G) ∧ if p < j then KW W S' ∧ Fr S S' w W else KW W S ∧ Fr S S w W
theorem MidS.reads {w W W' : World} {S S' : KS} {g : Nat} {G : Inh.Gs} {p j : Nat} (h : MidS w S S' g G p j W) (b : Below W.heap.size W W') : MidS w S S' g G p j W' := by
  refine ⟨below_has b h.1, ?_⟩
  have q := h.2
  by_cases c : p < j
  · rw [if_pos c] at q ⊢; exact ⟨q.1.reads b, q.2.trans (Fr.reads S' b)⟩
  · rw [if_neg c] at q ⊢; exact ⟨q.1.reads b, q.2.trans (Fr.reads S b)⟩
theorem MidS.next {w W : World} {S S' : KS} {g : Nat} {G : Inh.Gs} {p j : Nat} (h : MidS w S S' g G p j W) (hne : j ≠ p) : MidS w S S' g G p (j + 1) W := by
  refine ⟨h.1, ?_⟩
  have q := h.2
  by_cases c : p < j
  · rw [if_pos c] at q; rw [if_pos (by omega)]; exact q
  · rw [if_neg c] at q; rw [if_neg (by omega)]; exact q
end Go.Proofs.YtagmlijhgncklaaGreatDoor.Ker
namespace Go.Proofs.YtagmlijhgncklaaGreatDoor.Ker
open Go.RowKit Go.Proofs.YtagmlijhgncklaaGreatDoor Go.Proofs.YtagmlijhgncklaaGreatDoor.Code Go.Proofs.YtagmlijhgncklaaGreatDoor.Spo

set_option maxRecDepth 100000 in
theorem lives_c (w : World) (S : KS) {B : KB} (hB : S.B = B) (h : KW w S) (P : KP S) (hd : Int) (p : Nat) (t : Th) (hp : p < 16) (hf : Tab.atF S.T hd = some p) (ht : S.th p = some t) (hen : t.en = false) : Calls Tryz.prog 162 #[.pointer (some ⟨B.kb, 0, none⟩), .int .i64 hd] w fun e w' => e = .returned (.tuple #[.pointer (some ⟨t.b, 0, none⟩), .bool true]) ∧ Below w.heap.size w w' := by
  subst hB
  have c9 := kc9 h rfl
  have A := Tab.at_c w S.B.tab S.T hd (h.has 1 rfl) (by rw [P.T]; exact P.n1) (by rw [P.T]; exact P.n16) (fun i => ⟨(P.gen i).1, by have := (P.gen i).2; omega⟩)
  rw [hf, show Tab.atV (some p) = .tuple #[.int .i64 p, .bool true] from rfl] at A
  have HT := P.tp p hp
  rw [ht] at HT
  have C := fun W (hW : KW W S) => And.intro (hW.tpc hp) (tc20 (hW.getTh hp ht))
  simp only [HT, Option.map_some, hen] at C
  have HK := Lib.hid h
  have p0 : (0 : Int) ≤ p := by omega
  have p1 : (p : Int) < 16 := by omega
  clear h P hf ht HT hen
  go_enter Tryz.func162, Tryz.ntmps162
  go_wp2_with (go_at_call 66; refine A.mono ?_; rintro e w' ⟨rfl, hb⟩; obtain ⟨c, d⟩ := C w' (HK.out.reads hb); have HB := Lib.hid hb; clear hb)
  go_ret2
  exact ⟨rfl, HB.out⟩
set_option maxRecDepth 100000 in
theorem other_c (w : World) (S : KS) {B : KB} (hB : S.B = B) (h : KW w S) (P : KP S) (hd : Int) (p : Nat) (t : Th) (hp : p < 16) (hf : Tab.atF S.T hd = some p) (ht : S.th p = some t) (hen : t.en = false) : Calls Tryz.prog 354 #[.pointer (some ⟨B.kb, 0, none⟩), .int .i64 hd] w fun e w' => e = .returned (.pointer (some ⟨t.b, 0, none⟩)) ∧ Below w.heap.size w w' := by
  have A := lives_c w S hB h P hd p t hp hf ht hen
  clear h P hf ht hen
  go_enter Tryz.func354, Tryz.ntmps354
  go_wp2_with (first | (go_at_call 162; refine A.mono ?_; rintro e w' ⟨rfl, hb⟩; have HB := Lib.hid hb; clear hb) | (go_at_call 146; refine (must_c _ _).mono ?_; rintro e w' ⟨rfl, rfl⟩))
  go_ret
  exact ⟨rfl, HB.out⟩
set_option maxRecDepth 100000 in
theorem found_c (w : World) (S : KS) {B : KB} (hB : S.B = B) (h : KW w S) (P : KP S) (f : Nat → Int) (hf : PrioB S f) (hr : ∀ p t, p < 16 → S.th p = some t → t.en = false → 0 ≤ f p ∧ f p ≤ 31) (hk : ∀ p t, S.th p = some t → t.wt.kind ≠ 2) (hm : ∀ i, Tab.tk S.muT i = false) (p : Nat) (t : Th) (hp : p < 16) (ht : S.th p = some t) (hen : t.en = false) :
    Calls Tryz.prog 355 #[.pointer (some ⟨B.kb, 0, none⟩), .pointer (some ⟨t.b, 0, none⟩)] w fun e w' => e = .returned (.int .i64 (f p)) ∧ Below w.heap.size w w' := by
  subst hB
  have A : ∀ W, Below w.heap.size w W → Calls Tryz.prog 69 #[.pointer (some ⟨S.B.kb, 0, none⟩)] W fun e w' => ∃ g, e = .returned (.pointer (some ⟨g, 0, none⟩)) ∧ GrW W w' S f g 16 ∧ Below w.heap.size w w' := fun W b => by
    refine (graphB_c W S rfl (h.reads b) P f hf hr hk hm).mono ?_
    rintro e w' ⟨g, rfl, _, GW⟩
    exact ⟨g, rfl, GW, b.trans (GW.below.mono b.size)⟩
  have C := fun W (b : Below w.heap.size w W) => tc0 ((h.reads b).getTh hp ht)
  have jn := P.thn p t ht
  have O : ∀ W0 W g, GrW W0 W S f g 16 → Below w.heap.size w W → Calls Tryz.prog 70 #[.pointer (some ⟨g, 0, none⟩), .int .i64 p] W fun e w' => e = .returned (.tuple #[.int .i64 (f p), .bool true]) ∧ Below w.heap.size w w' := fun W0 W g GW b => by
    obtain ⟨G, g1, g2, g3, g4, g5, g6⟩ := GW.g
    refine (Inh.of_c W g G p g1 g2 (by rw [g3]; exact jn)).mono ?_
    rintro e w' ⟨out, rfl, hl, b3⟩
    have ho : out p = f p := by
      rw [g5] at hl
      rw [least_alone hl p (by rw [g3]; exact jn)]
      show max (G.ba p) (G.ce p) = f p
      have q := (g2.ba p hp).1
      rw [g6, g4 p t hp hp ht hen] at *
      exact Int.max_eq_left q
    exact ⟨by rw [ho], b.trans (b3.mono b.size)⟩
  have HO := Lib.hid O
  have HC := Lib.hid C
  clear h P hf hr hk hm ht hen jn O C
  go_enter Tryz.func355, Tryz.ntmps355
  go_wp2_with fail
  have bd : Below w.heap.size w w.drew := (Below.refl w.heap.size w).drew
  have e0 := HC.out w (Below.refl _ _)
  have HA := Lib.hid (A w.drew bd)
  clear A
  go_region_law (first
    | (go_simp; go_at_call 69; refine HA.out.mono ?_; rintro e w2 ⟨g, rfl, GW, b2⟩; have c0 := HC.out w2 b2; have HG := Lib.hid GW; have HB2 := Lib.hid b2; clear GW b2)
    | (go_simp; go_at_call 70; refine (HO.out _ _ _ HG.out HB2.out).mono ?_; rintro e w3 ⟨rfl, b3⟩; have c1 := HC.out w3 b3; have HB3 := Lib.hid b3; clear b3))
  all_goals go_wp2_with fail
  all_goals refine bodyPost_ret (v := .int .i64 (f p)) (results_tmp (show Tryz.f355.results = #[.tmp 4] from rfl) _ _ _) rfl ?_
  all_goals exact ⟨rfl, HB3.out⟩
end Go.Proofs.YtagmlijhgncklaaGreatDoor.Ker
namespace Go.Proofs.YtagmlijhgncklaaGreatDoor.Ker
open Go.RowKit Go.Proofs.YtagmlijhgncklaaGreatDoor Go.Proofs.YtagmlijhgncklaaGreatDoor.Code Go.Proofs.YtagmlijhgncklaaGreatDoor.Spo

/-- The kernel with a new server. -/
def KS.sv0 (S : KS) (sv : Nat) (s : Sv) : KS := { S with ext := fun n => if n = 0 then some (sv, svO s) else S.ext n, lo := { S.lo with lab := fun x => if x = sv then 50 else S.lo.lab x } }
/-- A server as it is made. -/
def newF (bu pe : Int) : Sv := { bu := bu, pe := pe, lf := bu, ac := false, si := 0, us := 0, pv := .slice none 0 0, ps := [] }
theorem HasSv.new {S : KS} {sv : Nat} {bu pe : Int} (hb : 0 < bu) : HasSv (S.sv0 sv (newF bu pe)) sv (newF bu pe) := by
  refine ⟨rfl, fun g hg => (by cases hg), fun W _ => ?_, hb⟩
  exact ⟨rfl, .inl ⟨rfl, rfl⟩⟩
end Go.Proofs.YtagmlijhgncklaaGreatDoor.Ker
namespace Go.Proofs.YtagmlijhgncklaaGreatDoor.Ker
open Go.RowKit Go.Proofs.YtagmlijhgncklaaGreatDoor Go.Proofs.YtagmlijhgncklaaGreatDoor.Code Go.Proofs.YtagmlijhgncklaaGreatDoor.Spo

/-- The priority that each thread has where one is sporadic. -/
def prF (S : KS) (p1 : Nat) (s : Sv) (q : Nat) : Int := match S.th q with
  | some t => if q = p1 then (if highF s then t.high else t.low) else t.base
  | none => 0
end Go.Proofs.YtagmlijhgncklaaGreatDoor.Ker
namespace Go.Proofs.YtagmlijhgncklaaGreatDoor.Ker
open Go.RowKit Go.Proofs.YtagmlijhgncklaaGreatDoor

set_option maxRecDepth 100000 in
theorem do_g (w : World) (S : KS) {B : KB} (hB : S.B = B) (h : KW w S) (kind n : Int) (Q : KS → Prop) (Q2 : KS → Prop) (HQ : ∀ Sg, Q2 Sg → Sg.B = S.B ∧ Sg.lo.ln ≤ 100000)
    (HS : ∀ W Sf, Q Sf → KW W Sf → Calls Tryz.prog 42 #[.pointer (some ⟨B.kb, 0, none⟩)] W fun e w' => ∃ Sg, e = .returned (.tuple #[]) ∧ Q2 Sg ∧ KW w' Sg ∧ Fr Sf Sg W w')
    (hA : (kind = 1 ∧ ∀ W, KW W S → Calls Tryz.prog 44 #[.pointer (some ⟨B.kb, 0, none⟩)] W fun e w' => ∃ Sf, e = .returned (.tuple #[]) ∧ Q Sf ∧ KW w' Sf ∧ Fr S Sf W w')
      ∨ (kind = 2 ∧ ∀ W, KW W S → Calls Tryz.prog 45 #[.pointer (some ⟨B.kb, 0, none⟩)] W fun e w' => ∃ Sf, e = .returned (.tuple #[]) ∧ Q Sf ∧ KW w' Sf ∧ Fr S Sf W w')) :
    Calls Tryz.prog 13 #[.pointer (some ⟨B.kb, 0, none⟩), .agg #[.int .i64 kind, .int .i64 n]] w fun e w' => ∃ Sg v, e = .returned (.int .i64 0) ∧ Q2 Sg ∧ KW w' (Sg.ev v) ∧ Fr S (Sg.ev v) w w' := by
  subst hB
  obtain ⟨w0, hw0⟩ : ∃ w0, w0 = w.alloc (.cells #[.int .i64 kind, .int .i64 n] 43) := ⟨_, rfl⟩
  have b0 : Below w.heap.size w w0 := by rw [hw0]; exact (Below.refl _ _).alloc (Nat.le_refl _) _
  have k0 := h.reads b0
  have x0 : Out w0 S w.heap.size (.cells #[.int .i64 kind, .int .i64 n] 43 (0, 0)) := by
    rw [hw0]
    exact ⟨heap_alloc_new w _, h.fresh _ (Nat.le_refl _)⟩
  have f0 := Fr.reads S b0
  have T := there_c w0 S rfl k0
  have HW := Lib.hid hw0
  have HK := Lib.hid k0
  have HX := Lib.hid x0
  have HF := Lib.hid f0
  obtain ⟨z, hz⟩ : ∃ z, z = w.heap.size := ⟨_, rfl⟩
  have HZ := Lib.hid hz
  have HQ := Lib.hid HQ
  have HS := Lib.hid HS
  clear b0 k0 x0 f0 hw0 h hz
  have z0 : w0.cell? ⟨z, 0, none⟩ = some (.int .i64 kind) := by rw [HZ.out]; exact has_cell 0 HX.out.1 rfl
  have z1 : w0.cell? ⟨z, 1, none⟩ = some (.int .i64 n) := by rw [HZ.out]; exact has_cell 1 HX.out.1 rfl
  rcases hA with ⟨rfl, A⟩ | ⟨rfl, A⟩ <;> (
    have A := A _ HK.out
    go_enter Tryz.func13, Tryz.ntmps13
    go_upto_region 1 with fail
    rw [← HW.out, ← HZ.out]
    have HA := HS
    go_upto_region 13 with (first
      | (go_at_call 43; refine T.mono ?_; rintro e w' ⟨rfl, rfl⟩)
      | (go_at_call 44; refine A.mono ?_; rintro e w1 ⟨Sf, rfl, hq, k1, f1⟩; have HQ1 := Lib.hid hq; have HK1 := Lib.hid k1; have HF1 := Lib.hid f1; clear hq k1 f1 A)
      | (go_at_call 45; refine A.mono ?_; rintro e w1 ⟨Sf, rfl, hq, k1, f1⟩; have HQ1 := Lib.hid hq; have HK1 := Lib.hid k1; have HF1 := Lib.hid f1; clear hq k1 f1 A)
      | (go_at_call 42; refine (HA.out _ _ HQ1.out HK1.out).mono ?_; rintro e w2 ⟨Sg, rfl, hq2, k2, f2⟩))
    have HQ2 := Lib.hid hq2
    have HBf := Lib.hid (HQ.out _ HQ2.out).1
    have HF2 := Lib.hid (HF.out.trans (HF1.out.trans f2))
    have x2 := (HX.out.fr HF1.out).fr f2
    rw [← HZ.out] at x2
    have HK2 := Lib.hid k2
    have HLN := Lib.hid (HQ.out _ HQ2.out).2
    obtain ⟨xs, hxs⟩ := k2.l
    have c8 : w2.cell? ⟨S.B.kb, 8, none⟩ = some Sg.lo.lv := kc8 (B := S.B) k2 HBf.out
    have f8 : ∀ i, w2.frozen? ⟨S.B.kb, i, none⟩ = false := by rw [← HBf.out]; exact has_free (k2.has 0 rfl)
    have hbk : S.B.kb < w2.heap.size := by rw [← HBf.out]; exact has_lt (k2.has 0 rfl)
    have hal : ∀ b, Sg.lo.lv.ownBlock = some b → S.B.kb ≠ b := fun b hb e => by
      have h4 := k2.ll b hb
      have h5 := (k2.ob 0 _ _ rfl).2
      rw [HBf.out, e] at h5
      omega
    have y0 := has_cell (v := .int .i64 _) 0 x2.1 rfl
    have y1 := has_cell (v := .int .i64 n) 1 x2.1 rfl
    obtain ⟨i0, hi, hz0, hz1, hz2⟩ := info_parts info43
    have HXS := Lib.hid hxs
    have HAL := Lib.hid hal
    have HI := Lib.hid hi
    have HZ0 := Lib.hid hz0
    have HZ1 := Lib.hid hz1
    have HZ2 := Lib.hid hz2
    clear hxs hal hi hz0 hz1 hz2 x2 k2 z0 z1 T f2 hq2
    go_region_law (first
    | (refine step_append_lies _ rfl (.tmp 38) (.tmp 40) 69 rfl 0 43 i0 _ 2 16 Tryz.underlying69 HI.out HZ0.out HZ1.out HZ2.out rfl (by decide) Sg.lo.lv Sg.lo.ln xs rfl (by exact owns_kept HXS.out fun b hb => Below.heap_alloc w2 _ b (owns_lt HXS.out hb)) ⟨w2.heap.size, 0, none⟩ 1 1 [.int .i64 _, .int .i64 n] rfl rfl (by exact World.news_of_block (heap_alloc_new w2 (.cells #[.int .i64 _, .int .i64 n] 43))) (by intro u hu; simp at hu; rcases hu with rfl | rfl <;> rfl) (by decide) (by have := HLN.out; simp only [maxLen]; omega) (by have := HLN.out; omega) (Nat.zero_le _) _ rfl ?_
       intro g cap w' q1 q2 q3 q4
       have q5 : w2.grownBy w' Sg.lo.lv.ownBlock := grown_alloc ⟨q2.os, q2.tape, q2.output, q2.size, q2.block⟩
       have y : w'.cell? ⟨S.B.kb, 8, none⟩ = some Sg.lo.lv := (World.cell?_of_block (q5.block S.B.kb hbk (fun e => HAL.out _ e.symm rfl))).trans c8
       have yf : ∀ i, w'.frozen? ⟨S.B.kb, i, none⟩ = false := fun i => (World.frozen?_of_block (q5.block S.B.kb hbk (fun e => HAL.out _ e.symm rfl))).trans (f8 i)))
    all_goals go_wp2_with fail
    all_goals go_ret
    all_goals
      have hkb : w'.heap[S.B.kb]? = some (kO Sg) := (q5.block S.B.kb hbk (fun e => HAL.out _ e.symm rfl)).trans (by rw [← HBf.out]; exact HK2.out.has 0 rfl)
      have F := HK2.out.logL q1 q5 (by
        rcases q3 with h | h
        · exact .inl h.symm
        · right
          intro b hb
          cases hb
          rw [h]
          show w2.heap.size ≤ (w2.alloc _).heap.size
          simp) (by intro b hb; cases hb; exact q4) (by rw [show Sg.B.kb = S.B.kb by rw [HBf.out]]; exact (Upd.refl hkb).setCell 8 _)
      exact ⟨Sg, _, rfl, HQ2.out, F.1, HF2.out.trans F.2⟩)
end Go.Proofs.YtagmlijhgncklaaGreatDoor.Ker
namespace Go.Proofs.YtagmlijhgncklaaGreatDoor.Ker
open Go.RowKit Go.Proofs.YtagmlijhgncklaaGreatDoor Go.Proofs.YtagmlijhgncklaaGreatDoor.Code

def robinL : List Ins := [⟨1, 2, 0, 0, 1⟩, ⟨1, 3, 0, 0, 9⟩, ⟨1, 4, 0, 0, 1⟩, ⟨1, 5, 0, 0, 0⟩, ⟨7, 0, 0, 0, 1⟩]
def robinsL : Nat → List Ins
  | 0 => []
  | n + 1 => robinsL n ++ robinL
theorem robins_len (n : Nat) : (robinsL n).length = 5 * n := by
  induction n with
  | zero => rfl
  | succ n ih => rw [robinsL, List.length_append, ih]; show 5 * n + 5 = _; omega
theorem robins_get (n i r : Nat) (hi : i < n) (hr : r < 5) : (robinsL n)[5 * i + r]? = robinL[r]? := by
  induction n with
  | zero => omega
  | succ n ih =>
    rw [robinsL]
    by_cases h : i < n
    · rw [List.getElem?_append_left (by rw [robins_len]; omega)]
      exact ih h
    · obtain rfl : i = n := by omega
      rw [List.getElem?_append_right (by rw [robins_len]; omega), robins_len, Nat.add_sub_cancel_left]
def loopL : List Ins := [⟨3, 7, 7, 6, 0⟩, ⟨5, 0, 0, 0, 0⟩]
end Go.Proofs.YtagmlijhgncklaaGreatDoor.Ker
namespace Go.Proofs.YtagmlijhgncklaaGreatDoor.Ker
open Go.RowKit Go.Proofs.YtagmlijhgncklaaGreatDoor Go.Proofs.YtagmlijhgncklaaGreatDoor.Code

def lkb (a : Int) : Bool := decide (a = -1) || (decide (0 ≤ a) && decide (a < 16))
theorem lk_of {a : Int} (h : lkb a = true) : Lk a := by
  simp only [lkb, Bool.or_eq_true, Bool.and_eq_true, decide_eq_true_eq] at h
  rcases h with h | ⟨h1, h2⟩
  · exact .inl h
  · exact .inr ⟨a.toNat, by omega, by omega⟩
/-- Some state of which P is so stands. -/
def Som (B : KB) (P : Pl → Prop) (S : KS) : Prop := ∃ x, P x ∧ Now S B x
theorem does_som {B : KB} {ev : Value} {P Q : Pl → Prop} (h : ∀ x, P x → ∃ A : KS → Prop, DoesTo B ev (fun S => Now S B x) A ∧ ∀ S, A S → Som B Q S) : DoesTo B ev (Som B P) (Som B Q) := by
  rintro W S ⟨x, hx, hN⟩ hW
  obtain ⟨A, hD, hA⟩ := h x hx
  refine (hD W S hN hW).mono ?_
  rintro e w' ⟨S', rfl, hS, k, f⟩
  exact ⟨S', rfl, hA S' hS, k, f⟩
theorem hs_set (L : List Hs) (i : Nat) (a : Hs) (j : Nat) (hi : i < L.length) : (L.set i a).getD j Hs.no = if j = i then a else L.getD j Hs.no := by
  simp only [List.getD_eq_getElem?_getD, List.getElem?_set]
  by_cases e : i = j
  · subst e
    rw [if_pos rfl, if_pos hi, if_pos rfl]
    rfl
  · rw [if_neg e, if_neg (Ne.symm e)]
/-- The job's kernel. -/
structure RobB (B : KB) (n : Nat) (q : Int) (m y : Prg) : Prop where
  n8 : B.n = 8
  q : B.J.q = q
  PS : B.J.PS = [m, y]
  m : m.L = robinsL n
  y : y.L = loopL
def robT : Nat → List (Bool × Int)
  | 0 => (List.replicate 8 (false, 0)).set 0 (true, 1)
  | i + 1 => (robT i).set (i + 1) (true, 1)
/-- Main's thread, behind r instructions of its i-th robin. -/
structure MainTh (i r : Nat) (t : Th) : Prop where
  prog : t.prog = (0 : Nat)
  pc : t.pc = (5 * i + r : Nat)
  ak : t.can.ak = false
  un : t.can.un = false
  jn : t.jn = true
  jr : t.jr < 0
  r2 : 1 ≤ r → t.r 2 = 1
  r3 : 2 ≤ r → t.r 3 = 9
  r4 : 3 ≤ r → t.r 4 = 1
  r5 : 4 ≤ r → t.r 5 = 0
/-- A robin's thread. -/
structure RobTh (t : Th) : Prop where
  prog : t.prog = (1 : Nat)
  pc : t.pc = (0 : Nat) ∨ t.pc = (1 : Nat)
  ak : t.can.ak = false
/-- Main is behind i robins, and r instructions of the next one. -/
structure MainAt (q : Int) (i r : Nat) (x : Pl) : Prop where
  T : x.T = robT i
  Ll : x.L.length = 16
  L0 : x.L.getD 0 Hs.no = ⟨true, false, 31, q⟩
  L1 : ∀ k, 1 ≤ k → k ≤ i → x.L.getD k Hs.no = ⟨true, true, 9, q⟩
  L2 : ∀ k, i < k → x.L.getD k Hs.no = Hs.no
  R : x.R = robins i
  st : x.st = (4 + 9 * i + r : Nat)
  ln : x.ln = 5 * i + r
  an : x.an = i
  notes : x.notes = []
  t0 : ∃ t, x.th 0 = some t ∧ MainTh i r t
  t1 : ∀ k, 1 ≤ k → k ≤ i → ∃ t, x.th k = some t ∧ RobTh t
  t2 : ∀ k, i < k → x.th k = none
theorem robins_first : ∀ i, i < 7 → (robins i).firstF = (0 : Nat) ∧ 1 ≤ Lib.bitLen (robins i).sm ∧ Lib.bitLen (robins i).sm ≤ 32 ∧ (robins i).sm ≠ 0 := by decide +kernel
theorem MainAt.turn {B : KB} {n : Nat} {q : Int} {m y : Prg} (A : RobB B n q m y) {i r : Nat} {x : Pl} (M : MainAt q i r x) (hi : i < 7) (hr : r < 5) {t : Th} (ht : x.th 0 = some t) (T : MainTh i r t) : Turn B x 0 t := by
  obtain ⟨f, b1, b2, s⟩ := robins_first i hi
  exact Turn.ofs (by decide) (by rw [A.n8]; decide) ht (robins i) M.R f b1 b2 s (4 + 9 * i + r) M.st (by omega) T.ak
theorem one_ok : (1 : Int) ≠ 0 ∧ (1 : Int) ≠ 7 ∧ (1 : Int) ≠ 8 := by decide
theorem Pl.created_th (x : Pl) (B : KB) (p : Nat) (t : Th) (k i pr : Nat) (g prog pol : Int) (jn : Bool) (b c : Nat) : (x.created B p t k i pr g prog pol jn b c).th = put (put (put x.th p (some { t with pc := (k : Int) + 1 })) i (some (Th.new b c (i + 16 * g) prog pr pol jn))) p (some (({ t with pc := (k : Int) + 1 } : Th).ans (i + 16 * g) 0)) := rfl
theorem robT_facts : ∀ i, i < 6 → Tab.freeF (robT i) = some (i + 1) ∧ Tab.gn (robT i) (i + 1) = 0 ∧ Tab.atF ((robT i).set (i + 1) (true, 1)) (((i + 1 : Nat) : Int) + 16 * 1) = some (i + 1) := by decide +kernel
theorem robins_facts : ∀ i, i < 6 → (robins i).pr.getD (i + 1) 0 = 0 ∧ lkb ((robins i).tl.getD 9 0) = true := by decide +kernel
theorem main_make {B : KB} {n : Nat} {q : Int} {m y : Prg} (A : RobB B n q m y) (hn : n < 7) {i : Nat} (hi : i < n) : DoesTo B evRun (Som B (MainAt q i 4)) (Som B (MainAt q (i + 1) 0)) := by
  refine does_som fun x M => ?_
  obtain ⟨t, ht, T⟩ := M.t0
  have TU := M.turn A (by omega) (by omega) ht T
  obtain ⟨f1, f2, f3⟩ := robT_facts i (by omega)
  obtain ⟨g1, g2⟩ := robins_facts i (by omega)
  refine ⟨_, now_create TU m 0 (by rw [A.PS]; rfl) T.prog (5 * i + 4) T.pc (by rw [A.m, robins_get n i 4 hi (by omega)]; rfl) (by omega) (by rw [M.ln]; omega) (by rw [M.an]; omega) (i + 1) 9 1 1 1 0 (T.r2 (by omega)) (T.r3 (by omega)) (T.r4 (by omega)) (T.r5 (by omega)) (by decide) (by rw [A.PS]; show (1 : Int) < ((2 : Nat) : Int); decide) (by rw [A.PS]; show (2 : Nat) ≤ 32; decide) (.inr rfl) (.inl rfl) (by rw [M.T]; exact f1) (by rw [M.T, f2]; rfl) (by decide) (M.t2 _ (by omega)) (by rw [M.T]; exact f3) (by decide) (by decide) (by rw [M.L2 _ (by omega)]; rfl) (by rw [M.R]; exact g1) (by rw [M.R]; exact lk_of g2), ?_⟩
  rintro S ⟨b, c, hS⟩
  refine ⟨_, ?_, hS⟩
  refine ⟨?_, ?_, ?_, ?_, ?_, ?_, ?_, ?_, ?_, M.notes, ⟨({ t with pc := ((5 * i + 4 : Nat) : Int) + 1 } : Th).ans (((i + 1 : Nat) : Int) + 16 * 1) 0, ?_, ?_⟩, ?_, ?_⟩
  · show x.T.set (i + 1) (true, 1) = _; rw [M.T]; rfl
  · show (x.L.set _ _).length = 16; rw [List.length_set]; exact M.Ll
  · show (x.L.set (i + 1) _).getD 0 Hs.no = _
    rw [hs_set _ _ _ _ (by rw [M.Ll]; omega), if_neg (by omega)]
    exact M.L0
  · intro k k1 k2
    show (x.L.set (i + 1) _).getD k Hs.no = _
    rw [hs_set _ _ _ _ (by rw [M.Ll]; omega)]
    by_cases e : k = i + 1
    · rw [if_pos e, A.q]; rfl
    · rw [if_neg e]; exact M.L1 k k1 (by omega)
  · intro k k1
    show (x.L.set (i + 1) _).getD k Hs.no = _
    rw [hs_set _ _ _ _ (by rw [M.Ll]; omega), if_neg (by omega)]
    exact M.L2 k (by omega)
  · show x.R.tailF 9 (i + 1) = _; rw [M.R]; rfl
  · show x.st + 5 = _; rw [M.st]; omega
  · show x.ln + 1 = _; rw [M.ln]; omega
  · show x.an + 1 = _; rw [M.an]
  · rw [Pl.created_th, put_self]
  · exact ⟨T.prog, by show ((5 * i + 4 : Nat) : Int) + 1 = _; omega, T.ak, T.un, T.jn, T.jr, fun h => absurd h (by omega), fun h => absurd h (by omega), fun h => absurd h (by omega), fun h => absurd h (by omega)⟩
  · intro k k1 k2
    rw [Pl.created_th, put_ne _ _ (by omega)]
    by_cases e : k = i + 1
    · subst e
      refine ⟨Th.new b c (((i + 1 : Nat) : Int) + 16 * 1) 1 (9 : Nat) 1 true, ?_, ⟨rfl, .inl rfl, rfl⟩⟩
      rw [put_self]; rfl
    · rw [put_ne _ _ e, put_ne _ _ (by omega)]
      exact M.t1 k k1 (by omega)
  · intro k k1
    rw [Pl.created_th, put_ne _ _ (by omega), put_ne _ _ (by omega), put_ne _ _ (by omega)]
    exact M.t2 k (by omega)
/-- The i-th robin's turn: lf ticks are left to it; at most sb steps, lb events were. -/
structure RingAt (n : Nat) (q : Int) (i : Nat) (lf : Int) (sb lb : Nat) (x : Pl) : Prop where
  R : x.R = ring n i
  Ll : x.L.length = 16
  L1 : ∀ k, 1 ≤ k → k ≤ n → x.L.getD k Hs.no = ⟨true, true, 9, if k = i + 1 then lf else q⟩
  st0 : 0 ≤ x.st
  st : x.st ≤ sb
  ln : x.ln ≤ lb
  t1 : ∀ k, 1 ≤ k → k ≤ n → ∃ t, x.th k = some t ∧ RobTh t
theorem ring_facts : ∀ n, n < 7 → ∀ i, i < n → 1 ≤ Lib.bitLen (ring n i).sm ∧ Lib.bitLen (ring n i).sm ≤ 32 ∧ (ring n i).sm ≠ 0 ∧ (ring n i).pr.getD (i + 1) 0 = (9 : Nat) ∧ lkb ((ring n i).pv.getD (i + 1) 0) = true ∧ lkb ((ring n i).nx.getD (i + 1) 0) = true ∧ lkb (((ring n i).remF (i + 1)).tl.getD 9 0) = true := by decide +kernel
theorem RingAt.turn {B : KB} {n : Nat} {q : Int} {m y : Prg} (A : RobB B n q m y) {i sb lb : Nat} {lf : Int} {x : Pl} (M : RingAt n q i lf sb lb x) (hn : n < 7) (hi : i < n) (hs : sb ≤ 100000) {t : Th} (ht : x.th (i + 1) = some t) (T : RobTh t) : Turn B x (i + 1) t := by
  obtain ⟨b1, b2, s, _⟩ := ring_facts n hn i hi
  have e0 := M.st0
  have e1 := M.st
  exact Turn.ofs (by omega) (by rw [A.n8]; omega) ht (ring n i) M.R (ring_first n hn i hi) b1 b2 s x.st.toNat (by omega) (by omega) T.ak
def nextI (n i : Nat) (lf : Int) : Nat := if 1 < lf then i else (i + 1) % n
def nextL (q lf : Int) : Int := if 1 < lf then lf - 1 else q
/-- How often each has run. -/
structure HasAt (n : Nat) (q : Int) (i : Nat) (lf : Int) (c : Nat) (f : Nat → Int) : Prop where
  l0 : 1 ≤ lf
  l1 : lf ≤ q
  f0 : ∀ k, 0 ≤ f k ∧ f k ≤ c
  fk : ∃ m : Int, 0 ≤ m ∧ ∀ k, 1 ≤ k → k ≤ n → f k = m + if k ≤ i then q else if k = i + 1 then q - lf else 0
theorem HasAt.next {n : Nat} {q : Int} {i : Nat} {lf : Int} {c : Nat} {f : Nat → Int} (h : HasAt n q i lf c f) (hi : i < n) : HasAt n q (nextI n i lf) (nextL q lf) (c + 1) (put f (i + 1) (f (i + 1) + 1)) := by
  obtain ⟨l0, l1, f0, m, m0, hk⟩ := h
  have fb : ∀ k, 0 ≤ put f (i + 1) (f (i + 1) + 1) k ∧ put f (i + 1) (f (i + 1) + 1) k ≤ (c + 1 : Nat) := fun k => by
    unfold put
    have := f0 k
    have := f0 (i + 1)
    split <;> omega
  unfold nextI nextL
  by_cases h : 1 < lf
  · rw [if_pos h, if_pos h]
    refine ⟨by omega, by omega, fb, m, m0, fun k k1 kn => ?_⟩
    have a := hk k k1 kn
    have b := hk (i + 1) (by omega) (by omega)
    unfold put
    by_cases e : k = i + 1
    · subst e; rw [if_pos rfl, a]; rw [if_neg (by omega), if_pos rfl, if_neg (by omega), if_pos rfl]; omega
    · rw [if_neg e, a, if_neg e, if_neg e]
  · rw [if_neg h, if_neg h]
    obtain rfl : lf = 1 := by omega
    by_cases e : i + 1 < n
    · rw [Nat.mod_eq_of_lt e]
      refine ⟨by omega, by omega, fb, m, m0, fun k k1 kn => ?_⟩
      have a := hk k k1 kn
      unfold put
      by_cases e : k = i + 1
      · subst e; rw [if_pos rfl, a]; rw [if_neg (by omega), if_pos rfl, if_pos (by omega)]; omega
      · rw [if_neg e, a, if_neg e]
        by_cases e2 : k ≤ i
        · rw [if_pos e2, if_pos (by omega)]
        · rw [if_neg e2, if_neg (by omega)]
          split <;> omega
    · obtain rfl : n = i + 1 := by omega
      rw [Nat.mod_self]
      refine ⟨by omega, by omega, fb, m + q, by omega, fun k k1 kn => ?_⟩
      have a := hk k k1 kn
      unfold put
      rw [if_neg (by omega : ¬ k ≤ 0)]
      by_cases e : k = i + 1
      · subst e; rw [if_pos rfl, a]; rw [if_neg (by omega), if_pos rfl]; split <;> omega
      · rw [if_neg e, a, if_pos (by omega)]; split <;> omega
theorem HasAt.zero (n : Nat) (q : Int) (hq : 1 ≤ q) : HasAt n q 0 q 0 (fun _ => 0) :=
  ⟨hq, Int.le_refl _, fun _ => ⟨Int.le_refl _, Int.le_refl _⟩, 0, Int.le_refl _, fun k k1 _ => by rw [if_neg (by omega)]; split <;> omega⟩
end Go.Proofs.YtagmlijhgncklaaGreatDoor.Ker
