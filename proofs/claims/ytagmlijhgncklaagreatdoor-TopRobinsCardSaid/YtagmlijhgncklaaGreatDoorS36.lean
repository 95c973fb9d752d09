/-
  TopRobins, over the translation of this seat. There are no conditions.
  TopRobins answers true at every input, over the translation of this seat. There are no conditions.
-/
import Derived.Test.YtagmlijhgncklaaGreatDoorS35
set_option linter.unusedVariables false
namespace Go.Proofs.YtagmlijhgncklaaGreatDoor.Ker
open Go.RowKit Go.Proofs.YtagmlijhgncklaaGreatDoor Go.Proofs.YtagmlijhgncklaaGreatDoor.Code

def robJ (q : Int) (n a ca b c : Nat) : Job := ⟨8, 4, 4, q, 31, [⟨a, robinsL n, ca⟩, ⟨b, loopL, 2⟩], c, 2⟩
theorem robJ_ok (q : Int) (n a ca b c : Nat) (q1 : 1 ≤ q) (q2 : q ≤ 100) (hn : n ≤ 6) : (robJ q n a ca b c).Ok := by
  refine ⟨by show (1 : Int) ≤ 8; decide, by show (8 : Int) ≤ 16; decide, by show (1 : Int) ≤ 4; decide, by show (4 : Int) ≤ 8; decide, by show (1 : Int) ≤ 4; decide, by show (4 : Int) ≤ 32; decide, q1, q2, by show (1 : Int) ≤ 31; decide, by show (31 : Int) ≤ 31; decide, by show 1 ≤ 2; decide, by show 2 ≤ 32; decide, ?_⟩
  intro x hx
  simp [robJ] at hx
  rcases hx with rfl | rfl
  · exact ⟨robins_ok n _, by show (robinsL n).length ≤ 256; rw [robins_len]; omega⟩
  · exact ⟨loop_ok, by show (2 : Nat) ≤ 256; decide⟩
/-- A list of the caller's own, as a program in memory. -/
theorem own_prg {w : World} {B : Nat} {v : Value} {L : List Ins} (h : OwnI w B v L) (hl : 0 < L.length) : ∃ a ca, v = .slice (some ⟨a, 0, none⟩) L.length ca ∧ B ≤ a ∧ PrgH w a L := by
  rcases h.2 with ⟨_, h0⟩ | ⟨g, cap, cur, e, hb, hg, _, _, hs, ht⟩
  · omega
  · refine ⟨g, cap, e, hb, cur.toList, by simpa using hg, fun k i hk j hj => ?_⟩
    have hk2 : k < L.length := (List.getElem?_eq_some_iff.1 hk).1
    have q := flat_at L k i j hj hk
    rw [← ht] at q
    rw [List.getElem?_take_of_lt (by omega)] at q
    exact q
theorem robJ_pgs {w : World} {q : Int} {n a ca b c : Nat} (ha : PrgH w a (robinsL n)) (hb : w.heap[b]? = some (.cells (loopL.flatMap Ins.cells).toArray 29 (0, 0))) (hc : w.heap[c]? = some (.cells #[.slice (some ⟨a, 0, none⟩) (robinsL n).length ca, .slice (some ⟨b, 0, none⟩) 2 2] 24 (0, 0))) : PgsH w c (robJ q n a ca b c).PS := by
  refine ⟨⟨[.slice (some ⟨a, 0, none⟩) (robinsL n).length ca, .slice (some ⟨b, 0, none⟩) 2 2], hc, ?_⟩, ?_⟩
  · intro k x hk
    match k, hk with
    | 0, hk => cases hk; rfl
    | 1, hk => cases hk; rfl
  · intro x hx
    simp [robJ] at hx
    rcases hx with rfl | rfl
    · exact ha
    · exact ⟨_, hb, fun k i hk j hj => flat_at loopL k i j hj hk⟩
theorem robB_of {B : KB} {PS : List Prg} {b cap n : Nat} {t o s q pr : Int} (hJ : B.J = ⟨t, o, s, q, pr, PS, b, cap⟩) (hL : PS.map Prg.L = [robinsL n, loopL]) (hn : B.n = 8) : ∃ m y, RobB B n q m y := by
  match PS, hL, hJ with
  | [m, y], hL, hJ =>
    simp at hL
    exact ⟨m, y, hn, by rw [hJ], by rw [hJ], hL.1, hL.2⟩
  | [], hL, _ => simp at hL
  | [_], hL, _ => simp at hL
  | _ :: _ :: _ :: _, hL, _ => simp at hL
/-- What was there ahead of the kernel is as it was. -/
def BelowK (w : World) (S : KS) (W : World) : Prop := Below w.heap.size w W ∧ ∀ k, k < w.heap.size → S.lo.lab k = 0
theorem BelowK.fr {w W W' : World} {S S' : KS} (h : BelowK w S W) (f : Fr S S' W W') : BelowK w S' W' :=
  ⟨⟨f.os.trans h.1.os, f.tape.trans h.1.tape, f.output.trans h.1.output, Nat.le_trans h.1.size f.size, fun k hk => (f.block k (Nat.lt_of_lt_of_le hk h.1.size) (h.2 k hk)).trans (h.1.block k hk)⟩, fun k hk => (f.lab k (Nat.lt_of_lt_of_le hk h.1.size)).trans (h.2 k hk)⟩
theorem BelowK.reads {w W W' : World} {S : KS} (h : BelowK w S W) (b : Below W.heap.size W W') : BelowK w S W' := h.fr (Fr.reads S b)
/-- A block outside of the kernel is set. -/
theorem KW.outer {w w' : World} {S : KS} {b : Nat} {o : Obj} (h : KW w S) (hl : S.lo.lab b = 0) (U : Upd w b o w') : KW w' S :=
  h.keeps U.2.size fun c hc h0 => U.2.block c hc (by intro e; cases e; exact h0 hl)
theorem BelowK.outer {w W W' : World} {S : KS} {b : Nat} {o : Obj} (h : BelowK w S W) (hb : w.heap.size ≤ b) (U : Upd W b o W') : BelowK w S W' :=
  ⟨h.1.trans (U.below hb h.1.size), h.2⟩
def hasC (f : Nat → Int) : Array Value := #[.int .i64 (f 0), .int .i64 (f 1), .int .i64 (f 2), .int .i64 (f 3), .int .i64 (f 4), .int .i64 (f 5), .int .i64 (f 6), .int .i64 (f 7)]
theorem has_at (f : Nat → Int) {i : Nat} (hi : i < 8) : (hasC f)[i]? = some (.int .i64 (f i)) := by
  match i, hi with
  | 0, _ => rfl | 1, _ => rfl | 2, _ => rfl | 3, _ => rfl | 4, _ => rfl | 5, _ => rfl | 6, _ => rfl | 7, _ => rfl | _ + 8, h => exact absurd h (by omega)
theorem has_put (f : Nat → Int) {i : Nat} (hi : i < 8) (x : Int) : (hasC f).setIfInBounds i (.int .i64 x) = hasC (put f i x) := by
  match i, hi with
  | 0, _ => rfl | 1, _ => rfl | 2, _ => rfl | 3, _ => rfl | 4, _ => rfl | 5, _ => rfl | 6, _ => rfl | 7, _ => rfl | _ + 8, h => exact absurd h (by omega)
theorem grown_below {w W W' : World} {v : Value} {L : List Ins} (h : Below w.heap.size w W) (ho : OwnI W w.heap.size v L) (g : W.grownBy W' v.ownBlock) : Below w.heap.size w W' :=
  ⟨g.os.trans h.os, g.tape.trans h.tape, g.output.trans h.output, Nat.le_trans h.size g.size, fun k hk => (g.block k (Nat.lt_of_lt_of_le hk h.size) (by
    rcases ho.2 with ⟨e, _⟩ | ⟨a, cap, cur, e, hb, _⟩
    · rw [e]; intro q; cases q
    · rw [e]; intro q; cases q; exact absurd hk (by show ¬ a < _; omega))).trans (h.block k hk)⟩
theorem hs_no (k : Nat) : (List.replicate 16 Hs.no).getD k Hs.no = Hs.no := by
  rw [List.getD_eq_getElem?_getD, List.getElem?_replicate]
  split <;> rfl
theorem main_start {B : KB} {n : Nat} {q : Int} {m y : Prg} (A : RobB B n q m y) (b c : Nat) : MainAt q 0 0 (Pl.first B 8 31 b c) := by
  refine ⟨rfl, rfl, ?_, fun k k1 k2 => absurd k1 (by omega), ?_, rfl, rfl, rfl, rfl, rfl, ⟨Th.new b c ((0 : Nat) + 16 * 1) 0 (31 : Nat) 0 true, rfl, ⟨rfl, rfl, rfl, rfl, rfl, by show (-1 : Int) < 0; decide, fun h => absurd h (by decide), fun h => absurd h (by decide), fun h => absurd h (by decide), fun h => absurd h (by decide)⟩⟩, fun k k1 k2 => absurd k1 (by omega), ?_⟩
  · show ((List.replicate 16 Hs.no).set 0 ⟨true, false, (31 : Nat), B.J.q⟩).getD 0 Hs.no = _
    rw [A.q]; rfl
  · intro k hk
    show ((List.replicate 16 Hs.no).set 0 _).getD k Hs.no = _
    rw [hs_set _ _ _ _ (by decide), if_neg (by omega), hs_no]
  · intro k hk
    show put (fun _ => (none : Option Th)) 0 (some _) k = none
    rw [put_ne _ _ (by omega)]
/-- Behind k runs. -/
def Phase (B : KB) (n : Nat) (q : Int) (k : Nat) (S : KS) : Prop := if k = 5 * n + 1 then Som B (RingAt n q 0 q 100 100) S else Som B (MainAt q (k / 5) (k % 5)) S
theorem phase_next {B : KB} {n : Nat} {q : Int} {m y : Prg} (A : RobB B n q m y) (n0 : 0 < n) (n1 : n < 7) (k : Nat) (hk : k < 5 * n + 1) : DoesTo B evRun (Phase B n q k) (Phase B n q (k + 1)) := by
  unfold Phase
  rw [show (fun S => if k = 5 * n + 1 then Som B (RingAt n q 0 q 100 100) S else Som B (MainAt q (k / 5) (k % 5)) S) = Som B (MainAt q (k / 5) (k % 5)) by funext S; rw [if_neg (by omega)]]
  by_cases h : k = 5 * n
  · subst h
    rw [show (fun S => if 5 * n + 1 = 5 * n + 1 then Som B (RingAt n q 0 q 100 100) S else Som B (MainAt q ((5 * n + 1) / 5) ((5 * n + 1) % 5)) S) = Som B (RingAt n q 0 q 100 100) by funext S; rw [if_pos rfl], show 5 * n / 5 = n by omega, show 5 * n % 5 = 0 by omega]
    exact main_ends A n0 n1
  · rw [show (fun S => if k + 1 = 5 * n + 1 then Som B (RingAt n q 0 q 100 100) S else Som B (MainAt q ((k + 1) / 5) ((k + 1) % 5)) S) = Som B (MainAt q ((k + 1) / 5) ((k + 1) % 5)) by funext S; rw [if_neg (by omega)]]
    by_cases h4 : k % 5 = 4
    · rw [show (k + 1) / 5 = k / 5 + 1 by omega, show (k + 1) % 5 = 0 by omega, h4]
      exact main_make A n1 (by omega)
    · rw [show (k + 1) / 5 = k / 5 by omega, show (k + 1) % 5 = k % 5 + 1 by omega]
      exact main_set A n1 (by omega) (by omega)
theorem alive_7 (w : World) : Calls Tryz.prog 7 #[] w fun e w' => e = .returned (.bool true) ∧ Below w.heap.size w w' := alive_c w
/-- Ahead of tick c. -/
def TickS (w : World) (B : KB) (n : Nat) (q : Int) (hb c : Nat) (W : World) : Prop :=
  ∃ (i : Nat) (lf : Int) (f : Nat → Int) (S : KS), i < n ∧ HasAt n q i lf c f ∧ Som B (RingAt n q i lf (100 + 20 * c) (100 + 4 * c)) S ∧ KW W S ∧ Out W S hb (.cells (hasC f) 50 (0, 0)) ∧ BelowK w S W
theorem TickS.reads {w : World} {B : KB} {n : Nat} {q : Int} {hb c : Nat} {W W' : World} (h : TickS w B n q hb c W) (b : Below W.heap.size W W') : TickS w B n q hb c W' := by
  obtain ⟨i, lf, f, S, h1, h2, h3, h4, h5, h6⟩ := h
  exact ⟨i, lf, f, S, h1, h2, h3, h4.reads b, h5.fr (Fr.reads S b), h6.reads b⟩
set_option maxHeartbeats 2000000 in
set_option maxRecDepth 100000 in
theorem robins_walk (w : World) (n : Nat) (q tk : Int) (n0 : 1 ≤ n) (n1 : n ≤ 6) (q0 : 1 ≤ q) (q1 : q ≤ 100) (t0 : 0 ≤ tk) (t1 : tk ≤ 300) : Calls Tryz.prog 4 #[.int .i64 n, .int .i64 q, .int .i64 tk] w fun e w' => e = .returned (.bool true) ∧ Below w.heap.size w w' := by
  go_enter Tryz.func4, Tryz.ntmps4
  go_wp2_with fail
  go_loopw [7, 8] (fun v i wr => ∃ j : Nat, i = .int .i64 j ∧ j ≤ n ∧ OwnI wr w.heap.size v (robinsL j) ∧ Below w.heap.size w wr) (fun _ i _ => n - (intOf i).toNat)
  case atStart => exact ⟨0, rfl, by omega, ⟨rfl, .inl ⟨rfl, rfl⟩⟩, Below.refl _ _⟩
  case round =>
    obtain ⟨j, rfl, hj, ho, hb⟩ := hrel
    by_cases hlt : j < n
    · have PC := put_c (wr.alloc (.cells #[.int .i64 1, .int .i64 9, .int .i64 1, .int .i64 0] 2)) w.heap.size u7 (robinsL j) (World.ownsRow.alloc ho _) (Nat.le_trans hb.size (by simp)) 1 wr.heap.size 4 [1, 9, 1, 0] (heap_alloc_new wr _) (fun e => absurd (owns_lt ho e) (by omega)) (by rw [robins_len]; omega) (by decide)
      simp only [robins_put] at PC
      have HO := Lib.hid ho
      have HB := Lib.hid hb
      clear ho hb
      go_wp2_with (go_at_call 8; refine PC.mono ?_; rintro e w1 ⟨v1, rfl, PW⟩; have HPW := Lib.hid PW; clear PW PC)
      go_roundw
      case rel => exact ⟨j + 1, by go_num, by omega, HPW.out.own, grown_below (HB.out.alloc HB.out.size _) (World.ownsRow.alloc HO.out _) HPW.out.grown⟩
      case measure => simp [intOf]; omega
    · obtain rfl : j = n := by omega
      obtain ⟨a, ca, rfl, ha, hp⟩ := own_prg ho (by rw [robins_len]; omega)
      have hlen : (robinsL j).length = 5 * j := robins_len j
      rw [hlen]
      have hp : PrgH wr a (robinsL j) := hp
      have HB := Lib.hid hb
      have HP0 := Lib.hid hp
      have HLEN := Lib.hid hlen
      clear hb hp ho hlen
      have JC : ∀ V, Calls Tryz.prog 11 #[.slice (some ⟨wr.heap.size + 1, 0, none⟩) 2 2] V fun e w' => e = .returned (.agg #[.int .i64 4, .int .i64 4, .int .i64 4, .int .i64 2, .int .i64 512, .int .i64 5, .slice (some ⟨wr.heap.size + 1, 0, none⟩) 2 2, .slice none 0 0]) ∧ Below V.heap.size V w' := fun V => Job_c V [⟨a, robinsL j, ca⟩, ⟨wr.heap.size, loopL, 2⟩] (wr.heap.size + 1) 2
      go_upto_region 9 with (go_at_call 11; with_reducible refine (JC _).mono ?_; rintro e w1 ⟨rfl, b1⟩; have HB1 := Lib.hid b1; clear b1 JC)
      obtain ⟨c, hc⟩ : ∃ c, c = wr.heap.size + 1 := ⟨_, rfl⟩
      obtain ⟨b, hb⟩ : ∃ b, b = wr.heap.size := ⟨_, rfl⟩
      have xb := heap_alloc_new wr (.cells #[.int .i64 3, .int .i64 7, .int .i64 7, .int .i64 6, .int .i64 0, .int .i64 5, .int .i64 0, .int .i64 0, .int .i64 0, .int .i64 0] 29)
      have xc := heap_alloc_new (wr.alloc (.cells #[.int .i64 3, .int .i64 7, .int .i64 7, .int .i64 6, .int .i64 0, .int .i64 5, .int .i64 0, .int .i64 0, .int .i64 0, .int .i64 0] 29)) (.cells #[.slice (some ⟨a, 0, none⟩) (robinsL j).length ca, .slice (some ⟨b, 0, none⟩) 2 2] 24)
      rw [show (wr.alloc (.cells #[.int .i64 3, .int .i64 7, .int .i64 7, .int .i64 6, .int .i64 0, .int .i64 5, .int .i64 0, .int .i64 0, .int .i64 0, .int .i64 0] 29)).heap.size = c by rw [hc]; simp] at xc
      have bl1 := (Below.refl wr.heap.size wr).alloc (Nat.le_refl _) (.cells #[.int .i64 3, .int .i64 7, .int .i64 7, .int .i64 6, .int .i64 0, .int .i64 5, .int .i64 0, .int .i64 0, .int .i64 0, .int .i64 0] 29)
      have bl2 := bl1.alloc (by simp) (.cells #[.slice (some ⟨a, 0, none⟩) (robinsL j).length ca, .slice (some ⟨b, 0, none⟩) 2 2] 24)
      have hpg : PgsH ((wr.alloc (.cells #[.int .i64 3, .int .i64 7, .int .i64 7, .int .i64 6, .int .i64 0, .int .i64 5, .int .i64 0, .int .i64 0, .int .i64 0, .int .i64 0] 29)).alloc (.cells #[.slice (some ⟨a, 0, none⟩) (robinsL j).length ca, .slice (some ⟨b, 0, none⟩) 2 2] 24)) c (robJ q j a ca b c).PS := robJ_pgs (HP0.out.reads bl2) (by rw [hb]; exact below_alloc_has xb) xc
      have hb1 := HB1.out
      rw [← HLEN.out, ← hb] at hb1
      have hbw := HB.out.trans (bl2.mono HB.out.size)
      have hpg1 := hpg.reads hb1
      have hbw1 := hbw.trans (hb1.mono hbw.size)
      obtain ⟨jb, hjb⟩ : ∃ jb, jb = w1.heap.size := ⟨_, rfl⟩
      have bl3 := (Below.refl w1.heap.size w1).alloc (Nat.le_refl _) (.cells #[.int .i64 4, .int .i64 4, .int .i64 4, .int .i64 2, .int .i64 512, .int .i64 5, .slice (some ⟨c, 0, none⟩) 2 2, .slice none 0 0] 34)
      rw [← hc, ← hjb]
      refine world_wp (fun W => W.heap[jb]? = some (.cells #[.int .i64 4, .int .i64 4, .int .i64 4, .int .i64 2, .int .i64 512, .int .i64 5, .slice (some ⟨c, 0, none⟩) 2 2, .slice none 0 0] 34 (0, 0)) ∧ ∀ o W', Upd W jb o W' → PgsH W' c (robJ q j a ca b c).PS ∧ Below w.heap.size w W') ⟨by rw [hjb]; exact heap_alloc_new w1 _, fun o W' U => by
        have bu := bl3.trans (U.below (B := w1.heap.size) (by rw [hjb]; exact Nat.le_refl _) bl3.size)
        exact ⟨hpg1.reads bu, hbw1.trans (bu.mono hbw1.size)⟩⟩ ?_
      have hjw : w.heap.size ≤ jb := by rw [hjb]; exact hbw1.size
      have HJW0 := Lib.hid hjw
      clear bl3 hbw1 hpg1 hbw hb1 hpg bl2 bl1 xc xb hc HB1 HP0 HLEN hjb hb hjw
      rintro W ⟨xj, hpg⟩
      have fz := has_free xj
      have U0 := ((((Upd.refl xj).setCell 0 (.int .i64 8)).setCell 5 (.int .i64 31)).setCell 3 (.int .i64 q))
      have c0 : W.cell? ⟨jb, 0, none⟩ = some (.int .i64 4) := has_cell 0 xj rfl
      have c5 : W.cell? ⟨jb, 5, none⟩ = some (.int .i64 5) := has_cell 5 xj rfl
      have c3 : W.cell? ⟨jb, 3, none⟩ = some (.int .i64 2) := has_cell 3 xj rfl
      have U1 := U0.to (o' := .cells (robJ q j a ca b c).cells.toArray 34 (0, 0)) (by simp only [robJ, Job.cells, List.setIfInBounds_toArray, List.set_cons_succ, List.set_cons_zero]; rfl)
      have HU := Lib.hid (And.intro U1.1 (hpg _ _ U1))
      clear hpg U0 U1
      go_upto_region 12 with fail
      refine world_wp (fun W => W.heap[jb]? = some (.cells (robJ q j a ca b c).cells.toArray 34 (0, 0)) ∧ PgsH W c (robJ q j a ca b c).PS ∧ Below w.heap.size w W) HU.out ?_
      clear HU xj c0 c5 c3 fz W
      clear w1
      rintro W ⟨xj, hpg, hbw⟩
      have d0 : W.cell? ⟨jb, 0, none⟩ = some (.int .i64 8) := has_cell 0 xj rfl
      have d1 : W.cell? ⟨jb, 1, none⟩ = some (.int .i64 4) := has_cell 1 xj rfl
      have d2 : W.cell? ⟨jb, 2, none⟩ = some (.int .i64 4) := has_cell 2 xj rfl
      have d3 : W.cell? ⟨jb, 3, none⟩ = some (.int .i64 q) := has_cell 3 xj rfl
      have d4 : W.cell? ⟨jb, 4, none⟩ = some (.int .i64 512) := has_cell 4 xj rfl
      have d5 : W.cell? ⟨jb, 5, none⟩ = some (.int .i64 31) := has_cell 5 xj rfl
      have d6 : W.cell? ⟨jb, 6, none⟩ = some (.slice (some ⟨c, 0, none⟩) 2 2) := has_cell 6 xj rfl
      have d7 : W.cell? ⟨jb, 7, none⟩ = some (.slice none 0 0) := has_cell 7 xj rfl
      have HPG := Lib.hid hpg
      have HBW := Lib.hid hbw
      have NC : ∀ V, PgsH V c (robJ q j a ca b c).PS → _ := fun V h => new_c V (robJ q j a ca b c) h (robJ_ok q j a ca b c q0 q1 n1) 8 4 31 rfl rfl rfl
      clear hpg hbw xj
      go_upto_region 13 with (go_at_call 12; refine (NC _ HPG.out).mono ?_; rintro e w2 ⟨B, lo, tb, tc, rfl, hJ, hn, l1, l2, l3, l4, k2, cm, b2, hl⟩; have HK2 := Lib.hid k2; have HN0 := Lib.hid (now_first cm l1 l3 l4); have HB2 := Lib.hid (HBW.out.trans (b2.mono HBW.out.size)); have HJJ := Lib.hid hJ; have HNN := Lib.hid hn; have HLL := Lib.hid hl; clear NC k2 cm l1 l2 l3 l4 b2 hJ hn hl)
      obtain ⟨m, y, AB⟩ : ∃ m y, RobB B j q m y := by
        obtain ⟨PS, b', cap, h1, h2⟩ := HJJ.out
        exact robB_of h1 h2 HNN.out
      have HAB := Lib.hid AB
      have HSW : RowKit.Hid (∃ S, Phase B j q 0 S ∧ KW w2 S ∧ BelowK w S w2) := Lib.hid ⟨_, by unfold Phase; rw [if_neg (by omega)]; exact ⟨_, main_start AB tb tc, HN0.out⟩, HK2.out, HB2.out, fun k hk => HLL.out k (Nat.lt_of_lt_of_le hk HBW.out.size)⟩
      clear AB d0 d1 d2 d3 d4 d5 d6 d7 HPG HBW HK2 HN0 HB2 HJJ HNN HLL HJW0 W
      go_wp2_with fail
      go_loopw [12] (fun i wr => ∃ (k : Nat) (S : KS), i = .int .i64 k ∧ k ≤ 5 * j + 1 ∧ Phase B j q k S ∧ KW wr S ∧ BelowK w S wr) (fun i _ => 5 * j + 1 - (intOf i).toNat)
      case atStart =>
        obtain ⟨S, h1, h2, h3⟩ := HSW.out
        exact ⟨0, S, rfl, by omega, h1, h2, h3⟩
      case round =>
        clear HSW
        obtain ⟨k, S, rfl, hk, hA, hK, hF⟩ := hrel
        have HA := Lib.hid hA
        have HK := Lib.hid hK
        have HF := Lib.hid hF
        clear hA hK hF
        by_cases hlt : k < 5 * j + 1
        · have i1 : (0 : Int) ≤ k := by omega
          go_wp2_with (first
            | (go_at_call 14; refine (Run_c _).mono ?_; rintro e w3 ⟨rfl, b3⟩; have HK3 := Lib.hid (HK.out.reads b3); have HF3 := Lib.hid (HF.out.reads b3); clear b3)
            | (go_at_call 13; refine (phase_next HAB.out (by omega) (by omega) k (by omega) w3 S HA.out HK3.out).mono ?_; rintro e w4 ⟨S4, rfl, hA4, k4, f4⟩; have HA4 := Lib.hid hA4; have HK4 := Lib.hid k4; have HF4 := Lib.hid (HF3.out.fr f4); clear hA4 k4 f4))
          go_roundw
          case rel => exact ⟨k + 1, S4, by go_num, by omega, HA4.out, HK4.out, HF4.out⟩
          case measure => simp [intOf]; omega
        · obtain rfl : k = 5 * j + 1 := by omega
          have hR : Som B (RingAt j q 0 q 100 100) S := by have := HA.out; unfold Phase at this; rwa [if_pos rfl] at this
          have HR := Lib.hid hR
          clear hR HA
          obtain ⟨hb, hhb⟩ : ∃ hb, hb = wr.heap.size := ⟨_, rfl⟩
          have U0 := (Below.refl wr.heap.size wr).alloc (Nat.le_refl _) (.cells (hasC fun _ => 0) 50)
          have HT0 : RowKit.Hid (w.heap.size ≤ hb ∧ TickS w B j q hb 0 (wr.alloc (.cells (hasC fun _ => 0) 50))) := Lib.hid ⟨by rw [hhb]; exact HF.out.1.size, 0, q, fun _ => 0, S, by omega, HasAt.zero j q q0, HR.out, HK.out.reads U0, ⟨by rw [hhb]; exact heap_alloc_new wr _, HK.out.fresh _ (by rw [hhb]; exact Nat.le_refl _)⟩, HF.out.reads U0⟩
          unfold hasC at HT0
          clear HR HK HF U0
          go_upto_region 20 with fail
          rw [← hhb]
          clear hhb
          refine world_wp (fun W => w.heap.size ≤ hb ∧ TickS w B j q hb 0 W) HT0.out ?_
          clear HT0 wr
          rintro W hT0
          have HT0 := Lib.hid hT0
          clear hT0
          go_wp2_with fail
          go_loopw [14] (fun i wr => ∃ c : Nat, i = .int .i64 c ∧ (c : Int) ≤ tk ∧ w.heap.size ≤ hb ∧ TickS w B j q hb c wr) (fun i _ => (tk - intOf i).toNat)
          case atStart => exact ⟨0, rfl, by omega, HT0.out⟩
          case round =>
            clear HT0
            obtain ⟨c, rfl, hc, hwb, i, lf, f, S, hi, hH, hS, hK, hO, hF⟩ := hrel
            have HH := Lib.hid hH
            have HK := Lib.hid hK
            have HO := Lib.hid hO
            have HF := Lib.hid hF
            have HSo := Lib.hid hS
            have HWB := Lib.hid hwb
            clear hH hK hO hF hwb
            by_cases hlt : (c : Int) < tk
            · obtain ⟨x, M, N⟩ := hS
              obtain ⟨b1, b2, s0, _⟩ := ring_facts j (by omega) i hi
              have RU := Runs_c wr S N.B HK.out N.calm.P (by rw [N.R, M.R]; exact b1) (by rw [N.R, M.R]; exact b2) (by rw [N.R, M.R]; exact s0) (by rw [N.st]; exact M.st0) (by rw [N.st]; have := M.st; omega)
              rw [show S.R.firstF = ((i + 1 : Nat) : Int) by rw [N.R, M.R]; exact ring_first j (by omega) i hi] at RU
              have hS1 := ring_runs HSo.out
              obtain ⟨S1, eS1⟩ : ∃ S1 : KS, S1 = { S with st := S.st + 1 } := ⟨_, rfl⟩
              rw [← eS1] at hS1 RU
              have HS1 := Lib.hid hS1
              have hfb := HH.out.f0 (i + 1)
              clear hS1 eS1 N M b1 b2 s0 HSo
              have p0 : (1 : Int) ≤ ((i + 1 : Nat) : Int) := by omega
              have p1 : ((i + 1 : Nat) : Int) ≤ j := by omega
              go_upto_region 26 with (go_at_call 16; refine RU.mono ?_; rintro e w5 ⟨rfl, k5, f5⟩; have HK5 := Lib.hid k5; have HF5 := Lib.hid (HF.out.fr f5); have HO5 := Lib.hid (HO.out.fr f5); clear k5 f5 RU)
              obtain ⟨xh, lh⟩ := HO5.out
              have ch : w5.cell? ⟨hb, i + 1, none⟩ = some (.int .i64 (f (i + 1))) := has_cell _ xh (has_at f (by omega))
              have fz := has_free xh
              have U1 := (Upd.refl xh).setCell (i + 1) (.int .i64 (f (i + 1) + 1))
              have U2 := U1.to (o' := .cells (hasC (put f (i + 1) (f (i + 1) + 1))) 50 (0, 0)) (by rw [has_put f (by omega)])
              have HK6 := Lib.hid (HK5.out.outer lh U2)
              have HF6 := Lib.hid (HF5.out.outer HWB.out U2)
              have HO6 : RowKit.Hid (Out (w5.setCell ⟨hb, i + 1, none⟩ (.int .i64 (f (i + 1) + 1))) S1 hb _) := Lib.hid ⟨U2.1, lh⟩
              have fi0 := hfb.1
              have fi1 := hfb.2
              clear U1 U2 xh lh HK5 HF5 HO5 hfb
              go_upto_region 27 with fail
              clear ch fz fi0 fi1 p0 p1
              obtain ⟨g, hg⟩ : ∃ g, g = put f (i + 1) (f (i + 1) + 1) := ⟨_, rfl⟩
              have hH7 := HH.out.next hi
              rw [← hg] at hH7 HO6
              have HH7 := Lib.hid hH7
              obtain ⟨i7, hi7⟩ : ∃ i7, i7 = nextI j i lf := ⟨_, rfl⟩
              obtain ⟨lf7, hlf7⟩ : ∃ lf7, lf7 = nextL q lf := ⟨_, rfl⟩
              have li7 : i7 < j := by rw [hi7]; unfold nextI; split; · exact hi
                                      · exact Nat.mod_lt _ (by omega)
              have lf100 : lf ≤ 100 := by have := HH.out.l1; omega
              have c300 : c ≤ 300 := by omega
              have RUN := ring_run HAB.out (by omega) hi (sb := 100 + 20 * c + 1) (lb := 100 + 4 * c) (by omega) (by omega) (lf := lf)
              have TICK := ring_tick HAB.out (by omega) hi (sb := 100 + 20 * c + 1 + 1) (lb := 100 + 4 * c + 1) (by omega) (by omega) (lf := lf) lf100
              rw [← hi7, ← hlf7] at TICK hH7
              have HRUN := Lib.hid RUN
              have HTICK := Lib.hid TICK
              have HH8 := Lib.hid hH7
              have HI := Lib.hid li7
              have HC := Lib.hid c300
              clear RUN TICK hH7 HH7 hg hi7 hlf7 li7 lf100 HH c300
              refine world_wp (fun W => KW W S1 ∧ BelowK w S1 W ∧ Out W S1 hb (.cells (hasC g) 50 (0, 0))) ⟨HK6.out, HF6.out, HO6.out⟩ ?_
              clear HK6 HF6 HO6 w5
              rintro W6 ⟨k6, f6, o6⟩
              have HK6 := Lib.hid k6
              have HF6 := Lib.hid f6
              have HO6 := Lib.hid o6
              clear k6 f6 o6
              go_upto_region 29 with (first
                | (go_at_call 14; refine (Run_c _).mono ?_; rintro e w7 ⟨rfl, b7⟩; have HK7 := Lib.hid (HK6.out.reads b7); have HF7 := Lib.hid (HF6.out.reads b7); have HO7 := Lib.hid (HO6.out.fr (Fr.reads S1 b7)); clear b7 HK6 HF6 HO6)
                | (go_at_call 13; refine (HRUN.out w7 S1 HS1.out HK7.out).mono ?_; rintro e w8 ⟨S8, rfl, hA8, k8, f8⟩; have HA8 := Lib.hid hA8; have HK8 := Lib.hid k8; have HF8 := Lib.hid (HF7.out.fr f8); have HO8 := Lib.hid (HO7.out.fr f8); clear hA8 k8 f8 HK7 HF7 HO7 HS1 HRUN)
                | (go_at_call 17; refine (Tick_c _).mono ?_; rintro e w9 ⟨rfl, b9⟩; have HK9 := Lib.hid (HK8.out.reads b9); have HF9 := Lib.hid (HF8.out.reads b9); have HO9 := Lib.hid (HO8.out.fr (Fr.reads S8 b9)); clear b9 HK8 HF8 HO8)
                | (go_at_call 13; refine (HTICK.out w9 S8 HA8.out HK9.out).mono ?_; rintro e w10 ⟨S10, rfl, hA10, k10, f10⟩; have HA10 := Lib.hid hA10; have HK10 := Lib.hid k10; have HF10 := Lib.hid (HF9.out.fr f10); have HO10 := Lib.hid (HO9.out.fr f10); clear hA10 k10 f10 HK9 HF9 HO9 HTICK))
              have HT10 : RowKit.Hid (TickS w B j q hb (c + 1) w10) := Lib.hid ⟨i7, lf7, g, S10, HI.out, HH8.out, by
                obtain ⟨x, M, N⟩ := HA10.out
                exact ⟨x, ⟨M.R, M.Ll, M.L1, M.st0, by have := M.st; omega, by have := M.ln; omega, M.t1⟩, N⟩, HK10.out, HO10.out, HF10.out⟩
              have HG : RowKit.Hid (w10.heap[hb]? = some (.cells (hasC g) 50 (0, 0))) := Lib.hid HO10.out.1
              clear HA10 HK10 HF10 HO10 HI
              go_wp2_with fail
              go_loopw [17] (fun u wr => ∃ a : Nat, u = .int .i64 a ∧ 1 ≤ a ∧ a ≤ j + 1 ∧ Below w10.heap.size w10 wr) (fun u _ => j + 1 - (intOf u).toNat)
              case atStart => exact ⟨1, rfl, by omega, by omega, Below.refl _ _⟩
              case round =>
                obtain ⟨a, rfl, a1, a2, ba⟩ := hrel
                have HBa := Lib.hid ba
                clear ba
                by_cases alt : a < j + 1
                · go_wp2_with fail
                  go_loopw [18] (fun u wr => ∃ b : Nat, u = .int .i64 b ∧ 1 ≤ b ∧ b ≤ j + 1 ∧ Below w10.heap.size w10 wr) (fun u _ => j + 1 - (intOf u).toNat)
                  case atStart => exact ⟨1, rfl, by omega, by omega, HBa.out⟩
                  case round =>
                    clear HBa
                    obtain ⟨b, rfl, b1, b2, bb⟩ := hrel
                    have HBb := Lib.hid bb
                    clear bb
                    by_cases blt : b < j + 1
                    · have xg := below_has HBb.out HG.out
                      have ca' : wr.cell? ⟨hb, a, none⟩ = some (.int .i64 (g a)) := has_cell _ xg (has_at g (by omega))
                      have cb' : wr.cell? ⟨hb, b, none⟩ = some (.int .i64 (g b)) := has_cell _ xg (has_at g (by omega))
                      have fair := HH8.out.fair a b a1 (by omega) b1 (by omega)
                      have ga := HH8.out.f0 a
                      have gb := HH8.out.f0 b
                      have hcc := HC.out
                      have ga0 := ga.1
                      have gb0 := gb.1
                      have gb1 : g b ≤ 301 := by have := gb.2; omega
                      have ga1 : g a ≤ 301 := by have := ga.2; omega
                      clear xg ga gb hcc
                      go_upto_region 35 with fail
                      go_region
                      go_wp2_with fail
                      go_roundw
                      case rel => exact ⟨b + 1, by go_num, by omega, by omega, HBb.out.drew⟩
                      case measure => simp [intOf]; omega
                    · obtain rfl : b = j + 1 := by omega
                      go_wp2_with fail
                      go_roundw
                      case rel => exact ⟨a + 1, by go_num, by omega, by omega, HBb.out⟩
                      case measure => simp [intOf]; omega
                · obtain rfl : a = j + 1 := by omega
                  have HT := Lib.hid (HT10.out.reads HBa.out)
                  go_wp2_with fail
                  go_roundw
                  case rel =>
                    iterate 57 apply Exists.intro
                    refine ⟨?_, rfl⟩
                    exact ⟨c + 1, by go_num, by go_num, HWB.out, HT.out⟩
                  case measure => simp [intOf]; omega
            · obtain rfl : (c : Int) = tk := by omega
              go_wp2_with (go_at_call 7; refine (alive_7 _).mono ?_; rintro e w9 ⟨rfl, b9⟩; have HB9 := Lib.hid b9; clear b9)
              go_ret
              exact ⟨rfl, HF.out.1.trans (HB9.out.mono HF.out.1.size)⟩
end Go.Proofs.YtagmlijhgncklaaGreatDoor.Ker
namespace Go.Proofs.YtagmlijhgncklaaGreatDoor.Ker
open Go.RowKit Go.Proofs.YtagmlijhgncklaaGreatDoor Go.Proofs.YtagmlijhgncklaaGreatDoor.Code

set_option maxHeartbeats 1000000 in
set_option maxRecDepth 100000 in
theorem robins_out (w : World) (n q tk : Int) (h : n < 1 ∨ n > 6 ∨ q < 1 ∨ q > 100 ∨ tk < 0 ∨ tk > 300) : Calls Tryz.prog 4 #[.int .i64 n, .int .i64 q, .int .i64 tk] w fun e w' => e = .returned (.bool true) ∧ Below w.heap.size w w' := by
  go_enter Tryz.func4, Tryz.ntmps4
  go_upto_region 2 with fail
  all_goals first
    | (exfalso; omega)
    | (go_wp2_with (go_at_call 7; refine (alive_7 _).mono ?_; rintro e w9 ⟨rfl, b9⟩)
       go_ret
       exact ⟨rfl, by assumption⟩)
theorem robins_claim (w : World) (n q tk : Int) : Calls Tryz.prog 4 #[.int .i64 n, .int .i64 q, .int .i64 tk] w fun e w' => e = .returned (.bool true) ∧ Below w.heap.size w w' := by
  by_cases h : n < 1 ∨ n > 6 ∨ q < 1 ∨ q > 100 ∨ tk < 0 ∨ tk > 300
  · exact robins_out w n q tk h
  · obtain ⟨m, rfl⟩ : ∃ m : Nat, n = m := ⟨n.toNat, by omega⟩
    exact robins_walk w m q tk (by omega) (by omega) (by omega) (by omega) (by omega) (by omega)
end Go.Proofs.YtagmlijhgncklaaGreatDoor.Ker
