/-
  TopSporadic: the job is made, over the translation of this seat. Conditions: those said.
-/
import Derived.Test.YtagmlijhgncklaaGreatDoorP39
import Derived.Test.YtagmlijhgncklaaGreatDoorP41
set_option linter.unusedVariables false
namespace Go.Proofs.YtagmlijhgncklaaGreatDoor.Ker
open Go.RowKit Go.Proofs.YtagmlijhgncklaaGreatDoor Go.Proofs.YtagmlijhgncklaaGreatDoor.Code

def spJ (bu pe : Int) (a ca b c : Nat) : Job := ⟨4, 4, 4, 2, 31, [⟨a, spL bu pe, ca⟩, ⟨b, loopL, 2⟩, ⟨b, loopL, 2⟩], c, 3⟩
theorem sp_ok (bu pe : Int) (m : Int) : ∀ i ∈ spL bu pe, i.Ok m := by
  intro i hi
  simp only [spL, List.mem_cons, List.mem_nil_iff, or_false] at hi
  rcases hi with rfl | rfl | rfl | rfl | rfl | rfl | rfl | rfl | rfl | rfl | rfl | rfl | rfl | rfl | rfl | rfl <;> simp [Ins.Ok, RegOk]
theorem spJ_ok (bu pe : Int) (a ca b c : Nat) : (spJ bu pe a ca b c).Ok := by
  refine ⟨by show (1 : Int) ≤ 4; decide, by show (4 : Int) ≤ 16; decide, by show (1 : Int) ≤ 4; decide, by show (4 : Int) ≤ 8; decide, by show (1 : Int) ≤ 4; decide, by show (4 : Int) ≤ 32; decide, by show (1 : Int) ≤ 2; decide, by show (2 : Int) ≤ 100; decide, by show (1 : Int) ≤ 31; decide, by show (31 : Int) ≤ 31; decide, by show 1 ≤ 3; decide, by show 3 ≤ 32; decide, ?_⟩
  intro x hx
  simp [spJ] at hx
  rcases hx with rfl | rfl
  · exact ⟨sp_ok bu pe _, by show 16 ≤ 256; decide⟩
  · exact ⟨loop_ok, by show (2 : Nat) ≤ 256; decide⟩
theorem spJ_pgs {w : World} {bu pe : Int} {a ca b c : Nat} (ha : PrgH w a (spL bu pe)) (hb : w.heap[b]? = some (.cells (loopL.flatMap Ins.cells).toArray 29 (0, 0))) (hc : w.heap[c]? = some (.cells #[.slice (some ⟨a, 0, none⟩) 16 ca, .slice (some ⟨b, 0, none⟩) 2 2, .slice (some ⟨b, 0, none⟩) 2 2] 24 (0, 0))) : PgsH w c (spJ bu pe a ca b c).PS := by
  refine ⟨⟨[.slice (some ⟨a, 0, none⟩) 16 ca, .slice (some ⟨b, 0, none⟩) 2 2, .slice (some ⟨b, 0, none⟩) 2 2], hc, ?_⟩, ?_⟩
  · intro k x hk
    match k, hk with
    | 0, hk => cases hk; rfl
    | 1, hk => cases hk; rfl
    | 2, hk => cases hk; rfl
  · intro x hx
    simp [spJ] at hx
    rcases hx with rfl | rfl
    · exact ha
    · exact ⟨_, hb, fun k i hk j hj => flat_at loopL k i j hj hk⟩
theorem spB_of {B : KB} {PS : List Prg} {b cap : Nat} {t o s q pr bu pe : Int} (hJ : B.J = ⟨t, o, s, q, pr, PS, b, cap⟩) (hq : q = 2) (hL : PS.map Prg.L = [spL bu pe, loopL, loopL]) (hn : B.n = 4) : ∃ m y1 y2, SpB B bu pe m y1 y2 := by
  match PS, hL, hJ with
  | [m, y, z], hL, hJ =>
    simp at hL
    exact ⟨m, y, z, hn, by rw [hJ]; exact hq, by rw [hJ], hL.1, hL.2.1, hL.2.2⟩
  | [], hL, _ => simp at hL
  | [_], hL, _ => simp at hL
  | [_, _], hL, _ => simp at hL
  | _ :: _ :: _ :: _ :: _, hL, _ => simp at hL
theorem sp_put (bu pe : Int) : ([] ++ setsF 2 [1, 10, 0, 0] ++ [⟨7, 0, 0, 0, 1⟩]) ++ setsF 2 [2, 15, 0, 0] ++ [⟨7, 0, 0, 0, 1⟩] ++ [⟨1, 2, 0, 0, 17⟩, ⟨1, 3, 0, 0, 20⟩, ⟨1, 4, 0, 0, 10⟩, ⟨1, 5, 0, 0, bu⟩, ⟨1, 7, 0, 0, pe⟩, ⟨7, 0, 0, 0, 9⟩] = spL bu pe := by
  simp [setsF, spL]
def sp6 (bu pe : Int) : List Ins := [⟨1, 2, 0, 0, 17⟩, ⟨1, 3, 0, 0, 20⟩, ⟨1, 4, 0, 0, 10⟩, ⟨1, 5, 0, 0, bu⟩, ⟨1, 7, 0, 0, pe⟩, ⟨7, 0, 0, 0, 9⟩]
theorem news6 (W : World) (bu pe : Int) : ∀ j u, ((sp6 bu pe).flatMap Ins.cells)[j]? = some u → (W.alloc (.cells #[.int .i64 1, .int .i64 2, .int .i64 0, .int .i64 0, .int .i64 17, .int .i64 1, .int .i64 3, .int .i64 0, .int .i64 0, .int .i64 20, .int .i64 1, .int .i64 4, .int .i64 0, .int .i64 0, .int .i64 10, .int .i64 1, .int .i64 5, .int .i64 0, .int .i64 0, .int .i64 bu, .int .i64 1, .int .i64 7, .int .i64 0, .int .i64 0, .int .i64 pe, .int .i64 7, .int .i64 0, .int .i64 0, .int .i64 0, .int .i64 9] 29)).cell? ((⟨W.heap.size, 0, none⟩ : Addr).add j) = some u := by
  intro j u h
  exact World.news_of_block (heap_alloc_new W (.cells #[.int .i64 1, .int .i64 2, .int .i64 0, .int .i64 0, .int .i64 17, .int .i64 1, .int .i64 3, .int .i64 0, .int .i64 0, .int .i64 20, .int .i64 1, .int .i64 4, .int .i64 0, .int .i64 0, .int .i64 10, .int .i64 1, .int .i64 5, .int .i64 0, .int .i64 0, .int .i64 bu, .int .i64 1, .int .i64 7, .int .i64 0, .int .i64 0, .int .i64 pe, .int .i64 7, .int .i64 0, .int .i64 0, .int .i64 0, .int .i64 9] 29)) j u (by simpa [sp6, Ins.cells] using h)
theorem sp6_one (bu pe : Int) : ∀ u ∈ (sp6 bu pe).flatMap Ins.cells, u.oneCell' = true := by
  intro u hu
  obtain ⟨i, _, h⟩ := List.mem_flatMap.1 hu
  exact ins_one i u h
/-- The loop's program lies in a block; main's is a list of the caller's own. -/
structure SpW (w W : World) (v : Value) (L : List Ins) : Prop where
  own : OwnI W (w.heap.size + 1) v L
  loop : W.heap[w.heap.size]? = some (.cells (loopL.flatMap Ins.cells).toArray 29 (0, 0))
  below : Below w.heap.size w W
theorem SpW.reads {w W W' : World} {v : Value} {L : List Ins} (h : SpW w W v L) (k : Below W.heap.size W W') : SpW w W' v L :=
  ⟨owns_kept h.own fun b hb => k.block b (owns_lt h.own hb), below_has k h.loop, h.below.trans (k.mono h.below.size)⟩
theorem own_ge {w : World} {B : Nat} {v : Value} {L : List Ins} (h : OwnI w B v L) {b : Nat} (hb : v.ownBlock = some b) : B ≤ b := by
  rcases h.2 with ⟨e, _⟩ | ⟨g, cap, cur, e, hg, _⟩
  · rw [e] at hb; cases hb
  · rw [e] at hb; cases hb; exact hg
theorem SpW.grown {w W W' : World} {v v' : Value} {L L' : List Ins} (h : SpW w W v L) (o : OwnI W' (w.heap.size + 1) v' L') (g : W.grownBy W' v.ownBlock) : SpW w W' v' L' := by
  have ne : ∀ k, k ≤ w.heap.size → some k ≠ v.ownBlock := fun k hk e => by have := own_ge h.own e.symm; omega
  exact ⟨o, (g.block _ (has_lt h.loop) (ne _ (Nat.le_refl _))).trans h.loop, g.os.trans h.below.os, g.tape.trans h.below.tape, g.output.trans h.below.output, Nat.le_trans h.below.size g.size, fun k hk => (g.block k (Nat.lt_of_lt_of_le hk h.below.size) (ne k (by omega))).trans (h.below.block k hk)⟩
/-- A row of numbers of the caller's own, outside of the kernel. -/
structure LRow (w W : World) (S : KS) (v : Value) (xs : List Value) : Prop where
  own : W.ownsRow w.heap.size 3 1 v xs.length xs
  lab : ∀ b, v.ownBlock = some b → S.lo.lab b = 0
theorem LRow.fr {w W W' : World} {S S' : KS} {v : Value} {xs : List Value} (h : LRow w W S v xs) (f : Fr S S' W W') : LRow w W' S' v xs :=
  ⟨owns_kept h.own fun b hb => f.block b (owns_lt h.own hb) (h.lab b hb), fun b hb => (f.lab b (owns_lt h.own hb)).trans (h.lab b hb)⟩
theorem row_ge {w : World} {B : Nat} {e : TypeId} {s n : Nat} {v : Value} {xs : List Value} (h : w.ownsRow B e s v n xs) {b : Nat} (hb : v.ownBlock = some b) : B ≤ b := by
  rcases h.2 with ⟨e, _⟩ | ⟨g, cap, cur, e, hg, _⟩
  · rw [e] at hb; cases hb
  · rw [e] at hb; cases hb; exact hg
/-- The row grows; the kernel stays. -/
theorem LRow.grows {w W W' : World} {S : KS} {v v' : Value} {xs ys : List Value} (h : LRow w W S v xs) (k : KW W S) (F : BelowK w S W) (o : W'.ownsRow w.heap.size 3 1 v' ys.length ys) (g : W.grownBy W' v.ownBlock) (hat : v'.ownBlock = v.ownBlock ∨ v'.ownBlock = some W.heap.size) : LRow w W' S v' ys ∧ KW W' S ∧ BelowK w S W' := by
  refine ⟨⟨o, fun b hb => ?_⟩, k.keeps g.size fun b hb hl => g.block b hb fun e => hl (h.lab b e.symm), ⟨g.os.trans F.1.os, g.tape.trans F.1.tape, g.output.trans F.1.output, Nat.le_trans F.1.size g.size, fun i hi => (g.block i (Nat.lt_of_lt_of_le hi F.1.size) fun e => by have := row_ge h.own e.symm; omega).trans (F.1.block i hi)⟩, F.2⟩
  rcases hat with e | e
  · rw [e] at hb; exact h.lab b hb
  · rw [e] at hb; cases hb; exact k.fresh _ (Nat.le_refl _)
/-- Who ran, tick by tick. -/
def rowF (b P : Nat) : Nat → List Value
  | 0 => []
  | c + 1 => rowF b P c ++ [.int .i64 (if c % P < b then 1 else 0)]
theorem rowF_len (b P : Nat) : ∀ c, (rowF b P c).length = c := by
  intro c
  induction c with
  | zero => rfl
  | succ c ih => rw [rowF, List.length_append, ih]; rfl
theorem rowF_get (b P : Nat) : ∀ c j, j < c → (rowF b P c)[j]? = some (.int .i64 (if j % P < b then 1 else 0)) := by
  intro c
  induction c with
  | zero => intro j hj; omega
  | succ c ih =>
    intro j hj
    rw [rowF]
    by_cases e : j < c
    · rw [List.getElem?_append_left (by rw [rowF_len]; omega)]
      exact ih j e
    · obtain rfl : j = c := by omega
      rw [List.getElem?_append_right (by rw [rowF_len]; omega), rowF_len, Nat.sub_self]
      rfl
theorem row_cells {W : World} {B : Nat} {v : Value} {xs : List Value} (h : W.ownsRow B 3 1 v xs.length xs) (hl : 0 < xs.length) : ∃ g cap, v = .slice (some ⟨g, 0, none⟩) xs.length cap ∧ ∀ j u, xs[j]? = some u → W.cell? ⟨g, j, none⟩ = some u := by
  rcases h.2 with ⟨_, h0⟩ | ⟨g, cap, cur, e, hb, hg, _, _, hs, ht⟩
  · omega
  · refine ⟨g, cap, e, fun j u hj => has_cell j hg ?_⟩
    have hj2 : j < xs.length := (List.getElem?_eq_some_iff.1 hj).1
    rw [← ht] at hj
    rw [List.getElem?_take_of_lt (by omega)] at hj
    simpa using hj
/-- Ahead of tick c. -/
def SpTick (w : World) (B : KB) (b P c : Nat) (v : Value) (W : World) : Prop := ∃ S, SomS B b P c (100 + 20 * c) (100 + 4 * c) S ∧ KW W S ∧ LRow w W S v (rowF b P c) ∧ BelowK w S W
def thE (t : Th) (pr e : Int) : List Value := [.int .i64 t.hd, .bool true, .bool false, .int .i64 0, .int .i64 pr, .int .i64 e, .int .i64 t.pol, .int .i64 t.prog, .int .i64 t.pc, .int .i64 (t.r 0), .int .i64 (t.r 1), .int .i64 (t.r 2), .int .i64 (t.r 3), .int .i64 (t.r 4), .int .i64 (t.r 5), .int .i64 (t.r 6), .int .i64 (t.r 7), .int .i64 0, .int .i64 t.wt.kind, .int .i64 t.wt.on, .int .u32 0, .int .u32 0, .bool t.jn, .bool t.can.un]
theorem thE_one (t : Th) (pr e : Int) : ∀ v ∈ thE t pr e, v.oneCell' = true := by
  intro v hv
  simp only [thE, List.mem_cons, List.mem_nil_iff, or_false] at hv
  rcases hv with rfl | rfl | rfl | rfl | rfl | rfl | rfl | rfl | rfl | rfl | rfl | rfl | rfl | rfl | rfl | rfl | rfl | rfl | rfl | rfl | rfl | rfl | rfl | rfl <;> rfl
theorem info63 : (Tryz.prog.info? 63).map (·.size) = some 24 := by kernel_rfl
theorem sp_thread {B : KB} {b P c sb lb : Nat} {S : KS} (h : SomS B b P c sb lb S) (W : World) (hW : KW W S) (e : Int) (he : e = if c % P < b then ((20 : Nat) : Int) else ((10 : Nat) : Int)) : ∃ (t : Th) (pr : Int), Calls Tryz.prog 20 #[.pointer (some ⟨B.kb, 0, none⟩), .int .i64 1] W fun e' w' => e' = .returned (.tuple #[.agg (thE t pr e).toArray, .bool true]) ∧ Below W.heap.size W w' := by
  obtain ⟨x1, M1, N1⟩ := h
  obtain ⟨t1, ht1, T1, u1, u2, u3⟩ := M1.t1
  obtain ⟨sv, t1', C, _⟩ := N1.ok
  obtain rfl : t1' = t1 := by have := C.O.th; rw [N1.th, ht1] at this; cases this; rfl
  have TC := Thread_c W S N1.B hW N1.ok.P 1 t1' (by decide) C.O.th C.O.en (prF S 1 (svAt b P c) 1) fun V hV => C.prioB V 1 t1' hV (by decide) C.O.th C.O.en
  refine ⟨t1', prF S 1 (svAt b P c) 1, ?_⟩
  have q : (thE t1' (prF S 1 (svAt b P c) 1) e).toArray = thV t1' (prF S 1 (svAt b P c) 1) := by
    unfold thE thV
    rw [u3, he]
  rw [q]
  exact TC
theorem cnt_le (b P : Nat) : ∀ k, cnt b P k ≤ k := by
  intro k
  induction k with
  | zero => exact Nat.le_refl _
  | succ k ih =>
    rw [cnt]
    split <;> omega
theorem info3 : (Tryz.prog.info? 3).map (fun i => (i.zero, i.size, i.bytes)) = some (some (.int .i64 0), 1, 8) := by kernel_rfl
set_option maxHeartbeats 4000000 in
set_option maxRecDepth 100000 in
theorem spor_walk (w : World) (bu pe : Nat) (tk : Int) (b0 : 1 ≤ bu) (b1 : bu ≤ 50) (p0 : bu ≤ pe) (p1 : pe ≤ 100) (t0 : 0 ≤ tk) (t1 : tk ≤ 300) : Calls Tryz.prog 6 #[.int .i64 bu, .int .i64 pe, .int .i64 tk] w fun e w' => e = .returned (.bool true) ∧ Below w.heap.size w w' := by
  go_enter Tryz.func6, Tryz.ntmps6
  go_upto_region 4 with fail
  have W0 : SpW w (w.alloc (.cells #[.int .i64 3, .int .i64 7, .int .i64 7, .int .i64 6, .int .i64 0, .int .i64 5, .int .i64 0, .int .i64 0, .int .i64 0, .int .i64 0] 29)) (.slice none 0 0) [] := ⟨⟨rfl, .inl ⟨rfl, rfl⟩⟩, heap_alloc_new w _, (Below.refl _ _).alloc (Nat.le_refl _) _⟩
  refine world_wp (fun W => SpW w W (.slice none 0 0) []) W0 ?_
  clear W0
  intro W hW
  have HW := Lib.hid hW
  have K1 := hW.reads ((Below.refl _ W).alloc (Nat.le_refl _) (.cells #[.int .i64 1, .int .i64 10, .int .i64 0, .int .i64 0] 2))
  have PC := put_c (W.alloc (.cells #[.int .i64 1, .int .i64 10, .int .i64 0, .int .i64 0] 2)) (w.heap.size + 1) (.slice none 0 0) [] K1.own (Nat.succ_le_of_lt (has_lt K1.loop)) 1 W.heap.size 4 [1, 10, 0, 0] (heap_alloc_new W _) (fun e => by cases e) (by decide) (by decide)
  have HK1 := Lib.hid K1
  clear hW K1
  go_upto_region 5 with (go_at_call 8; refine PC.mono ?_; rintro e w1 ⟨v1, rfl, PW⟩; have HPW := Lib.hid (HK1.out.grown PW.own PW.grown); clear PW PC HK1)
  have hP := HPW.out
  have K2 := hP.reads ((Below.refl _ w1).alloc (Nat.le_refl _) (.cells #[.int .i64 2, .int .i64 15, .int .i64 0, .int .i64 0] 2))
  have PC := put_c (w1.alloc (.cells #[.int .i64 2, .int .i64 15, .int .i64 0, .int .i64 0] 2)) (w.heap.size + 1) v1 ([] ++ setsF 2 [1, 10, 0, 0] ++ [⟨7, 0, 0, 0, 1⟩]) K2.own (Nat.succ_le_of_lt (has_lt K2.loop)) 1 w1.heap.size 4 [2, 15, 0, 0] (heap_alloc_new w1 _) (fun e => absurd (owns_lt hP.own e) (by omega)) (by decide) (by decide)
  have HK2 := Lib.hid K2
  clear hP K2 HPW
  go_upto_region 6 with (go_at_call 8; refine PC.mono ?_; rintro e w2 ⟨v2, rfl, PW⟩; have HM := Lib.hid (HK2.out.grown PW.own PW.grown); clear PW PC HK2)
  obtain ⟨L2, hL2⟩ : ∃ L2, L2 = [] ++ setsF 2 [1, 10, 0, 0] ++ [⟨7, 0, 0, 0, 1⟩] ++ setsF 2 [2, 15, 0, 0] ++ [⟨7, 0, 0, 0, 1⟩] := ⟨_, rfl⟩
  have hlen2 : L2.length = 10 := by rw [hL2]; rfl
  have hL3 : L2 ++ sp6 bu pe = spL bu pe := by rw [hL2]; exact sp_put bu pe
  rw [← hL2] at HM
  have HL3 := Lib.hid hL3
  have HLEN := Lib.hid hlen2
  clear hL2 hL3 hlen2
  obtain ⟨i0, hi, hz0, hz1, hz2⟩ := info_parts info29
  have HI := Lib.hid hi
  have HZ0 := Lib.hid hz0
  have HZ1 := Lib.hid hz1
  have HZ2 := Lib.hid hz2
  clear hi hz0 hz1 hz2
  have HSC : RowKit.Hid (∀ (W : World) (r n : Int), Calls Tryz.prog 19 #[.int .i64 r, .int .i64 n] W fun e w' => e = .returned (.agg #[.int .i64 1, .int .i64 r, .int .i64 0, .int .i64 0, .int .i64 n]) ∧ Below W.heap.size W w') := Lib.hid fun W r n => Set_c W r n
  have HCC : RowKit.Hid (∀ (W : World) (n : Int), Calls Tryz.prog 10 #[.int .i64 n] W fun e w' => e = .returned (.agg #[.int .i64 7, .int .i64 0, .int .i64 0, .int .i64 0, .int .i64 n]) ∧ Below W.heap.size W w') := Lib.hid fun W n => Call_c W n
  go_upto_region 7 with (first
    | (go_at_call 19; with_reducible refine (HSC.out _ _ _).mono ?_; rintro e wS ⟨rfl, bS⟩; have HM := Lib.hid (HM.out.reads bS); clear bS)
    | (go_at_call 10; with_reducible refine (HCC.out _ _).mono ?_; rintro e wS ⟨rfl, bS⟩; have HM := Lib.hid (HM.out.reads bS); clear bS)
    | (at_builtin; refine wpList_append_own_at _ rfl _ _ 24 rfl (w.heap.size + 1) 29 i0 (.agg #[.int .i64 0, .int .i64 0, .int .i64 0, .int .i64 0, .int .i64 0]) 5 40 Tryz.underlying24 HI.out HZ0.out HZ1.out HZ2.out rfl (by decide) _ L2.length (L2.flatMap Ins.cells) rfl (World.ownsRow.alloc HM.out.own _) ⟨wS.heap.size, 0, none⟩ 6 6 ((sp6 bu pe).flatMap Ins.cells) rfl rfl (news6 wS bu pe) (sp6_one bu pe) ?h63 ?hby ?hbase ?_))
  case h63 => have := HLEN.out; simp only [maxLen]; omega
  case hby => have := HLEN.out; omega
  case hbase => have := has_lt HM.out.loop; simp; omega
  intro v3 w3 h3 g3 _ _
  have HM3 : RowKit.Hid (SpW w w3 v3 (spL bu pe)) := Lib.hid ((HM.out.reads ((Below.refl _ _).alloc (Nat.le_refl _) _)).grown (by
    have q : w3.ownsRow (w.heap.size + 1) 29 5 v3 (L2 ++ sp6 bu pe).length ((L2 ++ sp6 bu pe).flatMap Ins.cells) := by
      rw [List.length_append, List.flatMap_append]
      exact h3
    rw [HL3.out] at q
    exact q) g3)
  clear h3 g3 HM HW
  go_upto_region 7 with fail
  obtain ⟨a, ca, hv3, ha, hp⟩ := own_prg HM3.out.own (by show 0 < 16; decide)
  have hlen : (spL bu pe).length = 16 := rfl
  rw [hlen] at hv3
  subst hv3
  have JC : ∀ V, Calls Tryz.prog 11 #[.slice (some ⟨w3.heap.size, 0, none⟩) 3 3] V fun e w' => e = .returned (.agg #[.int .i64 4, .int .i64 4, .int .i64 4, .int .i64 2, .int .i64 512, .int .i64 5, .slice (some ⟨w3.heap.size, 0, none⟩) 3 3, .slice none 0 0]) ∧ Below V.heap.size V w' := fun V => Job_c V [⟨a, spL bu pe, ca⟩, ⟨w.heap.size, loopL, 2⟩, ⟨w.heap.size, loopL, 2⟩] w3.heap.size 3
  have hp : PrgH w3 a (spL bu pe) := hp
  have hpg : PgsH (w3.alloc (.cells #[.slice (some ⟨a, 0, none⟩) 16 ca, .slice (some ⟨w.heap.size, 0, none⟩) 2 2, .slice (some ⟨w.heap.size, 0, none⟩) 2 2] 24)) w3.heap.size (spJ bu pe a ca w.heap.size w3.heap.size).PS := spJ_pgs (hp.reads ((Below.refl _ w3).alloc (Nat.le_refl _) _)) (below_has ((Below.refl _ w3).alloc (Nat.le_refl _) _) HM3.out.loop) (heap_alloc_new w3 _)
  have hbw : Below w.heap.size w (w3.alloc (.cells #[.slice (some ⟨a, 0, none⟩) 16 ca, .slice (some ⟨w.heap.size, 0, none⟩) 2 2, .slice (some ⟨w.heap.size, 0, none⟩) 2 2] 24)) := HM3.out.below.alloc HM3.out.below.size _
  have HPG := Lib.hid hpg
  have HBW := Lib.hid hbw
  clear hpg hbw ha hp hlen HM3 HSC HCC HL3 HLEN HI HZ0 HZ1 HZ2
  go_upto_region 8 with (go_at_call 11; with_reducible refine (JC _).mono ?_; rintro e w4 ⟨rfl, b4⟩; have HB4 := Lib.hid b4; clear b4 JC)
  obtain ⟨jb, hjb⟩ : ∃ jb, jb = w4.heap.size := ⟨_, rfl⟩
  obtain ⟨c, hc⟩ : ∃ c, c = w3.heap.size := ⟨_, rfl⟩
  obtain ⟨lb, hlb⟩ : ∃ lb, lb = w.heap.size := ⟨_, rfl⟩
  have hpg1 := HPG.out.reads HB4.out
  have hbw1 := HBW.out.trans (HB4.out.mono HBW.out.size)
  have bl3 := (Below.refl w4.heap.size w4).alloc (Nat.le_refl _) (.cells #[.int .i64 4, .int .i64 4, .int .i64 4, .int .i64 2, .int .i64 512, .int .i64 5, .slice (some ⟨c, 0, none⟩) 3 3, .slice none 0 0] 34)
  rw [← hc] at hpg1
  rw [← hlb] at hpg1
  rw [← hjb, ← hc]
  refine world_wp (fun W => W.heap[jb]? = some (.cells #[.int .i64 4, .int .i64 4, .int .i64 4, .int .i64 2, .int .i64 512, .int .i64 5, .slice (some ⟨c, 0, none⟩) 3 3, .slice none 0 0] 34 (0, 0)) ∧ ∀ o W', Upd W jb o W' → PgsH W' c (spJ bu pe a ca lb c).PS ∧ Below w.heap.size w W') ⟨by rw [hjb]; exact heap_alloc_new w4 _, fun o W' U => by
    have bu := bl3.trans (U.below (B := w4.heap.size) (by rw [hjb]; exact Nat.le_refl _) bl3.size)
    exact ⟨hpg1.reads bu, hbw1.trans (bu.mono hbw1.size)⟩⟩ ?_
  clear bl3 hbw1 hpg1 HPG HBW HB4 hjb hc
  rintro W4 ⟨xj, hpg⟩
  have fz := has_free xj
  have U1 := ((Upd.refl xj).setCell 5 (.int .i64 31)).to (o' := .cells (spJ bu pe a ca lb c).cells.toArray 34 (0, 0)) (by simp only [spJ, Job.cells, List.setIfInBounds_toArray, List.set_cons_succ, List.set_cons_zero]; rfl)
  have c5 : W4.cell? ⟨jb, 5, none⟩ = some (.int .i64 5) := has_cell 5 xj rfl
  have HU := Lib.hid (And.intro U1.1 (hpg _ _ U1))
  clear hpg U1
  go_upto_region 9 with fail
  refine world_wp (fun W => W.heap[jb]? = some (.cells (spJ bu pe a ca lb c).cells.toArray 34 (0, 0)) ∧ PgsH W c (spJ bu pe a ca lb c).PS ∧ Below w.heap.size w W) HU.out ?_
  clear HU xj c5 fz W4
  rintro W5 ⟨xj, hpg, hbw⟩
  have d0 : W5.cell? ⟨jb, 0, none⟩ = some (.int .i64 4) := has_cell 0 xj rfl
  have d1 : W5.cell? ⟨jb, 1, none⟩ = some (.int .i64 4) := has_cell 1 xj rfl
  have d2 : W5.cell? ⟨jb, 2, none⟩ = some (.int .i64 4) := has_cell 2 xj rfl
  have d3 : W5.cell? ⟨jb, 3, none⟩ = some (.int .i64 2) := has_cell 3 xj rfl
  have d4 : W5.cell? ⟨jb, 4, none⟩ = some (.int .i64 512) := has_cell 4 xj rfl
  have d5 : W5.cell? ⟨jb, 5, none⟩ = some (.int .i64 31) := has_cell 5 xj rfl
  have d6 : W5.cell? ⟨jb, 6, none⟩ = some (.slice (some ⟨c, 0, none⟩) 3 3) := has_cell 6 xj rfl
  have d7 : W5.cell? ⟨jb, 7, none⟩ = some (.slice none 0 0) := has_cell 7 xj rfl
  have HPG := Lib.hid hpg
  have HBW := Lib.hid hbw
  have NC : ∀ V, PgsH V c (spJ bu pe a ca lb c).PS → _ := fun V h => new_c V (spJ bu pe a ca lb c) h (spJ_ok bu pe a ca lb c) 4 4 31 rfl rfl rfl
  clear hpg hbw xj
  go_upto_region 10 with (go_at_call 12; refine (NC _ HPG.out).mono ?_; rintro e w6 ⟨B, lo, tb, tc, rfl, hJ, hn, l1, l2, l3, l4, k6, cm, b6, hl⟩; have HK6 := Lib.hid k6; have HN0 := Lib.hid (now_first cm l1 l3 l4); have HB6 := Lib.hid (HBW.out.trans (b6.mono HBW.out.size)); have HJJ := Lib.hid hJ; have HNN := Lib.hid hn; have HLL := Lib.hid hl; clear NC k6 cm l1 l2 l3 l4 b6 hJ hn hl)
  obtain ⟨m, y1, y2, AB⟩ : ∃ m y1 y2, SpB B bu pe m y1 y2 := by
    obtain ⟨PS, b', cap, h1, h2⟩ := HJJ.out
    exact spB_of h1 rfl h2 HNN.out
  have HAB := Lib.hid AB
  have HSW : RowKit.Hid (∃ S, SpPh B bu pe tb tc 0 S ∧ KW w6 S ∧ BelowK w S w6) := Lib.hid ⟨_, ⟨HN0.out, rfl⟩, HK6.out, HB6.out, fun k hk => HLL.out k (Nat.lt_of_lt_of_le hk HBW.out.size)⟩
  clear AB d0 d1 d2 d3 d4 d5 d6 d7 HPG HBW HK6 HN0 HB6 HJJ HNN HLL
  refine world_wp (fun W => ∃ S, SpPh B bu pe tb tc 0 S ∧ KW W S ∧ BelowK w S W) HSW.out ?_
  clear HSW
  intro W7 h7
  have HSW := Lib.hid h7
  clear h7
  go_wp2_with fail
  go_loopw [12] (fun i wr => ∃ (k : Nat) (S : KS), i = .int .i64 k ∧ k ≤ 17 ∧ SpPh B bu pe tb tc k S ∧ KW wr S ∧ BelowK w S wr) (fun i _ => 17 - (intOf i).toNat)
  case atStart =>
    obtain ⟨S, h1, h2, h3⟩ := HSW.out
    exact ⟨0, S, rfl, by omega, h1, h2, h3⟩
  case round =>
    clear HSW
    obtain ⟨k, S, rfl, hk, hA, hK, hF⟩ := hrel
    have HA := Lib.hid hA
    have HK := Lib.hid hK
    have HF := Lib.hid hF
    clear hA hK hF
    by_cases hlt : k < 17
    · have i1 : (0 : Int) ≤ k := by omega
      go_wp2_with (first
        | (go_at_call 14; refine (Run_c _).mono ?_; rintro e w3 ⟨rfl, b3⟩; have HK3 := Lib.hid (HK.out.reads b3); have HF3 := Lib.hid (HF.out.reads b3); clear b3)
        | (go_at_call 13; refine (spph_next HAB.out b0 p0 p1 tb tc k hlt w3 S HA.out HK3.out).mono ?_; rintro e w4 ⟨S4, rfl, hA4, k4, f4⟩; have HA4 := Lib.hid hA4; have HK4 := Lib.hid k4; have HF4 := Lib.hid (HF3.out.fr f4); clear hA4 k4 f4))
      go_roundw
      case rel => exact ⟨k + 1, S4, by go_num, by omega, HA4.out, HK4.out, HF4.out⟩
      case measure => simp [intOf]; omega
    · obtain rfl : k = 17 := by omega
      have HT0 : RowKit.Hid (SpTick w B bu pe 0 (.slice none 0 0) wr) := Lib.hid ⟨S, HA.out, HK.out, ⟨⟨rfl, .inl ⟨rfl, rfl⟩⟩, fun b hb => by cases hb⟩, HF.out⟩
      clear HA HK HF
      go_wp2_with fail
      go_loopw [13, 14] (fun v i wr => ∃ c : Nat, i = .int .i64 c ∧ (c : Int) ≤ tk ∧ SpTick w B bu pe c v wr) (fun _ i _ => (tk - intOf i).toNat)
      case atStart => exact ⟨0, rfl, by omega, HT0.out⟩
      case round =>
        clear HT0
        obtain ⟨c, rfl, hc, S, hS, hK, hR, hF⟩ := hrel
        have HS := Lib.hid hS
        have HK := Lib.hid hK
        have HR := Lib.hid hR
        have HF := Lib.hid hF
        clear hK hR hF
        by_cases hlt : (c : Int) < tk
        · obtain ⟨x, M, N⟩ := hS
          obtain ⟨t, T, K⟩ := M.turn HAB.out (by omega)
          have Rn := T.runS N
          have RU := Runs_c wr S N.B HK.out N.ok.P Rn.b1 Rn.b2 Rn.sm Rn.s0 (by have := Rn.s1; omega)
          rw [Rn.first] at RU
          obtain ⟨S1, eS1⟩ : ∃ S1 : KS, S1 = { S with st := S.st + 1 } := ⟨_, rfl⟩
          have hS1 := sps_one HS.out
          rw [← eS1] at hS1 RU
          have HS1 := Lib.hid hS1
          have HC : RowKit.Hid (c ≤ 300) := Lib.hid (by omega)
          clear N M T K Rn HS hS1 eS1
          by_cases hh : c % pe < bu
          · rw [if_pos hh] at RU
            go_upto_region 23 with (go_at_call 16; refine RU.mono ?_; rintro e w5 ⟨rfl, k5, f5⟩; have HK5 := Lib.hid k5; have HF5 := Lib.hid (HF.out.fr f5); have HR5 := Lib.hid (HR.out.fr f5); clear k5 f5 RU)
            obtain ⟨th1, pr, TC⟩ := sp_thread HS1.out w5 HK5.out 20 (by rw [if_pos hh]; rfl)
            go_upto_region 24 with (first
              | (go_at_call 20; refine TC.mono ?_; rintro e w6 ⟨rfl, b6⟩; have HB6 := Lib.hid b6; clear b6 TC)
              | (refine store_whole rfl 63 (.tmp 17) (.tmp 111) rfl w6.heap.size _ (thE th1 pr 20) rfl rfl (n := 24) rfl (thE_one th1 pr 20) (heap_alloc_new w6 _) rfl info63 ?_; intro w7 U7; have HU7 := Lib.hid U7; clear U7))
            have b7 := HB6.out.trans (((Below.refl w6.heap.size w6).alloc (Nat.le_refl _) _).trans (HU7.out.below (B := w6.heap.size) (Nat.le_refl _) (by simp)) |>.mono HB6.out.size)
            have c5 : w7.cell? ⟨w6.heap.size, 5, none⟩ = some (.int .i64 20) := has_cell 5 HU7.out.1 rfl
            have HK7 := Lib.hid (HK5.out.reads b7)
            have HF7 := Lib.hid (HF5.out.reads b7)
            have HR7 := Lib.hid (HR5.out.fr (Fr.reads S1 b7))
            clear b7 HU7 HB6 HK5 HF5 HR5
            go_upto_region 29 with fail
            clear c5
            have own : w7.ownsRow w.heap.size 3 1 u13 c (rowF bu pe c) := by
              have q := HR7.out.own
              rwa [rowF_len] at q
            have HOWN := Lib.hid own
            have hw : w.heap.size ≤ w7.heap.size := HF7.out.1.size
            obtain ⟨i3, hi, hz0, hz1, hz2⟩ := info_parts info3
            have HI := Lib.hid hi
            have HZ0 := Lib.hid hz0
            have HZ1 := Lib.hid hz1
            have HZ2 := Lib.hid hz2
            have HW7 := Lib.hid hw
            clear own hi hz0 hz1 hz2 hw
            go_upto_region 30 with (at_builtin; refine wpList_append_own_at _ rfl _ _ 22 rfl w.heap.size 3 i3 (.int .i64 0) 1 8 Tryz.underlying22 HI.out HZ0.out HZ1.out HZ2.out rfl (by decide) _ c (rowF bu pe c) rfl (World.ownsRow.alloc HOWN.out _) ⟨w7.heap.size, 0, none⟩ 1 1 [.int .i64 1] rfl rfl (by exact World.news_of_block (heap_alloc_new w7 (.cells #[.int .i64 1] 3))) (by intro u hu; simp at hu; subst hu; rfl) ?h63 ?hby ?hbase ?_)
            case h63 => have := HC.out; simp only [maxLen]; omega
            case hby => have := HC.out; omega
            case hbase => have := HW7.out; simp; omega
            intro v8 w8 h8 g8 _ hat
            have G := (HR7.out.fr (Fr.reads S1 ((Below.refl _ w7).alloc (Nat.le_refl _) (.cells #[.int .i64 1] 3)))).grows (HK7.out.reads ((Below.refl _ w7).alloc (Nat.le_refl _) _)) (HF7.out.reads ((Below.refl _ w7).alloc (Nat.le_refl _) _)) (ys := rowF bu pe (c + 1)) (by
              rw [rowF_len, rowF, if_pos hh]
              exact h8) g8 (by simpa using hat)
            have HG := Lib.hid G
            clear G h8 g8 hat HOWN HI HZ0 HZ1 HZ2 HW7 HR7 HK7 HF7
            obtain ⟨g, cap, hv8, hcell⟩ := row_cells HG.out.1.own (by rw [rowF_len]; omega)
            rw [rowF_len] at hv8
            have hcell2 : ∀ j, j < c + 1 → w8.cell? ⟨g, j, none⟩ = some (.int .i64 (if j % pe < bu then 1 else 0)) := fun j hj => hcell j _ (rowF_get bu pe (c + 1) j hj)
            have HCELL := Lib.hid hcell2
            clear hcell hcell2
            subst hv8
            go_wp2_with fail
            have hcp : cnt bu pe (c + 1) ≤ 301 := by have := cnt_mono bu pe 0 0 (Nat.le_refl _); have := cnt_le bu pe (c + 1); have := HC.out; omega
            have HCP := Lib.hid hcp
            clear hcp
            go_loopw [20, 21] (fun s x wr => ∃ y n : Nat, x = .int .i64 ((y : Int) - 1) ∧ y ≤ c + 1 ∧ c + 1 ≤ y + pe ∧ s = .int .i64 n ∧ n + cnt bu pe y = cnt bu pe (c + 1) ∧ wr = w8) (fun _ x _ => (intOf x + 1).toNat)
            case atStart => exact ⟨c + 1, 0, by go_num, by omega, by omega, rfl, by omega, rfl⟩
            case round =>
              obtain ⟨y, n, rfl, hy1, hy2, rfl, hn, rfl⟩ := hrel
              have hc301 := HC.out
              have hn301 : n ≤ 301 := by have := HCP.out; omega
              by_cases hgo : 1 ≤ y ∧ c + 1 < y + pe
              · obtain ⟨g1, g2⟩ := hgo
                obtain ⟨z, rfl⟩ : ∃ z, y = z + 1 := ⟨y - 1, by omega⟩
                rw [show ((z + 1 : Nat) : Int) - 1 = (z : Int) by omega]
                have cz := HCELL.out z (by omega)
                have z0 : (0 : Int) ≤ z := by omega
                have z1 : (c : Int) - pe < z := by omega
                have z2 : (z : Int) < ((c + 1 : Nat) : Int) := by omega
                have z3 : (z : Int) ≤ 301 := by omega
                by_cases hz : z % pe < bu
                · rw [if_pos hz] at cz
                  rw [cnt, if_pos hz] at hn
                  have HN := Lib.hid hn
                  clear hn hz hc301 g1 g2
                  go_wp2_with fail
                  go_roundw
                  case rel => exact ⟨z, n + 1, by go_num, by omega, by omega, by go_num, by have := HN.out; omega, trivial⟩
                  case measure => first | (simp [intOf]; done) | (simp [intOf]; omega)
                · rw [if_neg hz] at cz
                  rw [cnt, if_neg hz] at hn
                  have HN := Lib.hid hn
                  clear hn hz hc301 g1 g2
                  go_wp2_with fail
                  go_roundw
                  case rel => exact ⟨z, n, by go_num, by omega, by omega, by go_num, by have := HN.out; omega, trivial⟩
                  case measure => first | (simp [intOf]; done) | (simp [intOf]; omega)
              · have hbn : (n : Int) ≤ bu := by have := cnt_window bu pe p0 (c + 1) y hy1 hy2; omega
                have hx : (y : Int) - 1 < 0 ∨ (0 ≤ (y : Int) - 1 ∧ (y : Int) - 1 ≤ (c : Int) - pe) := by omega
                obtain ⟨x, hxe⟩ : ∃ x, x = (y : Int) - 1 := ⟨_, rfl⟩
                rw [← hxe] at hx ⊢
                have hxl : -1 ≤ x ∧ x ≤ 301 := by omega
                obtain ⟨hxl1, hxl2⟩ := hxl
                clear hgo hn hy1 hy2 hxe hc301
                have RUN := sps_run HAB.out (b := bu) (P := pe) (c := c) (sb := 100 + 20 * c + 1) (lb := 100 + 4 * c) (by have := HC.out; omega) (by have := HC.out; omega)
                have TICK := sps_tick HAB.out (b := bu) (P := pe) (c := c) (sb := 100 + 20 * c + 1 + 1) (lb := 100 + 4 * c + 1) b0 p0 p1 (by have := HC.out; omega) (by have := HC.out; omega) (by have := HC.out; omega)
                have HRUN := Lib.hid RUN
                have HTICK := Lib.hid TICK
                clear RUN TICK
                have fin : ∀ S10 w10, SomS B bu pe (c + 1) (100 + 20 * c + 1 + 1 + 8) (100 + 4 * c + 1 + 1) S10 → KW w10 S10 → Fr S1 S10 wr w10 → SpTick w B bu pe (c + 1) (.slice (some ⟨g, 0, none⟩) (c + 1) cap) w10 := fun S10 w10 h1 h2 h3 => ⟨S10, h1.more (by omega) (by omega), h2, HG.out.1.fr h3, HG.out.2.2.fr h3⟩
                have HFIN := Lib.hid fin
                have HKr := Lib.hid HG.out.2.1
                clear fin
                rcases hx with hx | ⟨hx, hx2⟩
                all_goals
                  go_wp2_with (first
                    | (go_at_call 14; refine (Run_c _).mono ?_; rintro e wa ⟨rfl, ba⟩; have HKa := Lib.hid (HKr.out.reads ba); have HFa := Lib.hid (Fr.reads S1 ba); clear ba)
                    | (go_at_call 13; refine (HRUN.out wa S1 HS1.out HKa.out).mono ?_; rintro e wb ⟨Sb, rfl, hAb, kb, fb⟩; have HAb := Lib.hid hAb; have HKb := Lib.hid kb; have HFb := Lib.hid (HFa.out.trans fb); clear hAb kb fb HRUN)
                    | (go_at_call 17; refine (Tick_c _).mono ?_; rintro e wc ⟨rfl, bc⟩; have HKc := Lib.hid (HKb.out.reads bc); have HFc := Lib.hid (HFb.out.trans (Fr.reads Sb bc)); clear bc)
                    | (go_at_call 13; refine (HTICK.out wc Sb HAb.out HKc.out).mono ?_; rintro e wd ⟨Sd, rfl, hAd, kd, fd⟩; have HT := Lib.hid (HFIN.out Sd wd hAd kd (HFc.out.trans fd)); clear hAd kd fd HTICK))
                all_goals (
                  go_roundw
                  case rel => first | ((iterate 80 apply Exists.intro); refine And.intro ?_ rfl; exact ⟨c + 1, by go_num, by go_num, HT.out⟩) | ((iterate 81 apply Exists.intro); refine And.intro ?_ rfl; exact ⟨c + 1, by go_num, by go_num, HT.out⟩) | ((iterate 82 apply Exists.intro); refine And.intro ?_ rfl; exact ⟨c + 1, by go_num, by go_num, HT.out⟩) | ((iterate 83 apply Exists.intro); refine And.intro ?_ rfl; exact ⟨c + 1, by go_num, by go_num, HT.out⟩) | ((iterate 84 apply Exists.intro); refine And.intro ?_ rfl; exact ⟨c + 1, by go_num, by go_num, HT.out⟩) | ((iterate 85 apply Exists.intro); refine And.intro ?_ rfl; exact ⟨c + 1, by go_num, by go_num, HT.out⟩) | ((iterate 86 apply Exists.intro); refine And.intro ?_ rfl; exact ⟨c + 1, by go_num, by go_num, HT.out⟩) | ((iterate 87 apply Exists.intro); refine And.intro ?_ rfl; exact ⟨c + 1, by go_num, by go_num, HT.out⟩) | ((iterate 88 apply Exists.intro); refine And.intro ?_ rfl; exact ⟨c + 1, by go_num, by go_num, HT.out⟩) | ((iterate 89 apply Exists.intro); refine And.intro ?_ rfl; exact ⟨c + 1, by go_num, by go_num, HT.out⟩) | ((iterate 90 apply Exists.intro); refine And.intro ?_ rfl; exact ⟨c + 1, by go_num, by go_num, HT.out⟩) | ((iterate 91 apply Exists.intro); refine And.intro ?_ rfl; exact ⟨c + 1, by go_num, by go_num, HT.out⟩)
                  case measure => first | (simp [intOf]; done) | (simp [intOf]; omega))
          · rw [if_neg hh] at RU
            go_upto_region 23 with (go_at_call 16; refine RU.mono ?_; rintro e w5 ⟨rfl, k5, f5⟩; have HK5 := Lib.hid k5; have HF5 := Lib.hid (HF.out.fr f5); have HR5 := Lib.hid (HR.out.fr f5); clear k5 f5 RU)
            obtain ⟨th1, pr, TC⟩ := sp_thread HS1.out w5 HK5.out 10 (by rw [if_neg hh]; rfl)
            go_upto_region 24 with (first
              | (go_at_call 20; refine TC.mono ?_; rintro e w6 ⟨rfl, b6⟩; have HB6 := Lib.hid b6; clear b6 TC)
              | (refine store_whole rfl 63 (.tmp 17) (.tmp 111) rfl w6.heap.size _ (thE th1 pr 10) rfl rfl (n := 24) rfl (thE_one th1 pr 10) (heap_alloc_new w6 _) rfl info63 ?_; intro w7 U7; have HU7 := Lib.hid U7; clear U7))
            have b7 := HB6.out.trans (((Below.refl w6.heap.size w6).alloc (Nat.le_refl _) _).trans (HU7.out.below (B := w6.heap.size) (Nat.le_refl _) (by simp)) |>.mono HB6.out.size)
            have c5 : w7.cell? ⟨w6.heap.size, 5, none⟩ = some (.int .i64 10) := has_cell 5 HU7.out.1 rfl
            have HK7 := Lib.hid (HK5.out.reads b7)
            have HF7 := Lib.hid (HF5.out.reads b7)
            have HR7 := Lib.hid (HR5.out.fr (Fr.reads S1 b7))
            clear b7 HU7 HB6 HK5 HF5 HR5
            go_upto_region 29 with fail
            clear c5
            have own : w7.ownsRow w.heap.size 3 1 u13 c (rowF bu pe c) := by
              have q := HR7.out.own
              rwa [rowF_len] at q
            have HOWN := Lib.hid own
            have hw : w.heap.size ≤ w7.heap.size := HF7.out.1.size
            obtain ⟨i3, hi, hz0, hz1, hz2⟩ := info_parts info3
            have HI := Lib.hid hi
            have HZ0 := Lib.hid hz0
            have HZ1 := Lib.hid hz1
            have HZ2 := Lib.hid hz2
            have HW7 := Lib.hid hw
            clear own hi hz0 hz1 hz2 hw
            go_upto_region 30 with (at_builtin; refine wpList_append_own_at _ rfl _ _ 22 rfl w.heap.size 3 i3 (.int .i64 0) 1 8 Tryz.underlying22 HI.out HZ0.out HZ1.out HZ2.out rfl (by decide) _ c (rowF bu pe c) rfl (World.ownsRow.alloc HOWN.out _) ⟨w7.heap.size, 0, none⟩ 1 1 [.int .i64 0] rfl rfl (by exact World.news_of_block (heap_alloc_new w7 (.cells #[.int .i64 0] 3))) (by intro u hu; simp at hu; subst hu; rfl) ?h63 ?hby ?hbase ?_)
            case h63 => have := HC.out; simp only [maxLen]; omega
            case hby => have := HC.out; omega
            case hbase => have := HW7.out; simp; omega
            intro v8 w8 h8 g8 _ hat
            have G := (HR7.out.fr (Fr.reads S1 ((Below.refl _ w7).alloc (Nat.le_refl _) (.cells #[.int .i64 0] 3)))).grows (HK7.out.reads ((Below.refl _ w7).alloc (Nat.le_refl _) _)) (HF7.out.reads ((Below.refl _ w7).alloc (Nat.le_refl _) _)) (ys := rowF bu pe (c + 1)) (by
              rw [rowF_len, rowF, if_neg hh]
              exact h8) g8 (by simpa using hat)
            have HG := Lib.hid G
            clear G h8 g8 hat HOWN HI HZ0 HZ1 HZ2 HW7 HR7 HK7 HF7
            obtain ⟨g, cap, hv8, hcell⟩ := row_cells HG.out.1.own (by rw [rowF_len]; omega)
            rw [rowF_len] at hv8
            have hcell2 : ∀ j, j < c + 1 → w8.cell? ⟨g, j, none⟩ = some (.int .i64 (if j % pe < bu then 1 else 0)) := fun j hj => hcell j _ (rowF_get bu pe (c + 1) j hj)
            have HCELL := Lib.hid hcell2
            clear hcell hcell2
            subst hv8
            go_wp2_with fail
            have hcp : cnt bu pe (c + 1) ≤ 301 := by have := cnt_mono bu pe 0 0 (Nat.le_refl _); have := cnt_le bu pe (c + 1); have := HC.out; omega
            have HCP := Lib.hid hcp
            clear hcp
            go_loopw [20, 21] (fun s x wr => ∃ y n : Nat, x = .int .i64 ((y : Int) - 1) ∧ y ≤ c + 1 ∧ c + 1 ≤ y + pe ∧ s = .int .i64 n ∧ n + cnt bu pe y = cnt bu pe (c + 1) ∧ wr = w8) (fun _ x _ => (intOf x + 1).toNat)
            case atStart => exact ⟨c + 1, 0, by go_num, by omega, by omega, rfl, by omega, rfl⟩
            case round =>
              obtain ⟨y, n, rfl, hy1, hy2, rfl, hn, rfl⟩ := hrel
              have hc301 := HC.out
              have hn301 : n ≤ 301 := by have := HCP.out; omega
              by_cases hgo : 1 ≤ y ∧ c + 1 < y + pe
              · obtain ⟨g1, g2⟩ := hgo
                obtain ⟨z, rfl⟩ : ∃ z, y = z + 1 := ⟨y - 1, by omega⟩
                rw [show ((z + 1 : Nat) : Int) - 1 = (z : Int) by omega]
                have cz := HCELL.out z (by omega)
                have z0 : (0 : Int) ≤ z := by omega
                have z1 : (c : Int) - pe < z := by omega
                have z2 : (z : Int) < ((c + 1 : Nat) : Int) := by omega
                have z3 : (z : Int) ≤ 301 := by omega
                by_cases hz : z % pe < bu
                · rw [if_pos hz] at cz
                  rw [cnt, if_pos hz] at hn
                  have HN := Lib.hid hn
                  clear hn hz hc301 g1 g2
                  go_wp2_with fail
                  go_roundw
                  case rel => exact ⟨z, n + 1, by go_num, by omega, by omega, by go_num, by have := HN.out; omega, trivial⟩
                  case measure => first | (simp [intOf]; done) | (simp [intOf]; omega)
                · rw [if_neg hz] at cz
                  rw [cnt, if_neg hz] at hn
                  have HN := Lib.hid hn
                  clear hn hz hc301 g1 g2
                  go_wp2_with fail
                  go_roundw
                  case rel => exact ⟨z, n, by go_num, by omega, by omega, by go_num, by have := HN.out; omega, trivial⟩
                  case measure => first | (simp [intOf]; done) | (simp [intOf]; omega)
              · have hbn : (n : Int) ≤ bu := by have := cnt_window bu pe p0 (c + 1) y hy1 hy2; omega
                have hx : (y : Int) - 1 < 0 ∨ (0 ≤ (y : Int) - 1 ∧ (y : Int) - 1 ≤ (c : Int) - pe) := by omega
                obtain ⟨x, hxe⟩ : ∃ x, x = (y : Int) - 1 := ⟨_, rfl⟩
                rw [← hxe] at hx ⊢
                have hxl : -1 ≤ x ∧ x ≤ 301 := by omega
                obtain ⟨hxl1, hxl2⟩ := hxl
                clear hgo hn hy1 hy2 hxe hc301
                have RUN := sps_run HAB.out (b := bu) (P := pe) (c := c) (sb := 100 + 20 * c + 1) (lb := 100 + 4 * c) (by have := HC.out; omega) (by have := HC.out; omega)
                have TICK := sps_tick HAB.out (b := bu) (P := pe) (c := c) (sb := 100 + 20 * c + 1 + 1) (lb := 100 + 4 * c + 1) b0 p0 p1 (by have := HC.out; omega) (by have := HC.out; omega) (by have := HC.out; omega)
                have HRUN := Lib.hid RUN
                have HTICK := Lib.hid TICK
                clear RUN TICK
                have fin : ∀ S10 w10, SomS B bu pe (c + 1) (100 + 20 * c + 1 + 1 + 8) (100 + 4 * c + 1 + 1) S10 → KW w10 S10 → Fr S1 S10 wr w10 → SpTick w B bu pe (c + 1) (.slice (some ⟨g, 0, none⟩) (c + 1) cap) w10 := fun S10 w10 h1 h2 h3 => ⟨S10, h1.more (by omega) (by omega), h2, HG.out.1.fr h3, HG.out.2.2.fr h3⟩
                have HFIN := Lib.hid fin
                have HKr := Lib.hid HG.out.2.1
                clear fin
                rcases hx with hx | ⟨hx, hx2⟩
                all_goals
                  go_wp2_with (first
                    | (go_at_call 14; refine (Run_c _).mono ?_; rintro e wa ⟨rfl, ba⟩; have HKa := Lib.hid (HKr.out.reads ba); have HFa := Lib.hid (Fr.reads S1 ba); clear ba)
                    | (go_at_call 13; refine (HRUN.out wa S1 HS1.out HKa.out).mono ?_; rintro e wb ⟨Sb, rfl, hAb, kb, fb⟩; have HAb := Lib.hid hAb; have HKb := Lib.hid kb; have HFb := Lib.hid (HFa.out.trans fb); clear hAb kb fb HRUN)
                    | (go_at_call 17; refine (Tick_c _).mono ?_; rintro e wc ⟨rfl, bc⟩; have HKc := Lib.hid (HKb.out.reads bc); have HFc := Lib.hid (HFb.out.trans (Fr.reads Sb bc)); clear bc)
                    | (go_at_call 13; refine (HTICK.out wc Sb HAb.out HKc.out).mono ?_; rintro e wd ⟨Sd, rfl, hAd, kd, fd⟩; have HT := Lib.hid (HFIN.out Sd wd hAd kd (HFc.out.trans fd)); clear hAd kd fd HTICK))
                all_goals (
                  go_roundw
                  case rel => first | ((iterate 80 apply Exists.intro); refine And.intro ?_ rfl; exact ⟨c + 1, by go_num, by go_num, HT.out⟩) | ((iterate 81 apply Exists.intro); refine And.intro ?_ rfl; exact ⟨c + 1, by go_num, by go_num, HT.out⟩) | ((iterate 82 apply Exists.intro); refine And.intro ?_ rfl; exact ⟨c + 1, by go_num, by go_num, HT.out⟩) | ((iterate 83 apply Exists.intro); refine And.intro ?_ rfl; exact ⟨c + 1, by go_num, by go_num, HT.out⟩) | ((iterate 84 apply Exists.intro); refine And.intro ?_ rfl; exact ⟨c + 1, by go_num, by go_num, HT.out⟩) | ((iterate 85 apply Exists.intro); refine And.intro ?_ rfl; exact ⟨c + 1, by go_num, by go_num, HT.out⟩) | ((iterate 86 apply Exists.intro); refine And.intro ?_ rfl; exact ⟨c + 1, by go_num, by go_num, HT.out⟩) | ((iterate 87 apply Exists.intro); refine And.intro ?_ rfl; exact ⟨c + 1, by go_num, by go_num, HT.out⟩) | ((iterate 88 apply Exists.intro); refine And.intro ?_ rfl; exact ⟨c + 1, by go_num, by go_num, HT.out⟩) | ((iterate 89 apply Exists.intro); refine And.intro ?_ rfl; exact ⟨c + 1, by go_num, by go_num, HT.out⟩) | ((iterate 90 apply Exists.intro); refine And.intro ?_ rfl; exact ⟨c + 1, by go_num, by go_num, HT.out⟩) | ((iterate 91 apply Exists.intro); refine And.intro ?_ rfl; exact ⟨c + 1, by go_num, by go_num, HT.out⟩)
                  case measure => first | (simp [intOf]; done) | (simp [intOf]; omega))
        · obtain rfl : (c : Int) = tk := by omega
          go_wp2_with (go_at_call 7; refine (alive_7 _).mono ?_; rintro e w9 ⟨rfl, b9⟩; have HB9 := Lib.hid b9; clear b9)
          go_ret
          exact ⟨rfl, HF.out.1.trans (HB9.out.mono HF.out.1.size)⟩
set_option maxHeartbeats 1000000 in
set_option maxRecDepth 100000 in
theorem spor_out (w : World) (n q tk : Int) (h : n < 1 ∨ n > 50 ∨ q < n ∨ q > 100 ∨ tk < 0 ∨ tk > 300) : Calls Tryz.prog 6 #[.int .i64 n, .int .i64 q, .int .i64 tk] w fun e w' => e = .returned (.bool true) ∧ Below w.heap.size w w' := by
  go_enter Tryz.func6, Tryz.ntmps6
  go_upto_region 2 with fail
  all_goals first
    | (exfalso; omega)
    | (go_wp2_with (go_at_call 7; refine (alive_7 _).mono ?_; rintro e w9 ⟨rfl, b9⟩)
       go_ret
       exact ⟨rfl, by assumption⟩)
theorem spor_claim (w : World) (n q tk : Int) : Calls Tryz.prog 6 #[.int .i64 n, .int .i64 q, .int .i64 tk] w fun e w' => e = .returned (.bool true) ∧ Below w.heap.size w w' := by
  by_cases h : n < 1 ∨ n > 50 ∨ q < n ∨ q > 100 ∨ tk < 0 ∨ tk > 300
  · exact spor_out w n q tk h
  · obtain ⟨m, rfl⟩ : ∃ m : Nat, n = m := ⟨n.toNat, by omega⟩
    obtain ⟨k, rfl⟩ : ∃ k : Nat, q = k := ⟨q.toNat, by omega⟩
    exact spor_walk w m k tk (by omega) (by omega) (by omega) (by omega) (by omega) (by omega)
end Go.Proofs.YtagmlijhgncklaaGreatDoor.Ker
