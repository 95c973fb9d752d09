/-
  The kernel runs (run): a thread that is behind its program's last instruction comes to its end, over the translation of this seat. Conditions: the blocks that are named hold what is said.
-/
import Derived.Test.YtagmlijhgncklaaGreatDoorP29
set_option linter.unusedVariables false
namespace Go.Proofs.YtagmlijhgncklaaGreatDoor.Ker
open Go.RowKit Go.Proofs.YtagmlijhgncklaaGreatDoor

set_option maxRecDepth 100000 in
set_option maxHeartbeats 2000000 in
theorem run_past (w : World) (S : KS) {B : KB} (hB : S.B = B) (h : KW w S) (P : KP S) (p : Nat) (t : Th) (Rn : Running S p t) (x : Code.Prg) (n : Nat) (hx : S.B.J.PS[n]? = some x) (hpr : t.prog = n) (k : Nat) (hpc : t.pc = k) (hi : k = x.L.length)
    (Q : KS → Prop) (A : ∀ W, KW W { S with st := S.st + 1 } → Calls Tryz.prog 77 #[.pointer (some ⟨B.kb, 0, none⟩), .pointer (some ⟨t.b, 0, none⟩)] W fun e w' => ∃ Sf, e = .returned (.tuple #[]) ∧ Q Sf ∧ KW w' Sf ∧ Fr { S with st := S.st + 1 } Sf W w') :
    Calls Tryz.prog 44 #[.pointer (some ⟨B.kb, 0, none⟩)] w fun e w' => ∃ Sf, e = .returned (.tuple #[]) ∧ Q Sf ∧ KW w' Sf ∧ Fr S Sf w w' := by
  subst hB
  obtain ⟨i, hi0⟩ : ∃ i : Code.Ins, i = Code.Ins.none := ⟨_, rfl⟩
  have hop : i.op = 0 := by rw [hi0]; rfl
  have hp := Rn.p16
  have c26 := kc26 h rfl
  have AR := turns_runs w S.B.tb S.B.rb S.B.J.q S.L S.R S.st (h.tn P.L P.R) Rn.b1 Rn.b2 Rn.sm Rn.s0 (by have := Rn.s1; omega)
  rw [Rn.first] at AR
  obtain ⟨S1, hS1⟩ : ∃ S1 : KS, S1 = { S with st := S.st + 1 } := ⟨_, rfl⟩
  rw [← hS1] at A
  have hB1 : S1.B = S.B := by rw [hS1]
  have ht1 : S1.th p = some t := by rw [hS1]; exact Rn.th
  have K1 : ∀ W, Upd w S.B.rb (rdO S.R (S.st + 1)) W → KW W S1 ∧ Fr S S1 w W := fun W u => by rw [hS1]; exact h.rdy u
  have P1 : KP S1 := by rw [hS1]; exact { P with }
  have tp1 : S1.tp p = some ⟨t.b, 0, none⟩ := by rw [P1.tp p hp, ht1]; rfl
  have ACT : ∀ W, KW W S1 → Calls Tryz.prog 72 #[.pointer (some ⟨t.c, 0, none⟩), .bool false] W fun e w' => e = .returned (.bool false) ∧ W = w' := fun W hW => by
    have q := Can.acts_c W t.c t.can false (hW.getCan hp ht1) (by rw [P1.can p t ht1]; decide)
    rw [show Can.actsF t.can false = false by simp [Can.actsF, Rn.ak]] at q
    exact q
  have OP : ∀ W, KW W S1 → Calls Tryz.prog 74 #[.pointer (some ⟨S.B.kb, 0, none⟩), .pointer (some ⟨t.b, 0, none⟩)] W fun e w' => e = .returned (.int .u32 0) ∧ Below W.heap.size W w' := fun W hW => open_c W S1 hB1 hW P1 p t hp (by rw [hB1]; exact Rn.pn) ht1
  have AT : ∀ W, KW W S1 → Calls Tryz.prog 76 #[.slice (some ⟨x.p, 0, none⟩) x.L.length x.cap, .int .i64 k] W fun e w' => e = .returned (.agg #[.int .i64 i.op, .int .i64 i.d, .int .i64 i.a, .int .i64 i.b, .int .i64 i.imm]) ∧ Below W.heap.size W w' := fun W hW => by rw [hi, hi0]; exact Code.at_end W x.p x.L.length x.cap
  have PC : ∀ W, KW W S1 → W.cell? ⟨S.B.J.b, n, none⟩ = some (.slice (some ⟨x.p, 0, none⟩) x.L.length x.cap) := fun W hW => by
    have q := (hW.pgs P1).cell n x (by rw [hB1]; exact hx)
    rw [hB1] at q
    exact q
  have TC : ∀ W, KW W S1 → W.cell? ⟨t.b, 2, none⟩ = some (.int .i64 n) ∧ W.cell? ⟨t.b, 3, none⟩ = some (.int .i64 k) := fun W hW => by
    have hT := hW.getTh hp ht1
    exact ⟨by rw [← hpr]; exact tc2 hT, by rw [← hpc]; exact tc3 hT⟩
  have hn : n < S.B.J.PS.length := (List.getElem?_eq_some_iff.1 hx).1
  have i0 : (0 : Int) ≤ p := by omega
  have i1 : (p : Int) < 16 := by omega
  have n0 : (0 : Int) ≤ n := by omega
  have n1 : (n : Int) < (S.B.J.PS.length : Int) := by omega
  have HB1 := Lib.hid hB1
  have HT1 := Lib.hid ht1
  have HTP := Lib.hid tp1
  have HOP := Lib.hid hop
  clear h P Rn hS1 hB1 ht1 P1 tp1 hx hpr hpc hi hi0 hn hop
  go_enter Tryz.func44, Tryz.ntmps44
  go_upto_region 8 with (first
    | (go_at_call 48; refine AR.mono ?_; rintro e w1 ⟨rfl, _, u1⟩; obtain ⟨k1, f1⟩ := K1 w1 u1
       have ct := k1.tpc hp
       rw [HB1.out, HTP.out] at ct
       have c32 := tc32 (k1.getTh hp HT1.out)
       have HK1 := Lib.hid k1; have HF1 := Lib.hid f1; clear u1 k1 f1 AR K1)
    | (go_at_call 72; refine (ACT _ HK1.out).mono ?_; rintro e w' ⟨rfl, rfl⟩)
    | (go_at_call 74; refine (OP _ HK1.out).mono ?_; rintro e w2 ⟨rfl, b2⟩; have HK2 := Lib.hid (HK1.out.reads b2); have HF2 := Lib.hid (HF1.out.trans (Fr.reads _ b2)); clear b2))
  have HK2d := Lib.hid (HK2.out.keeps (w' := w2.drew) (Nat.le_refl _) (fun _ _ _ => rfl))
  have HKA : RowKit.Hid (∀ o, KW (w2.alloc o).drew S1) := Lib.hid (fun o => (HK2.out.reads ((Below.refl w2.heap.size w2).alloc (Nat.le_refl _) o)).keeps (w' := (w2.alloc o).drew) (Nat.le_refl _) (fun _ _ _ => rfl))
  have HC : ∀ W, KW W S1 → W.cell? ⟨S.B.kb, 6, none⟩ = some (.slice (some ⟨S.B.J.b, 0, none⟩) S.B.J.PS.length S.B.J.cap) ∧ W.cell? ⟨S.B.J.b, n, none⟩ = some (.slice (some ⟨x.p, 0, none⟩) x.L.length x.cap) ∧ W.cell? ⟨t.b, 2, none⟩ = some (.int .i64 n) ∧ W.cell? ⟨t.b, 3, none⟩ = some (.int .i64 k) := fun W hW => ⟨kc6 (B := S.B) hW HB1.out, PC W hW, TC W hW⟩
  have hC0 := HC _ HK2d.out
  have hCA := fun o => HC _ (HKA.out o)
  go_region_held3 (fun W' => W'.cell? ⟨S.B.kb, 6, none⟩ = some (.slice (some ⟨S.B.J.b, 0, none⟩) S.B.J.PS.length S.B.J.cap) ∧ W'.cell? ⟨S.B.J.b, n, none⟩ = some (.slice (some ⟨x.p, 0, none⟩) x.L.length x.cap) ∧ W'.cell? ⟨t.b, 2, none⟩ = some (.int .i64 n) ∧ W'.cell? ⟨t.b, 3, none⟩ = some (.int .i64 k))
    (first | (with_reducible exact hC0) | (with_reducible exact hCA _) | (with_reducible exact hC3) | (with_reducible exact hCA3 _) | (with_reducible assumption))
    (first
      | (go_at_call 76; refine (AT _ HK2d.out).mono ?_; rintro e w3 ⟨rfl, b3⟩; have k3 := HK2d.out.reads b3; have hC3 := HC _ k3; have hCA3 := fun o => HC _ (k3.reads ((Below.refl w3.heap.size w3).alloc (Nat.le_refl _) o)))
      | (go_at_call 76; refine (AT _ (HKA.out _)).mono ?_; rintro e w3 ⟨rfl, b3⟩; have k3 := (HKA.out _).reads b3
         have x6 : w3.heap[w2.heap.size]? = some (.cells #[.int .i64 0, .int .i64 0, .int .i64 0, .int .i64 0, .int .i64 0] 29 (0, 0)) := below_has b3 (heap_alloc_new w2 _)
         have y0 : w3.cell? ⟨w2.heap.size, 0, none⟩ = some (.int .i64 0) := has_cell 0 x6 rfl
         have y1 : w3.cell? ⟨w2.heap.size, 1, none⟩ = some (.int .i64 0) := has_cell 1 x6 rfl
         have y2 : w3.cell? ⟨w2.heap.size, 2, none⟩ = some (.int .i64 0) := has_cell 2 x6 rfl
         have y3 : w3.cell? ⟨w2.heap.size, 3, none⟩ = some (.int .i64 0) := has_cell 3 x6 rfl
         have y4 : w3.cell? ⟨w2.heap.size, 4, none⟩ = some (.int .i64 0) := has_cell 4 x6 rfl
         have yf := has_free x6
         have hC3 := HC _ k3
         have lb : S1.lo.lab w2.heap.size = 0 := HK2.out.fresh _ (Nat.le_refl _)
         have ks := ((((k3.outside (i := 0) (v := .int .i64 i.op) lb).outside (i := 1) (v := .int .i64 i.d) lb).outside (i := 2) (v := .int .i64 i.a) lb).outside (i := 3) (v := .int .i64 i.b) lb).outside (i := 4) (v := .int .i64 i.imm) lb
         have hC5 := HC _ ks))
  all_goals go_upto_region 9 with fail
  · have Q9 := at9_new (i := i) k3 HF2.out b3
    obtain ⟨z, hz⟩ : ∃ z, z = w3.heap.size := ⟨_, rfl⟩
    rw [← hz] at Q9 ⊢
    refine world_wp (fun W => At9 w W S S1 z i) Q9 ?_
    clear Q9 hz k3 b3 hC3 hCA3 hC0 hCA HC PC TC AT OP ACT HKA HK2d HK2 HF2 HK1 HF1
    rintro W Q9
    have c0 : W.cell? ⟨z, 0, none⟩ = some (.int .i64 i.op) := has_cell 0 Q9.z.1 rfl
    rw [HOP.out] at c0
    have H9 := Lib.hid Q9
    clear Q9
    go_wp2_with (go_at_call 77; refine (A _ H9.out.k).mono ?_; rintro e w5 ⟨Sf, rfl, q, k5, f5⟩)
    exact bodyPost_end (results_none rfl _ _ _) rfl ⟨Sf, rfl, q, k5, H9.out.f.trans f5⟩
  · have Q9 := at9_old (i := i) HK2.out k3 HF2.out b3 x6
    obtain ⟨z, hz⟩ : ∃ z, z = w2.heap.size := ⟨_, rfl⟩
    rw [← hz] at Q9 ⊢
    refine world_wp (fun W => At9 w W S S1 z i) Q9 ?_
    clear Q9 hz hC5 ks lb hC3 yf y4 y3 y2 y1 y0 x6 k3 b3 hC0 hCA HC PC TC AT OP ACT HKA HK2d HK2 HF2 HK1 HF1
    rintro W Q9
    have c0 : W.cell? ⟨z, 0, none⟩ = some (.int .i64 i.op) := has_cell 0 Q9.z.1 rfl
    rw [HOP.out] at c0
    have H9 := Lib.hid Q9
    clear Q9
    go_wp2_with (go_at_call 77; refine (A _ H9.out.k).mono ?_; rintro e w5 ⟨Sf, rfl, q, k5, f5⟩)
    exact bodyPost_end (results_none rfl _ _ _) rfl ⟨Sf, rfl, q, k5, H9.out.f.trans f5⟩
end Go.Proofs.YtagmlijhgncklaaGreatDoor.Ker
