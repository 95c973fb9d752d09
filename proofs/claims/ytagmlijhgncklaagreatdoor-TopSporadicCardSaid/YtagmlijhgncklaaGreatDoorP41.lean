/-
  What is shown of a thread (Thread), over the translation of this seat. Conditions: the blocks that are named hold what is said; the thread has not ended.
-/
import Derived.Test.YtagmlijhgncklaaGreatDoorP25
import Derived.Test.YtagmlijhgncklaaGreatDoorP40
import Derived.BigQuiet
set_option linter.unusedVariables false
namespace Go.Proofs.YtagmlijhgncklaaGreatDoor.Ker
open Go.RowKit Go.Proofs.YtagmlijhgncklaaGreatDoor

def thV (t : Th) (pr : Int) : Array Value := #[.int .i64 t.hd, .bool true, .bool false, .int .i64 0, .int .i64 pr, .int .i64 t.eff, .int .i64 t.pol, .int .i64 t.prog, .int .i64 t.pc, .int .i64 (t.r 0), .int .i64 (t.r 1), .int .i64 (t.r 2), .int .i64 (t.r 3), .int .i64 (t.r 4), .int .i64 (t.r 5), .int .i64 (t.r 6), .int .i64 (t.r 7), .int .i64 0, .int .i64 t.wt.kind, .int .i64 t.wt.on, .int .u32 0, .int .u32 0, .bool t.jn, .bool t.can.un]
set_option maxRecDepth 100000 in
set_option maxHeartbeats 4000000 in
theorem Thread_c (w : World) (S : KS) {B : KB} (hB : S.B = B) (h : KW w S) (P : KP S) (p : Nat) (t : Th) (hp : p < 16) (ht : S.th p = some t) (hen : t.en = false) (pr : Int) (A : ∀ W, KW W S → Calls Tryz.prog 49 #[.pointer (some ⟨t.b, 0, none⟩)] W fun e w' => e = .returned (.int .i64 pr) ∧ Below W.heap.size W w') :
    Calls Tryz.prog 20 #[.pointer (some ⟨B.kb, 0, none⟩), .int .i64 p] w fun e w' => e = .returned (.tuple #[.agg (thV t pr), .bool true]) ∧ Below w.heap.size w w' := by
  subst hB
  have HK := Lib.hid h
  have ct := h.tpc hp
  have htp : S.tp p = some ⟨t.b, 0, none⟩ := by rw [P.tp p hp, ht]; rfl
  rw [htp] at ct
  have i0 : (0 : Int) ≤ p := by omega
  have i1 : (p : Int) < 16 := by omega
  have pn := P.thn p t ht
  have hpn : (p : Int) < S.B.J.t := by rw [P.n]; omega
  have T := fun W (hW : KW W S) => there_c W S rfl hW
  have hT := h.getTh hp ht
  have c20 := tc20 hT
  rw [hen] at c20
  clear h
  go_enter Tryz.func20, Tryz.ntmps20
  go_upto_region 1 with fail
  refine world_wp (fun W => Below w.heap.size w W ∧ W.heap[w.heap.size]? = some (.cells #[.int .i64 0, .bool false, .bool false, .int .i64 0, .int .i64 0, .int .i64 0, .int .i64 0, .int .i64 0, .int .i64 0, .int .i64 0, .int .i64 0, .int .i64 0, .int .i64 0, .int .i64 0, .int .i64 0, .int .i64 0, .int .i64 0, .int .i64 0, .int .i64 0, .int .i64 0, .int .u32 0, .int .u32 0, .bool false, .bool false] 63 (0, 0))) ⟨(Below.refl _ _).alloc (Nat.le_refl _) _, heap_alloc_new w _⟩ ?_
  obtain ⟨z, hz⟩ : ∃ z, z = w.heap.size := ⟨_, rfl⟩
  rw [← hz]
  rintro W ⟨b0, x0⟩
  have kW := HK.out.reads (by rw [← hz]; exact b0)
  have ct := kW.tpc hp
  rw [htp] at ct
  have hT := kW.getTh hp ht
  have c20 := tc20 hT
  rw [hen] at c20
  have TW := T W kW
  have HKW := Lib.hid kW
  have HX0 := Lib.hid x0
  have HX1 : RowKit.Hid (w.heap.size ≤ z) := Lib.hid (by rw [hz]; exact Nat.le_refl _)
  have HB0 : RowKit.Hid (Below w.heap.size w W) := Lib.hid (by rw [← hz]; exact b0)
  have HZ := Lib.hid hz
  have HLAB : RowKit.Hid (S.lo.lab z = 0) := Lib.hid (HK.out.fresh z (by rw [hz]; exact Nat.le_refl _))
  clear T HK b0 x0 hz kW htp
  go_wp2_with (go_at_call 43; refine TW.mono ?_; rintro e w' ⟨rfl, rfl⟩)
  have FC : ∀ V, KW V S → V.cell? ⟨t.b, 1, none⟩ = some (.int .i64 t.hd) ∧ V.cell? ⟨t.b, 17, none⟩ = some (.int .i64 t.eff) ∧ V.cell? ⟨t.b, 12, none⟩ = some (.int .i64 t.pol) ∧ V.cell? ⟨t.b, 2, none⟩ = some (.int .i64 t.prog) ∧ V.cell? ⟨t.b, 3, none⟩ = some (.int .i64 t.pc)
      ∧ V.cell? ⟨t.b, 4, none⟩ = some (.int .i64 (t.r 0)) ∧ V.cell? ⟨t.b, 5, none⟩ = some (.int .i64 (t.r 1)) ∧ V.cell? ⟨t.b, 6, none⟩ = some (.int .i64 (t.r 2)) ∧ V.cell? ⟨t.b, 7, none⟩ = some (.int .i64 (t.r 3)) ∧ V.cell? ⟨t.b, 8, none⟩ = some (.int .i64 (t.r 4)) ∧ V.cell? ⟨t.b, 9, none⟩ = some (.int .i64 (t.r 5)) ∧ V.cell? ⟨t.b, 10, none⟩ = some (.int .i64 (t.r 6)) ∧ V.cell? ⟨t.b, 11, none⟩ = some (.int .i64 (t.r 7))
      ∧ V.cell? ⟨t.b, 22, none⟩ = some (.slice none 0 0) ∧ V.cell? ⟨t.b, 23, none⟩ = some (.int .i64 t.wt.kind) ∧ V.cell? ⟨t.b, 24, none⟩ = some (.int .i64 t.wt.on) ∧ V.cell? ⟨t.b, 18, none⟩ = some (.bool t.jn) ∧ V.cell? ⟨t.b, 32, none⟩ = some (.pointer (some ⟨t.c, 0, none⟩)) ∧ V.cell? ⟨S.B.kb, 30, none⟩ = some (.pointer (some ⟨S.B.sg, 0, none⟩)) := fun V k => by
    have x := k.getTh hp ht
    exact ⟨tc1 x, tc17 x, tc12 x, tc2 x, tc3 x, tc4 x, tc5 x, tc6 x, tc7 x, tc8 x, tc9 x, tc10 x, tc11 x, tc22 x, tc23 x, tc24 x, tc18 x, tc32 x, kc30 k rfl⟩
  have MA := fun V (k : KW V S) => mask_c V S.B.sg S.B.mb p S.B.J.t S.B.J.s (k.has 7 rfl) hp hpn
  have PE := fun V (k : KW V S) => pend_c V S.B.sg S.B.mb p S.B.J.t S.B.J.s (k.has 7 rfl) hp hpn
  have UN := fun V (k : KW V S) => Can.unwinds_c V t.c t.can (k.getCan hp ht) (by rw [P.can p t ht]; decide)
  obtain ⟨g0, g1, g2, g3, g4, g5, g6, g7, g8, g9, g10, g11, g12, g13, g14, g15, g16, g17, g18⟩ := FC W HKW.out
  have f0 : ∀ d os, (Go.Sort.grow (redrawn W d) os).cell? ⟨t.b, 1, none⟩ = some (.int .i64 t.hd) := fun d os => cell_regrown g0 d os
  have f1 : ∀ d os, (Go.Sort.grow (redrawn W d) os).cell? ⟨t.b, 17, none⟩ = some (.int .i64 t.eff) := fun d os => cell_regrown g1 d os
  have f2 : ∀ d os, (Go.Sort.grow (redrawn W d) os).cell? ⟨t.b, 12, none⟩ = some (.int .i64 t.pol) := fun d os => cell_regrown g2 d os
  have f3 : ∀ d os, (Go.Sort.grow (redrawn W d) os).cell? ⟨t.b, 2, none⟩ = some (.int .i64 t.prog) := fun d os => cell_regrown g3 d os
  have f4 : ∀ d os, (Go.Sort.grow (redrawn W d) os).cell? ⟨t.b, 3, none⟩ = some (.int .i64 t.pc) := fun d os => cell_regrown g4 d os
  have f5 : ∀ d os, (Go.Sort.grow (redrawn W d) os).cell? ⟨t.b, 4, none⟩ = some (.int .i64 (t.r 0)) := fun d os => cell_regrown g5 d os
  have f6 : ∀ d os, (Go.Sort.grow (redrawn W d) os).cell? ⟨t.b, 5, none⟩ = some (.int .i64 (t.r 1)) := fun d os => cell_regrown g6 d os
  have f7 : ∀ d os, (Go.Sort.grow (redrawn W d) os).cell? ⟨t.b, 6, none⟩ = some (.int .i64 (t.r 2)) := fun d os => cell_regrown g7 d os
  have f8 : ∀ d os, (Go.Sort.grow (redrawn W d) os).cell? ⟨t.b, 7, none⟩ = some (.int .i64 (t.r 3)) := fun d os => cell_regrown g8 d os
  have f9 : ∀ d os, (Go.Sort.grow (redrawn W d) os).cell? ⟨t.b, 8, none⟩ = some (.int .i64 (t.r 4)) := fun d os => cell_regrown g9 d os
  have f10 : ∀ d os, (Go.Sort.grow (redrawn W d) os).cell? ⟨t.b, 9, none⟩ = some (.int .i64 (t.r 5)) := fun d os => cell_regrown g10 d os
  have f11 : ∀ d os, (Go.Sort.grow (redrawn W d) os).cell? ⟨t.b, 10, none⟩ = some (.int .i64 (t.r 6)) := fun d os => cell_regrown g11 d os
  have f12 : ∀ d os, (Go.Sort.grow (redrawn W d) os).cell? ⟨t.b, 11, none⟩ = some (.int .i64 (t.r 7)) := fun d os => cell_regrown g12 d os
  have f13 : ∀ d os, (Go.Sort.grow (redrawn W d) os).cell? ⟨t.b, 22, none⟩ = some (.slice none 0 0) := fun d os => cell_regrown g13 d os
  have f14 : ∀ d os, (Go.Sort.grow (redrawn W d) os).cell? ⟨t.b, 23, none⟩ = some (.int .i64 t.wt.kind) := fun d os => cell_regrown g14 d os
  have f15 : ∀ d os, (Go.Sort.grow (redrawn W d) os).cell? ⟨t.b, 24, none⟩ = some (.int .i64 t.wt.on) := fun d os => cell_regrown g15 d os
  have f16 : ∀ d os, (Go.Sort.grow (redrawn W d) os).cell? ⟨t.b, 18, none⟩ = some (.bool t.jn) := fun d os => cell_regrown g16 d os
  have f17 : ∀ d os, (Go.Sort.grow (redrawn W d) os).cell? ⟨t.b, 32, none⟩ = some (.pointer (some ⟨t.c, 0, none⟩)) := fun d os => cell_regrown g17 d os
  have f18 : ∀ d os, (Go.Sort.grow (redrawn W d) os).cell? ⟨S.B.kb, 30, none⟩ = some (.pointer (some ⟨S.B.sg, 0, none⟩)) := fun d os => cell_regrown g18 d os
  have KR : ∀ d os, KW (Go.Sort.grow (redrawn W d) os) S := fun d os => HKW.out.reads (below_regrown W d os)
  have A49 : ∀ d os, Calls Tryz.prog 49 #[.pointer (some ⟨t.b, 0, none⟩)] (Go.Sort.grow (redrawn W d) os) fun e w'' => e = .returned (.int .i64 pr) ∧ ∃ p : Regrown, w'' = Go.Sort.grow (redrawn W p.d) p.os := fun d os => Calls.regrown_of (A _ (KR d os))
  have A50 : ∀ d os, Calls Tryz.prog 50 #[.pointer (some ⟨S.B.sg, 0, none⟩), .int .i64 p] (Go.Sort.grow (redrawn W d) os) fun e w'' => e = .returned (.int .u32 0) ∧ ∃ p : Regrown, w'' = Go.Sort.grow (redrawn W p.d) p.os := fun d os => Calls.regrown_of ((MA _ (KR d os)).mono fun _ _ ⟨h1, h2⟩ => ⟨h1, h2 ▸ Below.refl _ _⟩)
  have A51 : ∀ d os, Calls Tryz.prog 51 #[.pointer (some ⟨S.B.sg, 0, none⟩), .int .i64 p] (Go.Sort.grow (redrawn W d) os) fun e w'' => e = .returned (.int .u32 0) ∧ ∃ p : Regrown, w'' = Go.Sort.grow (redrawn W p.d) p.os := fun d os => Calls.regrown_of ((PE _ (KR d os)).mono fun _ _ ⟨h1, h2⟩ => ⟨h1, h2 ▸ Below.refl _ _⟩)
  have A52 : ∀ d os, Calls Tryz.prog 52 #[.pointer (some ⟨t.c, 0, none⟩)] (Go.Sort.grow (redrawn W d) os) fun e w'' => e = .returned (.bool t.can.un) ∧ ∃ p : Regrown, w'' = Go.Sort.grow (redrawn W p.d) p.os := fun d os => Calls.regrown_of ((UN _ (KR d os)).mono fun _ _ ⟨h1, h2⟩ => ⟨h1, h2 ▸ Below.refl _ _⟩)
  clear g0 g1 g2 g3 g4 g5 g6 g7 g8 g9 g10 g11 g12 g13 g14 g15 g16 g17 g18 ct hT c20 TW MA PE UN FC A KR
  have H49 := Lib.hid A49
  have H50 := Lib.hid A50
  have H51 := Lib.hid A51
  have H52 := Lib.hid A52
  clear A49 A50 A51 A52
  refine quiet_tail_below 63 (by kernel_rfl) (by kernel_rfl) ?_
  simp only [List.append_eq, List.cons_append, List.nil_append, List.take_succ_cons, List.take_zero, List.drop_succ_cons, List.drop_zero]
  repeat (quiet_step (first | exact H49.out _ _ | exact H50.out _ _ | exact H51.out _ _ | exact H52.out _ _))
  refine wpQuiet_nil ?_
  rintro _ ⟨⟨dq, osq⟩, rfl⟩
  have b2 := below_regrown W dq osq
  obtain ⟨W2, hW2⟩ : ∃ W2, W2 = Go.Sort.grow (redrawn W dq) osq := ⟨_, rfl⟩
  rw [← hW2] at b2 ⊢
  have x2 := below_has b2 HX0.out
  refine store_whole rfl 63 (.tmp 4) (.tmp 109) rfl z _ (thV t pr).toList rfl rfl (n := 24) rfl ?_ x2 rfl (by kernel_rfl) ?_
  · intro v hv
    simp only [thV, List.mem_cons, List.mem_nil_iff, or_false] at hv
    rcases hv with rfl | rfl | rfl | rfl | rfl | rfl | rfl | rfl | rfl | rfl | rfl | rfl | rfl | rfl | rfl | rfl | rfl | rfl | rfl | rfl | rfl | rfl | rfl | rfl <;> rfl
  intro W3 U3
  simp only [Act.put]
  go_wp2_with fail
  have hload := run_loadVar_mid (P := Tryz.prog) W3 z 0 63 _ _ (has_range U3.1 (thV t pr).toList 0 (by intro j _; rw [Nat.zero_add]; simp)) Tryz.underlying63 rfl (by kernel_rfl)
  refine bodyPost_ret (v := .tuple #[.agg (thV t pr), .bool true]) ?_ rfl ⟨rfl, ?_⟩
  · simp [results, Tryz.f20, hload, asAddr, Act.put]
  · exact HB0.out.trans ((b2.mono HB0.out.size).trans (U3.below HX1.out (Nat.le_trans HB0.out.size b2.size)))
end Go.Proofs.YtagmlijhgncklaaGreatDoor.Ker
