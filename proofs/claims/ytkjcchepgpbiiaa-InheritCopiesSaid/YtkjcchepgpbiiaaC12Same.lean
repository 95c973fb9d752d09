/- Same of a graph, over the translation of this seat. Conditions: the blocks that are named hold what is said. -/
import Derived.Test.YtkjcchepgpbiiaaC12Copy
namespace Go.Proofs.Ytkjcchepgpbiiaa
open Go.RowKit

set_option maxHeartbeats 6000000 in
theorem gsame_c (w : World) (b b' : Nat) (s s' : Gs) (h : w.heap[b]? = some (gO s)) (ok : GOk s) (h' : w.heap[b']? = some (gO s')) (ok' : GOk s') {z : Bool} (hz : sameG s s' = z) :
    Calls Try.prog 20 #[.pointer (some ⟨b, 0, none⟩), .pointer (some ⟨b', 0, none⟩)] w fun e w' => e = .returned (.bool z) ∧ Below w.heap.size w w' := by
  have T1 := Lib.hid (is_c w b s h ok)
  have T2 := Lib.hid (is_c w b' s' h' ok')
  obtain ⟨r1, r2, r3⟩ := g_ranges h
  obtain ⟨q1, q2, q3⟩ := g_ranges h'
  have c := (g_cells h).1
  have c' := (g_cells h').1
  have e1 := fun w => run_eqI s.ba s'.ba w
  have e2 := fun w => run_eqI s.ce s'.ce w
  have e3 := fun w => run_eqI (fun i => s.wt i + 1) (fun i => s'.wt i + 1) w
  unfold sameG at hz
  generalize eqI s.ba s'.ba = y1 at e1 hz
  generalize eqI s.ce s'.ce = y2 at e2 hz
  generalize eqI (fun i => s.wt i + 1) (fun i => s'.wt i + 1) = y3 at e3 hz
  have hl : ∀ f : Nat → Int, (Try.prog.info? 50).map (·.size) = some (rowI f 16).length := fun f => by rw [rowI_length]; kernel_rfl
  obtain ⟨l1, z1, g1⟩ : ∃ l, l = rowI s.ba 16 ∧ (Try.prog.info? 50).map (·.size) = some l.length := ⟨_, rfl, hl _⟩
  obtain ⟨l2, z2, g2⟩ : ∃ l, l = rowI s'.ba 16 ∧ (Try.prog.info? 50).map (·.size) = some l.length := ⟨_, rfl, hl _⟩
  obtain ⟨l3, z3, g3⟩ : ∃ l, l = rowI s.ce 16 ∧ (Try.prog.info? 50).map (·.size) = some l.length := ⟨_, rfl, hl _⟩
  obtain ⟨l4, z4, g4⟩ : ∃ l, l = rowI s'.ce 16 ∧ (Try.prog.info? 50).map (·.size) = some l.length := ⟨_, rfl, hl _⟩
  obtain ⟨l5, z5, g5⟩ : ∃ l, l = rowI (fun i => s.wt i + 1) 16 ∧ (Try.prog.info? 50).map (·.size) = some l.length := ⟨_, rfl, hl _⟩
  obtain ⟨l6, z6, g6⟩ : ∃ l, l = rowI (fun i => s'.wt i + 1) 16 ∧ (Try.prog.info? 50).map (·.size) = some l.length := ⟨_, rfl, hl _⟩
  rw [← z1] at r1 e1
  rw [← z2] at q1 e1
  rw [← z3] at r2 e2
  rw [← z4] at q2 e2
  rw [← z5] at r3 e3
  rw [← z6] at q3 e3
  have G1 := Lib.hid g1
  have G2 := Lib.hid g2
  have G3 := Lib.hid g3
  have G4 := Lib.hid g4
  have G5 := Lib.hid g5
  have G6 := Lib.hid g6
  have R1 := Lib.hid r1
  have R2 := Lib.hid r2
  have R3 := Lib.hid r3
  have Q1 := Lib.hid q1
  have Q2 := Lib.hid q2
  have Q3 := Lib.hid q3
  have E1 := Lib.hid e1
  have E2 := Lib.hid e2
  have E3 := Lib.hid e3
  clear h h' hl z1 z2 z3 z4 z5 z6 g1 g2 g3 g4 g5 g6 r1 r2 r3 q1 q2 q3 e1 e2 e3
  by_cases hn : s.n = s'.n
  · rw [hn] at c
    cases y1 with
    | false =>
      simp [hn] at hz
      subst hz
      clear hn
      go_enter Try.func20, Try.ntmps20
      go_wp2_with (go_at_call 24; first | ((with_reducible refine T1.out.mono ?_); rintro e w' ⟨rfl, rfl⟩) | ((with_reducible refine T2.out.mono ?_); rintro e w' ⟨rfl, rfl⟩))
      refine wp_region_quiet_lit (by kernel_rfl) (by kernel_rfl) ?_
      iterate 13 go_big_quiet_step (fail)
      refine BigFrame.wpQuiet_want rfl (fun K hK => quiet_load_mid 50 (.tmp 30) rfl b 1 rfl l1 _ R1.out Try.underlying50 rfl G1.out ?_)
      refine hK _ ?_
      clear hK K
      simp only [Act.put, List.setIfInBounds_toArray, List.set_cons_succ, List.set_cons_zero]
      iterate 3 go_big_quiet_step (fail)
      refine BigFrame.wpQuiet_want rfl (fun K hK => quiet_load_mid 50 (.tmp 34) rfl b' 1 rfl l2 _ Q1.out Try.underlying50 rfl G2.out ?_)
      refine hK _ ?_
      clear hK K
      simp only [Act.put, List.setIfInBounds_toArray, List.set_cons_succ, List.set_cons_zero]
      have ee := E1.out
      go_big_quiet_step (fail)
      clear ee
      repeat go_big_quiet_step (fail)
      refine wpQuiet_nil ?_
      rintro _ ⟨nq, rfl⟩
      go_wp2_with fail
      go_ret
      exact ⟨rfl, below_drewN (Below.refl _ _) _⟩
    | true =>
      cases y2 with
      | false =>
        simp [hn] at hz
        subst hz
        clear hn
        go_enter Try.func20, Try.ntmps20
        go_wp2_with (go_at_call 24; first | ((with_reducible refine T1.out.mono ?_); rintro e w' ⟨rfl, rfl⟩) | ((with_reducible refine T2.out.mono ?_); rintro e w' ⟨rfl, rfl⟩))
        refine wp_region_quiet_lit (by kernel_rfl) (by kernel_rfl) ?_
        iterate 13 go_big_quiet_step (fail)
        refine BigFrame.wpQuiet_want rfl (fun K hK => quiet_load_mid 50 (.tmp 30) rfl b 1 rfl l1 _ R1.out Try.underlying50 rfl G1.out ?_)
        refine hK _ ?_
        clear hK K
        simp only [Act.put, List.setIfInBounds_toArray, List.set_cons_succ, List.set_cons_zero]
        iterate 3 go_big_quiet_step (fail)
        refine BigFrame.wpQuiet_want rfl (fun K hK => quiet_load_mid 50 (.tmp 34) rfl b' 1 rfl l2 _ Q1.out Try.underlying50 rfl G2.out ?_)
        refine hK _ ?_
        clear hK K
        simp only [Act.put, List.setIfInBounds_toArray, List.set_cons_succ, List.set_cons_zero]
        have ee := E1.out
        go_big_quiet_step (fail)
        clear ee
        iterate 5 go_big_quiet_step (fail)
        refine BigFrame.wpQuiet_want rfl (fun K hK => quiet_load_mid 50 (.tmp 41) rfl b 17 rfl l3 _ R2.out Try.underlying50 rfl G3.out ?_)
        refine hK _ ?_
        clear hK K
        simp only [Act.put, List.setIfInBounds_toArray, List.set_cons_succ, List.set_cons_zero]
        iterate 3 go_big_quiet_step (fail)
        refine BigFrame.wpQuiet_want rfl (fun K hK => quiet_load_mid 50 (.tmp 45) rfl b' 17 rfl l4 _ Q2.out Try.underlying50 rfl G4.out ?_)
        refine hK _ ?_
        clear hK K
        simp only [Act.put, List.setIfInBounds_toArray, List.set_cons_succ, List.set_cons_zero]
        have ee := E2.out
        go_big_quiet_step (fail)
        clear ee
        repeat go_big_quiet_step (fail)
        refine wpQuiet_nil ?_
        rintro _ ⟨nq, rfl⟩
        go_wp2_with fail
        go_ret
        exact ⟨rfl, below_drewN (Below.refl _ _) _⟩
      | true =>
        simp [hn] at hz
        subst hz
        clear hn
        go_enter Try.func20, Try.ntmps20
        go_wp2_with (go_at_call 24; first | ((with_reducible refine T1.out.mono ?_); rintro e w' ⟨rfl, rfl⟩) | ((with_reducible refine T2.out.mono ?_); rintro e w' ⟨rfl, rfl⟩))
        refine wp_region_quiet_lit (by kernel_rfl) (by kernel_rfl) ?_
        iterate 13 go_big_quiet_step (fail)
        refine BigFrame.wpQuiet_want rfl (fun K hK => quiet_load_mid 50 (.tmp 30) rfl b 1 rfl l1 _ R1.out Try.underlying50 rfl G1.out ?_)
        refine hK _ ?_
        clear hK K
        simp only [Act.put, List.setIfInBounds_toArray, List.set_cons_succ, List.set_cons_zero]
        iterate 3 go_big_quiet_step (fail)
        refine BigFrame.wpQuiet_want rfl (fun K hK => quiet_load_mid 50 (.tmp 34) rfl b' 1 rfl l2 _ Q1.out Try.underlying50 rfl G2.out ?_)
        refine hK _ ?_
        clear hK K
        simp only [Act.put, List.setIfInBounds_toArray, List.set_cons_succ, List.set_cons_zero]
        have ee := E1.out
        go_big_quiet_step (fail)
        clear ee
        iterate 5 go_big_quiet_step (fail)
        refine BigFrame.wpQuiet_want rfl (fun K hK => quiet_load_mid 50 (.tmp 41) rfl b 17 rfl l3 _ R2.out Try.underlying50 rfl G3.out ?_)
        refine hK _ ?_
        clear hK K
        simp only [Act.put, List.setIfInBounds_toArray, List.set_cons_succ, List.set_cons_zero]
        iterate 3 go_big_quiet_step (fail)
        refine BigFrame.wpQuiet_want rfl (fun K hK => quiet_load_mid 50 (.tmp 45) rfl b' 17 rfl l4 _ Q2.out Try.underlying50 rfl G4.out ?_)
        refine hK _ ?_
        clear hK K
        simp only [Act.put, List.setIfInBounds_toArray, List.set_cons_succ, List.set_cons_zero]
        have ee := E2.out
        go_big_quiet_step (fail)
        clear ee
        iterate 5 go_big_quiet_step (fail)
        refine BigFrame.wpQuiet_want rfl (fun K hK => quiet_load_mid 50 (.tmp 52) rfl b 33 rfl l5 _ R3.out Try.underlying50 rfl G5.out ?_)
        refine hK _ ?_
        clear hK K
        simp only [Act.put, List.setIfInBounds_toArray, List.set_cons_succ, List.set_cons_zero]
        iterate 3 go_big_quiet_step (fail)
        refine BigFrame.wpQuiet_want rfl (fun K hK => quiet_load_mid 50 (.tmp 56) rfl b' 33 rfl l6 _ Q3.out Try.underlying50 rfl G6.out ?_)
        refine hK _ ?_
        clear hK K
        simp only [Act.put, List.setIfInBounds_toArray, List.set_cons_succ, List.set_cons_zero]
        have ee := E3.out
        go_big_quiet_step (fail)
        clear ee
        repeat go_big_quiet_step (fail)
        refine wpQuiet_nil ?_
        rintro _ ⟨nq, rfl⟩
        go_wp2_with fail
        go_ret
        exact ⟨rfl, below_drewN (Below.refl _ _) _⟩
  · have hne : ((s.n : Int) == (s'.n : Int)) = false := by rw [beq_eq_false_iff_ne]; omega
    simp [hn] at hz
    subst hz
    clear hn
    go_enter Try.func20, Try.ntmps20
    go_wp2_with (go_at_call 24; first | ((with_reducible refine T1.out.mono ?_); rintro e w' ⟨rfl, rfl⟩) | ((with_reducible refine T2.out.mono ?_); rintro e w' ⟨rfl, rfl⟩))
    go_quiet (fail)
    go_wp2_with fail
    go_ret
    exact ⟨rfl, below_drewN (Below.refl _ _) _⟩
end Go.Proofs.Ytkjcchepgpbiiaa
