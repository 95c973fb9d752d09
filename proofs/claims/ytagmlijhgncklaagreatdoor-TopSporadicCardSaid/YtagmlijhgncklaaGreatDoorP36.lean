/-
  A server that ends being active (stop), over the translation of this seat. Conditions: the blocks that are named hold what is said.
-/
import Derived.Test.YtagmlijhgncklaaGreatDoorP35
set_option linter.unusedVariables false
namespace Go.Proofs.YtagmlijhgncklaaGreatDoor.Spo
open Go.RowKit Go.Proofs.YtagmlijhgncklaaGreatDoor

theorem stop_to {w w' w2 : World} {b g cap : Nat} {s : Sv} {x : Int × Int} (h : w.heap[b]? = some (svO s)) (hp : PcW w s) (ha : Apart b s) (q5 : w.grownBy w' s.pv.ownBlock)
    (q1 : w'.ownsRow 0 348 2 (.slice (some ⟨g, 0, none⟩) (s.ps.length + 1) cap) (s.ps.length + 1) (pcC s.ps ++ [.int .i64 x.1, .int .i64 x.2])) (q3 : s.pv.ownBlock = some g ∨ ∃ o, g = (w.alloc o).heap.size)
    (U : Upd w' b (svO { s with ac := false, si := 0, us := 0, pv := .slice (some ⟨g, 0, none⟩) (s.ps.length + 1) cap, ps := s.ps ++ [x] }) w2) :
    SvTo w b s { s with ac := false, si := 0, us := 0, pv := .slice (some ⟨g, 0, none⟩) (s.ps.length + 1) cap, ps := s.ps ++ [x] } w2 := by
  have hbw := has_lt h
  have gb : g ≠ b := by
    rcases q3 with e | e
    · intro q; subst q; exact ha e
    · obtain ⟨o, rfl⟩ := e; rw [World.size_alloc]; omega
  refine ⟨U.2.os.trans q5.os, U.2.tape.trans q5.tape, U.2.output.trans q5.output, Nat.le_trans q5.size U.2.size, U.1, ?_, fun k hk hkb hkp => ?_, ?_⟩
  · show w2.ownsRow 0 348 2 _ (s.ps ++ [x]).length (pcC (s.ps ++ [x]))
    have e : pcC (s.ps ++ [x]) = pcC s.ps ++ [.int .i64 x.1, .int .i64 x.2] := by unfold pcC; rw [List.flatMap_append]; rfl
    rw [e, List.length_append]
    exact Ker.owns_kept q1 fun k hk => by
      cases hk
      exact U.2.block g (Ker.owns_lt q1 rfl) (by intro q; cases q; exact gb rfl)
  · exact (U.2.block k (Nat.lt_of_lt_of_le hk q5.size) (by intro q; cases q; exact hkb rfl)).trans (q5.block k hk hkp.symm)
  · rcases q3 with e | e
    · left; exact e.symm
    · right; intro k hk; obtain ⟨o, rfl⟩ := e; cases hk; show w.heap.size ≤ (w.alloc o).heap.size; rw [World.size_alloc]; omega
set_option maxHeartbeats 40000000 in
set_option maxRecDepth 100000 in
/-- Being active ends; what was used comes back. -/
theorem stop_used (w : World) (b : Nat) (s : Sv) (h : w.heap[b]? = some (svO s)) (hp : PcW w s) (ha : Apart b s) (hl : s.ps.length < 100) (hu : 0 < s.us) (h0 : 0 ≤ s.si) (h1 : s.si ≤ 1099511627776) (p0 : 0 < s.pe) (p1 : s.pe ≤ 1099511627776) :
    Calls Tryz.prog 152 #[.pointer (some ⟨b, 0, none⟩), .int .i64 0] w fun e w' => ∃ pv, e = .returned (.tuple #[]) ∧ SvTo w b s { s with ac := false, si := 0, us := 0, pv := pv, ps := s.ps ++ [(s.si + s.pe, s.us)] } w' := by
  have c4 : w.cell? ⟨b, 4, none⟩ = some (.bool s.ac) := has_cell 4 h rfl
  have c1 : w.cell? ⟨b, 1, none⟩ = some (.int .i64 s.pe) := has_cell 1 h rfl
  have c5 : w.cell? ⟨b, 5, none⟩ = some (.int .i64 s.si) := has_cell 5 h rfl
  have c6 : w.cell? ⟨b, 6, none⟩ = some (.int .i64 s.us) := has_cell 6 h rfl
  have c7 : w.cell? ⟨b, 7, none⟩ = some s.pv := has_cell 7 h rfl
  have fz := has_free h
  obtain ⟨i0, hi, hz0, hz1, hz2⟩ := info_parts info348
  have HI := Lib.hid hi
  have HZ0 := Lib.hid hz0
  have HZ1 := Lib.hid hz1
  have HZ2 := Lib.hid hz2
  have HH := Lib.hid h
  have HP := Lib.hid hp
  have HA := Lib.hid ha
  have HL := Lib.hid hl
  have hbk : b < w.heap.size := has_lt h
  have hw1 : IntKind.i64.wrap (s.si + s.pe) = s.si + s.pe := IntWalk.i64_in _ (by omega)
  have mx : max 0 (s.si + s.pe) = s.si + s.pe := by omega
  have HOW := Lib.hid (fun (W : World) (o : Obj) (m : PcW W s) => World.ownsRow.alloc m o)
  clear h hp ha hl hi hz0 hz1 hz2
  go_enter Tryz.func152, Tryz.ntmps152
  go_wp2_with fail
  go_region_law (first
    | (refine step_append_lies _ rfl (.tmp 13) (.tmp 30) 342 rfl 0 348 i0 _ 2 16 Tryz.underlying342 HI.out HZ0.out HZ1.out HZ2.out rfl (by decide) s.pv s.ps.length (pcC s.ps) rfl (by exact Ker.owns_kept HP.out fun k hk => Below.heap_alloc w _ k (pc_lt HP.out hk)) ⟨w.heap.size, 0, none⟩ 1 1 [.int .i64 (s.si + s.pe), .int .i64 s.us] rfl rfl (by exact World.news_of_block (heap_alloc_new w (.cells #[.int .i64 (s.si + s.pe), .int .i64 s.us] 348))) (by intro u hu; simp at hu; rcases hu with rfl | rfl <;> rfl) (by decide) (by have := HL.out; simp only [maxLen]; omega) (by have := HL.out; omega) (Nat.zero_le _) _ rfl ?_
       intro g cap w' q1 q2 q3 q4
       have q5 : w.grownBy w' s.pv.ownBlock := Ker.grown_alloc ⟨q2.os, q2.tape, q2.output, q2.size, q2.block⟩
       have y : ∀ i v, w.cell? ⟨b, i, none⟩ = some v → w'.cell? ⟨b, i, none⟩ = some v := fun i v hv => (World.cell?_of_block (q5.block b hbk (fun e => HA.out e.symm))).trans hv
       have yf : ∀ i, w'.frozen? ⟨b, i, none⟩ = false := fun i => (World.frozen?_of_block (q5.block b hbk (fun e => HA.out e.symm))).trans (fz i)
       have y7 := y 7 _ c7
       have y4 := y 4 _ c4
       have y5 := y 5 _ c5
       have y6 := y 6 _ c6
       have hh : w'.heap[b]? = some (svO s) := (q5.block b hbk (fun e => HA.out e.symm)).trans HH.out
       have HQ1 := Lib.hid q1; have HQ5 := Lib.hid q5; have HQ3 := Lib.hid q3; have HQ4 := Lib.hid q4; have HHH := Lib.hid hh
       clear q1 q2 q3 q4 q5 hh y))
  all_goals go_wp2_with fail
  all_goals
    refine bodyPost_end (results_none rfl _ _ _) rfl ?_
    have U := ((((Upd.refl HHH.out).setCell 7 (.slice (some ⟨g, 0, none⟩) (s.ps.length + 1) cap)).setCell 4 (.bool false)).setCell 5 (.int .i64 0)).setCell 6 (.int .i64 0)
    refine ⟨.slice (some ⟨g, 0, none⟩) (s.ps.length + 1) cap, rfl, ?_⟩
    refine stop_to HH.out HP.out HA.out HQ5.out HQ1.out (HQ3.out.imp id fun e => ⟨_, e⟩) ?_
    exact U.to (by rfl)
end Go.Proofs.YtagmlijhgncklaaGreatDoor.Spo
