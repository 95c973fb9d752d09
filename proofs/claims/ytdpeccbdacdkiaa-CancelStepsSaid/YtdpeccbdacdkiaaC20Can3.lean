/- Pop, Copy, Same of a cancellation, over the translation of this seat. Conditions: the blocks that are named hold what is said. -/
import Derived.Test.YtdpeccbdacdkiaaC20Can2
namespace Go.Proofs.Ytdpeccbdacdkiaa
open Go.RowKit

theorem at_last (M : List (Int × Int)) (p v : Int) : at0 (M ++ [(p, v)]) M.length = p ∧ at1 (M ++ [(p, v)]) M.length = v := by simp [at0, at1]
theorem keep_alloc {w : World} {o : Obj} {b i : Nat} {v : Value} (h : w.cell? ⟨b, i, none⟩ = some v) : (w.alloc o).cell? ⟨b, i, none⟩ = some v :=
  (((Below.refl w.heap.size w).alloc (Nat.le_refl _) o).cell (p := ⟨b, i, none⟩) (World.block_lt_of_cell? w ⟨b, i, none⟩ h)).trans h
theorem pop_c (w : World) (b : Nat) (s : Cs) (M : List (Int × Int)) (p v : Int) (h : w.heap[b]? = some (canO s)) (hl8 : s.L.length ≤ 8) (hM : s.L = M ++ [(p, v)]) :
    Calls Try.prog 18 #[.pointer (some ⟨b, 0, none⟩)] w fun e w' => e = .returned (.tuple #[.agg #[.int .i64 p, .int .i64 v], .int .i64 0]) ∧ Upd w b (canO { s with L := M }) w' := by
  have hp := can_pop p v hM hl8
  have hcz := canC_length hl8
  have hat := at_last M p v
  rw [← hM] at hat
  have hlen : s.L.length = M.length + 1 := by rw [hM]; simp
  obtain ⟨n, hn⟩ : ∃ n, n = M.length := ⟨_, rfl⟩
  rw [← hn] at hat hlen hp
  have n8 : n < 8 := by omega
  have hni : (n : Int) < 8 := by omega
  have hne : ((n : Int) + 1 == 0) = false := by rw [beq_eq_false_iff_ne]; omega
  have hwr : IntKind.i64.wrap ((n : Int) + 1 - 1) = (n : Int) := by rw [Int.add_sub_cancel]; exact IntWalk.i64_in _ (by omega)
  have H := Lib.hid h
  have HL := Lib.hid hl8
  have HP := Lib.hid hp
  have HA := Lib.hid hat
  have HN := Lib.hid hlen
  have HZ := Lib.hid hcz
  clear hn h hl8 hM hp hat hlen hcz
  go_enter Try.func18, Try.ntmps18
  go_upto_region 1 with fail
  refine world_wp (fun W => Below w.heap.size w W ∧ W.heap[w.heap.size]? = some (.cells #[.int .i64 0, .int .i64 0] 30 (0, 0)) ∧ w.heap.size < W.heap.size) ⟨(Below.refl _ _).alloc (Nat.le_refl _) _, heap_alloc_new _ _, by simp⟩ ?_
  rintro W ⟨hB, hX, hsz⟩
  have hC := below_has hB H.out
  have hbw := has_lt H.out
  obtain ⟨c0, c1, c2, c3, c4, c5⟩ := can_flags hC HL.out
  rw [HN.out] at c5
  have c6 : W.cell? ⟨b, 21, none⟩ = some (.int .i64 ((n : Int) + 1)) := c5
  have fz := has_free hC
  clear c5
  go_upto_region 6 with (go_at_call 32; refine (there_c _ _ _ hC HL.out).mono ?_; rintro e w' ⟨rfl, rfl⟩)
  have hrow := can_at HL.out n8
  refine upd_wp ((Upd.refl hC).setCell 21 (.int .i64 (n : Nat))) ?_
  intro W1 u1
  have hC1 := u1.1
  have hX1 := u1.other hX (by omega)
  have a21 := has_cell 21 hC1 (v := .int .i64 (n : Nat)) (by simp [HZ.out])
  have a0 := has_cell (5 + n * 2) hC1 (v := .int .i64 p) (by rw [Array.getElem?_setIfInBounds_ne (by omega), List.getElem?_toArray, hrow.1, HA.out.1])
  have a1 := has_cell (5 + n * 2 + 1) hC1 (v := .int .i64 v) (by rw [Array.getElem?_setIfInBounds_ne (by omega), List.getElem?_toArray, hrow.2, HA.out.2])
  clear c0 c1 c2 c3 c4 c6 fz hrow
  go_region_held3 (fun W' => W'.cell? ⟨b, 21, none⟩ = some (.int .i64 (n : Nat)) ∧ W'.cell? ⟨b, 5 + n * 2, none⟩ = some (.int .i64 p) ∧ W'.cell? ⟨b, 5 + n * 2 + 1, none⟩ = some (.int .i64 v)) (first | exact ⟨a21, a0, a1⟩ | exact ⟨keep_alloc a21, keep_alloc a0, keep_alloc a1⟩) (first | fail)
  go_upto_region 7 with fail
  refine world_wp (fun W2 => Below W1.heap.size W1 W2 ∧ W2.heap[W1.heap.size]? = some (.cells #[.int .i64 p, .int .i64 v] 30 (0, 0))) ⟨below_drewN ((Below.refl _ _).alloc (Nat.le_refl _) _) 1, heap_alloc_new _ _⟩ ?_
  rintro W2 ⟨hB2, hT⟩
  have hC2 := below_has hB2 hC1
  have hX2 := below_has hB2 hX1
  have hz := u1.size
  have a21 := has_cell 21 hC2 (v := .int .i64 (n : Nat)) (by simp [HZ.out])
  have a0 := has_cell (5 + n * 2) hC2 (v := .int .i64 p) (by rw [Array.getElem?_setIfInBounds_ne (by omega), List.getElem?_toArray, (can_at HL.out n8).1, HA.out.1])
  have a1 := has_cell (5 + n * 2 + 1) hC2 (v := .int .i64 v) (by rw [Array.getElem?_setIfInBounds_ne (by omega), List.getElem?_toArray, (can_at HL.out n8).2, HA.out.2])
  have fz := has_free hC2
  refine still_tail 9 (by kernel_rfl) (by kernel_rfl) ?_
  simp only [List.take_succ_cons, List.take_zero, List.drop_succ_cons, List.drop_zero]
  repeat still_step
  refine wpStill_nil ?_
  go_upto_region 8 with fail
  refine world_wp (fun W3 => Upd W2 b (canO { s with L := M }) W3) ((((Upd.refl hC2).setCell (5 + n * 2) (.int .i64 0)).setCell (5 + n * 2 + 1) (.int .i64 0)).drew.to (by rw [HP.out, canO])) ?_
  intro W3 u3
  have hT3 := u3.other hT (by omega)
  have hX3 := u3.other hX2 (by omega)
  have t0 := has_cell 0 hT3 rfl
  have t1 := has_cell 1 hT3 rfl
  have x0 := has_cell 0 hX3 rfl
  have x1 := has_cell 1 hX3 rfl
  have fx := has_free hX3
  have hX4 := (((Upd.refl hX3).setCell 0 (.int .i64 p)).setCell 1 (.int .i64 v))
  have q0 := has_cell 0 hX4.1 rfl
  have q1 := has_cell 1 hX4.1 rfl
  have uu : Upd W b (canO { s with L := M }) W3 := (u1.reads hB2).trans u3
  have uw := (Upd.after hB uu).setNew (p := ⟨w.heap.size, 0, none⟩) (Nat.le_refl _) (by show b ≠ w.heap.size; omega) (.int .i64 p)
  have uw2 := uw.setNew (p := ⟨w.heap.size, 1, none⟩) (Nat.le_refl _) (by show b ≠ w.heap.size; omega) (.int .i64 v)
  go_wp2_with fail
  refine bodyPost_ret (v := .tuple #[.agg #[.int .i64 p, .int .i64 v], .int .i64 0]) ?_ rfl ⟨rfl, uw2⟩
  simp [results, Try.f18, go_sem, q0, q1]
theorem canC_one {s : Cs} : ∀ v ∈ canC s, v.oneCell' = true := by
  intro v h
  simp only [canC, List.mem_cons, List.mem_append, List.mem_singleton, rowC, List.mem_flatMap, plc, List.not_mem_nil, or_false] at h
  rcases h with rfl | rfl | rfl | rfl | rfl | ⟨p, _, rfl | rfl⟩ | rfl <;> rfl
theorem copy_c (w : World) (b : Nat) (s : Cs) (h : w.heap[b]? = some (canO s)) (hl8 : s.L.length ≤ 8) :
    Calls Try.prog 31 #[.pointer (some ⟨b, 0, none⟩)] w fun e w' => ∃ b', e = .returned (.pointer (some ⟨b', 0, none⟩)) ∧ w.heap.size ≤ b' ∧ w'.heap[b']? = some (canO s) ∧ Below w.heap.size w w' := by
  have hl := canC_length hl8
  have hr : w.rangeAt b 0 (canC s) := has_range h _ _ (by simp)
  go_enter Try.func31, Try.ntmps31
  go_wp2_with (first | (go_at_call 32; refine (there_c _ _ _ h hl8).mono ?_; rintro e w' ⟨rfl, rfl⟩) | (refine wpList_load_mid rfl 55 (.tmp 8) rfl b 0 rfl (canC s) _ hr Try.underlying55 rfl (by rw [hl]; kernel_rfl) ?_) | (refine wpList_store_mid rfl 55 (.tmp 3) (.tmp 9) rfl w.heap.size 0 (canC s).toArray rfl rfl ?ht ?hi ?ho ?_; rotate_left 3))
  case ht => exact has_there (heap_alloc_new _ _) 0 _ (by simp [hl])
  case hi => rw [List.size_toArray, hl]; kernel_rfl
  case ho => exact all_oneCell_toArray canC_one
  go_ret
  have C := copied w (.bool false :: .bool false :: .bool false :: .bool false :: .bool false :: List.replicate 17 (.int .i64 0)).toArray 55 (canC s) (by rw [hl]; rfl)
  exact ⟨w.heap.size, rfl, Nat.le_refl _, C.1, C.2⟩
end Go.Proofs.Ytdpeccbdacdkiaa
