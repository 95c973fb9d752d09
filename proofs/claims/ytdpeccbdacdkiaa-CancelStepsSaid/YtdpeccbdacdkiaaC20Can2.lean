/- What the functions of a cancellation that write do, over the translation of this seat. Conditions: the blocks that are named hold what is said. -/
import Derived.Test.YtdpeccbdacdkiaaC20Can
import Derived.Outline
import Derived.StillTailTactics
import Derived.Deep.DeepCutAuto
import Derived.Deep.CutBlock
namespace Go.Proofs.Ytdpeccbdacdkiaa
open Go.RowKit

theorem ask_c (w : World) (b : Nat) (s : Cs) (h : w.heap[b]? = some (canO s)) (hl : s.L.length ≤ 8) :
    Calls Try.prog 13 #[.pointer (some ⟨b, 0, none⟩)] w fun e w' => e = .returned (.tuple #[.bool (!s.ak), .int .i64 0]) ∧ Upd w b (canO { s with ak := true }) w' := by
  go_enter Try.func13, Try.ntmps13
  have hx := heap_alloc_new w (.cells #[.pointer (some ⟨b, 0, none⟩)] 23)
  have hb : Below w.heap.size w (w.alloc (.cells #[.pointer (some ⟨b, 0, none⟩)] 23)) := (Below.refl _ _).alloc (Nat.le_refl _) _
  go_wp2_with fail
  refine calls_world (fun W => W.heap[w.heap.size]? = some (.cells #[.pointer (some ⟨b, 0, none⟩)] 23 (0, 0)) ∧ Below w.heap.size w W) ⟨hx, hb⟩ ?_
  clear hx hb
  rintro W ⟨hx, hb⟩
  refine (set_ask W b _ s true (below_has hb h) hl hx).mono ?_; rintro e w1 ⟨rfl, u⟩
  have hu := Upd.after hb u
  clear hb u hx
  go_wp2
  go_ret2
  exact ⟨rfl, hu⟩
theorem enable_c (w : World) (b : Nat) (s : Cs) (x : Bool) (h : w.heap[b]? = some (canO s)) (hl : s.L.length ≤ 8) :
    Calls Try.prog 14 #[.pointer (some ⟨b, 0, none⟩), .bool x] w fun e w' => e = .returned (.tuple #[.bool s.on, .int .i64 0]) ∧ Upd w b (canO { s with on := x }) w' := by
  go_enter Try.func14, Try.ntmps14
  have hx := heap_alloc_new w (.cells #[.pointer (some ⟨b, 0, none⟩)] 23)
  have hb : Below w.heap.size w (w.alloc (.cells #[.pointer (some ⟨b, 0, none⟩)] 23)) := (Below.refl _ _).alloc (Nat.le_refl _) _
  go_wp2_with fail
  refine calls_world (fun W => W.heap[w.heap.size]? = some (.cells #[.pointer (some ⟨b, 0, none⟩)] 23 (0, 0)) ∧ Below w.heap.size w W) ⟨hx, hb⟩ ?_
  clear hx hb
  rintro W ⟨hx, hb⟩
  refine (set_en W b _ s x (below_has hb h) hl hx).mono ?_; rintro e w1 ⟨rfl, u⟩
  have hu := Upd.after hb u
  clear hb u hx
  go_wp2
  go_ret2
  exact ⟨rfl, hu⟩
theorem async_c (w : World) (b : Nat) (s : Cs) (x : Bool) (h : w.heap[b]? = some (canO s)) (hl : s.L.length ≤ 8) :
    Calls Try.prog 15 #[.pointer (some ⟨b, 0, none⟩), .bool x] w fun e w' => e = .returned (.tuple #[.bool s.ay, .int .i64 0]) ∧ Upd w b (canO { s with ay := x }) w' := by
  go_enter Try.func15, Try.ntmps15
  have hx := heap_alloc_new w (.cells #[.pointer (some ⟨b, 0, none⟩)] 23)
  have hb : Below w.heap.size w (w.alloc (.cells #[.pointer (some ⟨b, 0, none⟩)] 23)) := (Below.refl _ _).alloc (Nat.le_refl _) _
  go_wp2_with fail
  refine calls_world (fun W => W.heap[w.heap.size]? = some (.cells #[.pointer (some ⟨b, 0, none⟩)] 23 (0, 0)) ∧ Below w.heap.size w W) ⟨hx, hb⟩ ?_
  clear hx hb
  rintro W ⟨hx, hb⟩
  refine (set_asy W b _ s x (below_has hb h) hl hx).mono ?_; rintro e w1 ⟨rfl, u⟩
  have hu := Upd.after hb u
  clear hb u hx
  go_wp2
  go_ret2
  exact ⟨rfl, hu⟩
theorem unwind_c (w : World) (b : Nat) (s : Cs) (h : w.heap[b]? = some (canO s)) (hl : s.L.length ≤ 8) :
    Calls Try.prog 19 #[.pointer (some ⟨b, 0, none⟩)] w fun e w' => e = .returned (.int .i64 (if s.un = true then 7 else 0)) ∧ Upd w b (canO { s with un := true }) w' := by
  go_enter Try.func19, Try.ntmps19
  have hx := heap_alloc_new w (.cells #[.pointer (some ⟨b, 0, none⟩)] 23)
  have hb : Below w.heap.size w (w.alloc (.cells #[.pointer (some ⟨b, 0, none⟩)] 23)) := (Below.refl _ _).alloc (Nat.le_refl _) _
  go_wp2_with fail
  refine calls_world (fun W => W.heap[w.heap.size]? = some (.cells #[.pointer (some ⟨b, 0, none⟩)] 23 (0, 0)) ∧ Below w.heap.size w W) ⟨hx, hb⟩ ?_
  clear hx hb
  rintro W ⟨hx, hb⟩
  refine (set_unw W b _ s true (below_has hb h) hl hx).mono ?_; rintro e w1 ⟨rfl, u⟩
  have hu := Upd.after hb u
  clear hb u hx
  obtain ⟨ak, on, ay, un, L⟩ := s
  cases un
  · go_wp2
    go_ret
    exact ⟨rfl, hu⟩
  · go_wp2
    go_ret
    exact ⟨rfl, hu⟩

/-! Push, Pop. -/
theorem rowC_append (L M : List (Int × Int)) : rowC (L ++ M) = rowC L ++ rowC M := by simp [rowC]
theorem can_push {s : Cs} (p v : Int) (h : s.L.length < 8) :
    (((canC s).toArray.setIfInBounds (5 + s.L.length * 2) (.int .i64 p)).setIfInBounds (5 + s.L.length * 2 + 1) (.int .i64 v)).setIfInBounds 21 (.int .i64 ((s.L.length : Int) + 1)) = (canC { s with L := s.L ++ [(p, v)] }).toArray := by
  obtain ⟨ak, on, ay, un, L⟩ := s
  dsimp only at h ⊢
  have e : padL L = L ++ ((0, 0) :: List.replicate (7 - L.length) (0, 0)) := by
    unfold padL
    rw [show 8 - L.length = 7 - L.length + 1 by omega, List.replicate_succ]
  have e2 : padL (L ++ [(p, v)]) = L ++ ((p, v) :: List.replicate (7 - L.length) (0, 0)) := by
    unfold padL
    simp [show 8 - (L.length + 1) = 7 - L.length by omega]
  have hr := rowC_length L
  have hz : (rowC (List.replicate (7 - L.length) ((0 : Int), (0 : Int)))).length = (7 - L.length) * 2 := by rw [rowC_length]; simp
  simp only [canC, e, e2, List.setIfInBounds_toArray, rowC_append]
  have c : ∀ (q : Int × Int) (M : List (Int × Int)), rowC (q :: M) = .int .i64 q.1 :: .int .i64 q.2 :: rowC M := fun _ _ => rfl
  rw [c, c, show 5 + L.length * 2 = L.length * 2 + 1 + 1 + 1 + 1 + 1 by omega]
  simp only [List.set_cons_succ]
  rw [List.append_assoc, List.set_append_right _ _ (by omega), List.set_append_right _ _ (by omega), List.set_append_right _ _ (by omega), hr]
  simp only [Nat.sub_self, List.cons_append, List.set_cons_zero]
  rw [show L.length * 2 + 1 - L.length * 2 = 0 + 1 by omega, List.set_cons_succ, List.set_cons_zero, show 16 - L.length * 2 = ((7 - L.length) * 2) + 1 + 1 by omega, List.set_cons_succ, List.set_cons_succ, List.set_append_right _ _ (by omega), hz]
  simp
theorem can_pop {s : Cs} {M : List (Int × Int)} (p v : Int) (hs : s.L = M ++ [(p, v)]) (h : s.L.length ≤ 8) :
    (((canC s).toArray.setIfInBounds 21 (.int .i64 (M.length : Nat))).setIfInBounds (5 + M.length * 2) (.int .i64 0)).setIfInBounds (5 + M.length * 2 + 1) (.int .i64 0) = (canC { s with L := M }).toArray := by
  obtain ⟨ak, on, ay, un, L⟩ := s
  dsimp only at hs h ⊢
  subst hs
  have hM : M.length < 8 := by simp at h; omega
  have e : padL M = M ++ ((0, 0) :: List.replicate (7 - M.length) (0, 0)) := by
    unfold padL
    rw [show 8 - M.length = 7 - M.length + 1 by omega, List.replicate_succ]
  have e2 : padL (M ++ [(p, v)]) = M ++ ((p, v) :: List.replicate (7 - M.length) (0, 0)) := by
    unfold padL
    simp [show 8 - (M.length + 1) = 7 - M.length by omega]
  have hr := rowC_length M
  have hz : (rowC (List.replicate (7 - M.length) ((0 : Int), (0 : Int)))).length = (7 - M.length) * 2 := by rw [rowC_length]; simp
  simp only [canC, e, e2, List.setIfInBounds_toArray, rowC_append]
  have c : ∀ (q : Int × Int) (M : List (Int × Int)), rowC (q :: M) = .int .i64 q.1 :: .int .i64 q.2 :: rowC M := fun _ _ => rfl
  rw [c, c, show 5 + M.length * 2 = M.length * 2 + 1 + 1 + 1 + 1 + 1 by omega]
  simp only [List.set_cons_succ]
  rw [List.append_assoc, List.set_append_right _ _ (by omega), List.set_append_right _ _ (by omega), List.set_append_right _ _ (by omega), hr]
  simp only [Nat.sub_self, List.cons_append]
  rw [show 16 - M.length * 2 = ((7 - M.length) * 2) + 1 + 1 by omega, List.set_cons_succ, List.set_cons_succ, List.set_append_right _ _ (by omega), hz]
  simp only [List.set_cons_zero, Nat.sub_self]
  rw [show M.length * 2 + 1 - M.length * 2 = 0 + 1 by omega, List.set_cons_succ, List.set_cons_zero]
  simp
theorem push_bad (w : World) (b : Nat) (s : Cs) (p v : Int) (h : w.heap[b]? = some (canO s)) (hl : s.L.length ≤ 8) (hp : p < 0 ∨ 32 ≤ p) :
    Calls Try.prog 17 #[.pointer (some ⟨b, 0, none⟩), .agg #[.int .i64 p, .int .i64 v]] w fun e w' => e = .returned (.int .i64 2) ∧ Below w.heap.size w w' := by
  rcases hp with hp | hp
  · go_enter Try.func17, Try.ntmps17
    go_wp2_with (go_at_call 32; refine (there_c _ _ _ (below_alloc_has h) hl).mono ?_; rintro e w' ⟨rfl, rfl⟩)
    go_ret
    exact ⟨rfl, (Below.refl _ _).alloc (Nat.le_refl _) _⟩
  · have hp0 : ¬ p < 0 := by omega
    go_enter Try.func17, Try.ntmps17
    go_wp2_with (go_at_call 32; refine (there_c _ _ _ (below_alloc_has h) hl).mono ?_; rintro e w' ⟨rfl, rfl⟩)
    go_ret
    exact ⟨rfl, (Below.refl _ _).alloc (Nat.le_refl _) _⟩
theorem push_full (w : World) (b : Nat) (s : Cs) (p v : Int) (h : w.heap[b]? = some (canO s)) (hl : s.L.length = 8) (hp0 : 0 ≤ p) (hp1 : p < 32) :
    Calls Try.prog 17 #[.pointer (some ⟨b, 0, none⟩), .agg #[.int .i64 p, .int .i64 v]] w fun e w' => e = .returned (.int .i64 5) ∧ Below w.heap.size w w' := by
  have hl8 : s.L.length ≤ 8 := by omega
  have H := Lib.hid h
  have HL := Lib.hid hl8
  clear h hl8
  go_enter Try.func17, Try.ntmps17
  go_upto_region 1 with fail
  refine world_wp (fun W => Below w.heap.size w W ∧ W.heap[w.heap.size]? = some (.cells #[.int .i64 p, .int .i64 v] 30 (0, 0))) ⟨(Below.refl _ _).alloc (Nat.le_refl _) _, heap_alloc_new _ _⟩ ?_
  rintro W ⟨hB, hX⟩
  have hC := below_has hB H.out
  obtain ⟨c0, c1, c2, c3, c4, c5⟩ := can_flags hC HL.out
  have c6 : W.cell? ⟨b, 21, none⟩ = some (.int .i64 8) := by rw [c5, hl]; rfl
  clear c5 hl
  have x0 := has_cell 0 hX rfl
  have x1 := has_cell 1 hX rfl
  go_wp2_with (go_at_call 32; refine (there_c _ _ _ hC HL.out).mono ?_; rintro e w' ⟨rfl, rfl⟩)
  go_ret
  exact ⟨rfl, hB⟩
theorem push_c (w : World) (b : Nat) (s : Cs) (p v : Int) (h : w.heap[b]? = some (canO s)) (hl : s.L.length < 8) (hp0 : 0 ≤ p) (hp1 : p < 32) :
    Calls Try.prog 17 #[.pointer (some ⟨b, 0, none⟩), .agg #[.int .i64 p, .int .i64 v]] w fun e w' => e = .returned (.int .i64 0) ∧ Upd w b (canO { s with L := s.L ++ [(p, v)] }) w' := by
  have hl8 : s.L.length ≤ 8 := by omega
  have hp := can_push (s := s) p v hl
  obtain ⟨n, hn⟩ : ∃ n, n = s.L.length := ⟨_, rfl⟩
  have HP := Lib.hid hp
  have HN := Lib.hid hn
  have n8 : n < 8 := by omega
  have hni : (n : Int) < 8 := by omega
  have hne : ((n : Int) == 8) = false := by rw [beq_eq_false_iff_ne]; omega
  have H := Lib.hid h
  have HL := Lib.hid hl8
  clear hp hn h hl hl8
  go_enter Try.func17, Try.ntmps17
  go_upto_region 1 with fail
  refine world_wp (fun W => Below w.heap.size w W ∧ W.heap[w.heap.size]? = some (.cells #[.int .i64 p, .int .i64 v] 30 (0, 0))) ⟨(Below.refl _ _).alloc (Nat.le_refl _) _, heap_alloc_new _ _⟩ ?_
  rintro W ⟨hB, hX⟩
  have hC := below_has hB H.out
  obtain ⟨c0, c1, c2, c3, c4, c5⟩ := can_flags hC HL.out
  obtain ⟨d0, d1⟩ := can_row hC HL.out n n8
  rw [← HN.out] at c5
  have x0 := has_cell 0 hX rfl
  have x1 := has_cell 1 hX rfl
  have fz := has_free hC
  go_upto_region 7 with (go_at_call 32; refine (there_c _ _ _ hC HL.out).mono ?_; rintro e w' ⟨rfl, rfl⟩)
  refine still_tail 9 (by kernel_rfl) (by kernel_rfl) ?_
  simp only [List.take_succ_cons, List.take_zero, List.drop_succ_cons, List.drop_zero]
  repeat still_step
  refine wpStill_nil ?_
  go_wp2_with fail
  go_ret
  refine ⟨rfl, Upd.after hB ((((((Upd.refl hC).setCell (5 + n * 2) (.int .i64 p)).setCell (5 + n * 2 + 1) (.int .i64 v)).setCell 21 (.int .i64 ((n : Int) + 1)))).drew.to ?_)⟩
  have := HP.out
  rw [← HN.out] at this
  rw [this, canO]
theorem pop_none (w : World) (b : Nat) (s : Cs) (h : w.heap[b]? = some (canO s)) (hl : s.L = []) :
    Calls Try.prog 18 #[.pointer (some ⟨b, 0, none⟩)] w fun e w' => e = .returned (.tuple #[.agg #[.int .i64 0, .int .i64 0], .int .i64 6]) ∧ Below w.heap.size w w' := by
  have hl8 : s.L.length ≤ 8 := by rw [hl]; decide
  have H := Lib.hid h
  have HL := Lib.hid hl8
  clear h hl8
  go_enter Try.func18, Try.ntmps18
  go_upto_region 1 with fail
  refine world_wp (fun W => Below w.heap.size w W ∧ W.heap[w.heap.size]? = some (.cells #[.int .i64 0, .int .i64 0] 30 (0, 0))) ⟨(Below.refl _ _).alloc (Nat.le_refl _) _, heap_alloc_new _ _⟩ ?_
  rintro W ⟨hB, hX⟩
  have hC := below_has hB H.out
  obtain ⟨c0, c1, c2, c3, c4, c5⟩ := can_flags hC HL.out
  have c6 : W.cell? ⟨b, 21, none⟩ = some (.int .i64 0) := by rw [c5, hl]; rfl
  clear c5 hl
  have x0 := has_cell 0 hX rfl
  have x1 := has_cell 1 hX rfl
  have fx := has_free hX
  go_wp2_with (go_at_call 32; refine (there_c _ _ _ hC HL.out).mono ?_; rintro e w' ⟨rfl, rfl⟩)
  have hB2 : Below w.heap.size w ((W.setCell ⟨w.heap.size, 0, none⟩ (.int .i64 0)).setCell ⟨w.heap.size, 1, none⟩ (.int .i64 0)) := (hB.setCell (Nat.le_refl _) _).setCell (Nat.le_refl _) _
  have hX2 := (((Upd.refl hX).setCell 0 (.int .i64 0)).setCell 1 (.int .i64 0)).1
  have q0 := has_cell 0 hX2 rfl
  have q1 := has_cell 1 hX2 rfl
  refine bodyPost_ret (v := .tuple #[.agg #[.int .i64 0, .int .i64 0], .int .i64 6]) ?_ rfl ⟨rfl, hB2⟩
  simp [results, Try.f18, go_sem, q0, q1]
end Go.Proofs.Ytdpeccbdacdkiaa
