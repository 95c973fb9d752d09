/- The document's New; Base, Ceiling, Waits, over the translation of this seat. Conditions: the blocks that are named hold what is said. -/
import Derived.Test.YtkjcchepgpbiiaaC12G
namespace Go.Proofs.Ytkjcchepgpbiiaa
open Go.RowKit

theorem rnew_bad (w : World) (x : Int) (h : x < 1 ∨ 16 < x) : Calls Try.prog 9 #[.int .i64 x] w fun e w' => e = .returned (.pointer none) ∧ w = w' := by
  by_cases h0 : x < 1
  · go_enter Try.func9, Try.ntmps9
    go_wp2
    go_ret
    exact ⟨rfl, rfl⟩
  · have h1 : 16 < x := by omega
    clear h
    go_enter Try.func9, Try.ntmps9
    go_wp2
    go_ret
    exact ⟨rfl, rfl⟩
/-- So many of the waits are laid. -/
def partG (n j : Nat) : Gs := ⟨n, fun _ => 0, fun _ => 0, fun i => if i < j then -1 else 0⟩
theorem rO_part (n : Nat) : rO (partG n 0) = .cells (.int .i64 n :: List.replicate 48 (.int .i64 0)).toArray 37 (0, 0) := by
  have e2 : rowI (partG n 0).wt 16 = rowI (fun _ => 0) 16 := rowI_congr (fun i _ => by simp [partG])
  unfold rO fourC
  rw [e2, show (partG n 0).ba = fun _ => 0 from rfl, show (partG n 0).ce = fun _ => 0 from rfl, rowI_const, List.replicate_append_replicate, List.replicate_append_replicate]
  rfl
theorem part_next (n : Nat) {j : Nat} : upd (partG n j).wt j (-1) = (partG n (j + 1)).wt := by
  funext i
  show (if i = j then (-1 : Int) else if i < j then -1 else 0) = if i < j + 1 then -1 else 0
  by_cases h1 : i = j
  · rw [if_pos h1, if_pos (by omega)]
  · by_cases h2 : i < j
    · rw [if_neg h1, if_pos h2, if_pos (by omega)]
    · rw [if_neg h1, if_neg h2, if_neg (by omega)]
theorem rO_last (n : Nat) : rO (partG n 16) = rO (newG n) := by
  have e : rowI (partG n 16).wt 16 = rowI (newG n).wt 16 := rowI_congr (fun i hi => by simp [partG, newG, hi])
  unfold rO fourC
  rw [e]
  rfl
theorem rnew_c (w : World) (n : Nat) (h0 : 1 ≤ n) (h1 : n ≤ 16) : Calls Try.prog 9 #[.int .i64 n] w fun e w' => e = .returned (.pointer (some ⟨w.heap.size, 0, none⟩)) ∧ w'.heap[w.heap.size]? = some (rO (newG n)) ∧ Below w.heap.size w w' ∧ w.heap.size < w'.heap.size := by
  go_enter Try.func9, Try.ntmps9
  go_upto_region 4 with fail
  refine world_wp (fun W => Below w.heap.size w W ∧ W.heap[w.heap.size]? = some (rO (partG n 0)) ∧ w.heap.size < W.heap.size) ⟨(Below.refl _ _).alloc (Nat.le_refl _) _, by rw [heap_alloc_new, rO_part]; rfl, by simp⟩ ?_
  rintro W ⟨hB, hR, hz⟩
  go_wp2_with fail
  go_loopw [4] (fun i wr => ∃ j : Nat, i = .int .i64 j ∧ j ≤ 16 ∧ wr.heap[w.heap.size]? = some (rO (partG n j)) ∧ Below w.heap.size w wr ∧ w.heap.size < wr.heap.size) (fun i _ => 16 - (intOf i).toNat)
  case atStart => exact ⟨0, rfl, by omega, hR, hB, hz⟩
  case round =>
    clear hR hB hz
    obtain ⟨j, rfl, hj, hR, hB, hz⟩ := hrel
    by_cases hlt : j < 16
    · have hc := ((r_cells hR).2 j hlt).2.2
      have fz := has_free hR
      have hji : (j : Int) < 16 := by omega
      have u := (Upd.refl hR).setCell (33 + j) (.int .i64 (-1))
      have u' : Upd wr w.heap.size (rO (partG n (j + 1))) _ := u.to (by rw [four_set3 _ _ _ _ _ hlt, part_next]; rfl)
      have HL := Lib.hid hlt
      clear hR u
      go_wp2_with fail
      go_roundw
      case rel => exact ⟨j + 1, by go_num, HL.out, u'.1, hB.trans (u'.below (Nat.le_refl _) hB.size), Nat.lt_of_lt_of_le hz u'.size⟩
      case measure => have := HL.out; simp [intOf]; omega
    · obtain rfl : j = 16 := by omega
      rw [rO_last] at hR
      go_wp2_with fail
      go_ret
      exact ⟨rfl, hR, hB, hz⟩

theorem base_no (w : World) (b : Nat) (s : Gs) (t p : Int) (h : w.heap[b]? = some (gO s)) (ok : GOk s) (hn : (inF s t && prioF p) = false) : Calls Try.prog 15 #[.pointer (some ⟨b, 0, none⟩), .int .i64 t, .int .i64 p] w fun e w' => e = .returned (.int .i64 2) ∧ w = w' := by
  obtain ⟨y, hy⟩ : ∃ y, prioF p = y := ⟨_, rfl⟩
  have hm := fun w' (hw : w'.heap[b]? = some (gO s)) => may_c w' b s t y (z := 2) hw ok (by rw [← hy, hn]; rfl)
  go_enter Try.func15, Try.ntmps15
  go_wp2_with (first | (go_at_call 30; refine (prio_c _ _ hy).mono ?_; rintro e w' ⟨rfl, rfl⟩) | (go_at_call 29; refine (hm _ h).mono ?_; rintro e w' ⟨rfl, rfl⟩))
  go_ret
  exact ⟨rfl, rfl⟩
theorem base_c (w : World) (b : Nat) (s : Gs) (t : Nat) (p : Int) (h : w.heap[b]? = some (gO s)) (ok : GOk s) (ht : t < s.n) (hp : 0 ≤ p ∧ p ≤ 31) : Calls Try.prog 15 #[.pointer (some ⟨b, 0, none⟩), .int .i64 t, .int .i64 p] w fun e w' => e = .returned (.int .i64 0) ∧ Upd w b (gO { s with ba := upd s.ba t p }) w' := by
  have n2 := ok.n2
  have hy : prioF p = true := by simp [prioF, hp]
  have hi : inF s t = true := by simp [inF, ht]
  have hm := fun w' (hw : w'.heap[b]? = some (gO s)) => may_c w' b s t true (z := 0) hw ok (by rw [hi]; rfl)
  have hc := ((g_cells h).2 t (by omega)).1
  have fz := has_free h
  have hti : (t : Int) < 16 := by omega
  have u : Upd w b (gO { s with ba := upd s.ba t p }) _ := ((Upd.refl h).setCell (1 + t) (.int .i64 p)).to (by rw [four_set1 _ _ _ _ _ (by omega)]; rfl)
  clear hp hi
  go_enter Try.func15, Try.ntmps15
  go_wp2_with (first | (go_at_call 30; refine (prio_c _ _ hy).mono ?_; rintro e w' ⟨rfl, rfl⟩) | (go_at_call 29; refine (hm _ h).mono ?_; rintro e w' ⟨rfl, rfl⟩))
  go_ret
  exact ⟨rfl, u⟩
theorem ceil_no (w : World) (b : Nat) (s : Gs) (t p : Int) (h : w.heap[b]? = some (gO s)) (ok : GOk s) (hn : (inF s t && prioF p) = false) : Calls Try.prog 16 #[.pointer (some ⟨b, 0, none⟩), .int .i64 t, .int .i64 p] w fun e w' => e = .returned (.int .i64 2) ∧ w = w' := by
  obtain ⟨y, hy⟩ : ∃ y, prioF p = y := ⟨_, rfl⟩
  have hm := fun w' (hw : w'.heap[b]? = some (gO s)) => may_c w' b s t y (z := 2) hw ok (by rw [← hy, hn]; rfl)
  go_enter Try.func16, Try.ntmps16
  go_wp2_with (first | (go_at_call 30; refine (prio_c _ _ hy).mono ?_; rintro e w' ⟨rfl, rfl⟩) | (go_at_call 29; refine (hm _ h).mono ?_; rintro e w' ⟨rfl, rfl⟩))
  go_ret
  exact ⟨rfl, rfl⟩
theorem ceil_c (w : World) (b : Nat) (s : Gs) (t : Nat) (p : Int) (h : w.heap[b]? = some (gO s)) (ok : GOk s) (ht : t < s.n) (hp : 0 ≤ p ∧ p ≤ 31) : Calls Try.prog 16 #[.pointer (some ⟨b, 0, none⟩), .int .i64 t, .int .i64 p] w fun e w' => e = .returned (.int .i64 0) ∧ Upd w b (gO { s with ce := upd s.ce t p }) w' := by
  have n2 := ok.n2
  have hy : prioF p = true := by simp [prioF, hp]
  have hi : inF s t = true := by simp [inF, ht]
  have hm := fun w' (hw : w'.heap[b]? = some (gO s)) => may_c w' b s t true (z := 0) hw ok (by rw [hi]; rfl)
  have hc := ((g_cells h).2 t (by omega)).2.1
  have fz := has_free h
  have hti : (t : Int) < 16 := by omega
  have u : Upd w b (gO { s with ce := upd s.ce t p }) _ := ((Upd.refl h).setCell (17 + t) (.int .i64 p)).to (by rw [four_set2 _ _ _ _ _ (by omega)]; rfl)
  clear hp hi
  go_enter Try.func16, Try.ntmps16
  go_wp2_with (first | (go_at_call 30; refine (prio_c _ _ hy).mono ?_; rintro e w' ⟨rfl, rfl⟩) | (go_at_call 29; refine (hm _ h).mono ?_; rintro e w' ⟨rfl, rfl⟩))
  go_ret
  exact ⟨rfl, u⟩
def ownerF (s : Gs) (o : Int) : Bool := decide (-1 ≤ o) && decide (o < s.n)
theorem waits_no (w : World) (b : Nat) (s : Gs) (t o : Int) (h : w.heap[b]? = some (gO s)) (ok : GOk s) (hn : (inF s t && ownerF s o) = false) : Calls Try.prog 17 #[.pointer (some ⟨b, 0, none⟩), .int .i64 t, .int .i64 o] w fun e w' => e = .returned (.int .i64 2) ∧ w = w' := by
  have c := (g_cells h).1
  have hm := fun w' (hw : w'.heap[b]? = some (gO s)) => may_c w' b s t (ownerF s o) (z := 2) hw ok (by rw [hn]; rfl)
  by_cases h1 : -1 ≤ o
  · have e : ownerF s o = decide (o < s.n) := by simp [ownerF, h1]
    rw [e] at hm
    clear hn e
    go_enter Try.func17, Try.ntmps17
    go_wp2_with (first | (go_at_call 24; refine (is_c _ _ _ h ok).mono ?_; rintro e w' ⟨rfl, rfl⟩) | (go_at_call 29; refine (hm _ h).mono ?_; rintro e w' ⟨rfl, rfl⟩))
    go_ret
    exact ⟨rfl, rfl⟩
  · have e : ownerF s o = false := by simp [ownerF, h1]
    rw [e] at hm
    clear hn e
    go_enter Try.func17, Try.ntmps17
    go_wp2_with (first | (go_at_call 24; refine (is_c _ _ _ h ok).mono ?_; rintro e w' ⟨rfl, rfl⟩) | (go_at_call 29; refine (hm _ h).mono ?_; rintro e w' ⟨rfl, rfl⟩))
    go_ret
    exact ⟨rfl, rfl⟩
theorem waits_c (w : World) (b : Nat) (s : Gs) (t : Nat) (o : Int) (h : w.heap[b]? = some (gO s)) (ok : GOk s) (ht : t < s.n) (ho : -1 ≤ o ∧ o < s.n) : Calls Try.prog 17 #[.pointer (some ⟨b, 0, none⟩), .int .i64 t, .int .i64 o] w fun e w' => e = .returned (.int .i64 0) ∧ Upd w b (gO { s with wt := upd s.wt t o }) w' := by
  have n2 := ok.n2
  have c := (g_cells h).1
  have hi : inF s t = true := by simp [inF, ht]
  have hm := fun w' (hw : w'.heap[b]? = some (gO s)) => may_c w' b s t true (z := 0) hw ok (by rw [hi]; rfl)
  have hc := ((g_cells h).2 t (by omega)).2.2
  have fz := has_free h
  have hti : (t : Int) < 16 := by omega
  have ho1 := ho.1
  have ho2 := ho.2
  have hw : IntKind.i64.wrap (o + 1) = o + 1 := IntWalk.i64_in _ (by omega)
  have u : Upd w b (gO { s with wt := upd s.wt t o }) _ := ((Upd.refl h).setCell (33 + t) (.int .i64 (o + 1))).to (by
    rw [four_set3 _ _ _ _ _ (by omega)]
    have e : upd (fun i => s.wt i + 1) t (o + 1) = fun i => upd s.wt t o i + 1 := by
      funext i
      unfold upd
      split <;> rfl
    rw [e]
    rfl)
  clear hi ho
  go_enter Try.func17, Try.ntmps17
  go_wp2_with (first | (go_at_call 24; refine (is_c _ _ _ h ok).mono ?_; rintro e w' ⟨rfl, rfl⟩) | (go_at_call 29; refine (hm _ h).mono ?_; rintro e w' ⟨rfl, rfl⟩))
  go_ret
  exact ⟨rfl, u⟩
end Go.Proofs.Ytkjcchepgpbiiaa
