/- Graphs of who waits for whom, as they lie; what the small functions compute, over the translation of this seat. Conditions: the blocks that are named hold what is said. -/
import Derived.Test.YtkjcchepgpbiiaaProg
import Derived.Test.YtkjcchepgpbiiaaFlat
import Derived.Test.YtkjcchepgpbiiaaRowsF
import Derived.Test.YtkjcchepgpbiiaaC12Ring
import Derived.Deep.MidRow
import Derived.Outline
import Derived.Deep.DeepCutAuto
import Derived.Deep.CutBlock
namespace Go.Proofs.Ytkjcchepgpbiiaa
open Go.RowKit

/-- A graph: how many threads; bases, ceilings, for whom each waits (-1: for nobody). -/
structure Gs where
  n : Nat
  ba : Nat → Int
  ce : Nat → Int
  wt : Nat → Int
def Gs.own (s : Gs) : Nat → Int := fun t => max (s.ba t) (s.ce t)
structure GOk (s : Gs) : Prop where
  n1 : 1 ≤ s.n
  n2 : s.n ≤ 16
  ba : ∀ i, i < 16 → 0 ≤ s.ba i ∧ s.ba i ≤ 31
  ce : ∀ i, i < 16 → 0 ≤ s.ce i ∧ s.ce i ≤ 31
  wt : ∀ i, i < 16 → -1 ≤ s.wt i ∧ s.wt i < s.n
  out : ∀ i, s.n ≤ i → i < 16 → s.ba i = 0 ∧ s.ce i = 0 ∧ s.wt i = -1
theorem GOk.fine {s : Gs} (h : GOk s) : Fine s.n s.wt := fun t ht => h.wt t (by have := h.n2; omega)
def fourC (n : Nat) (a b c : Nat → Int) : List Value := .int .i64 n :: (rowI a 16 ++ (rowI b 16 ++ rowI c 16))
def gO (s : Gs) : Obj := .cells (fourC s.n s.ba s.ce (fun i => s.wt i + 1)).toArray 52 (0, 0)
def rO (s : Gs) : Obj := .cells (fourC s.n s.ba s.ce s.wt).toArray 37 (0, 0)
theorem four_length (n : Nat) (a b c : Nat → Int) : (fourC n a b c).length = 49 := by simp [fourC, rowI_length]
theorem four_get (n : Nat) (a b c : Nat → Int) {i : Nat} (hi : i < 16) : (fourC n a b c)[1 + i]? = some (.int .i64 (a i)) ∧ (fourC n a b c)[17 + i]? = some (.int .i64 (b i)) ∧ (fourC n a b c)[33 + i]? = some (.int .i64 (c i)) := by
  refine ⟨?_, ?_, ?_⟩
  · rw [show 1 + i = i + 1 by omega, fourC, List.getElem?_cons_succ, List.getElem?_append_left (by rw [rowI_length]; omega)]
    exact rowI_get a hi
  · rw [show 17 + i = (16 + i) + 1 by omega, fourC, List.getElem?_cons_succ, List.getElem?_append_right (by rw [rowI_length]; omega), rowI_length, Nat.add_sub_cancel_left, List.getElem?_append_left (by rw [rowI_length]; omega)]
    exact rowI_get b hi
  · rw [show 33 + i = (16 + (16 + i)) + 1 by omega, fourC, List.getElem?_cons_succ, List.getElem?_append_right (by rw [rowI_length]; omega), rowI_length, Nat.add_sub_cancel_left, List.getElem?_append_right (by rw [rowI_length]; omega), rowI_length, Nat.add_sub_cancel_left]
    exact rowI_get c hi
theorem upd_at (f : Nat → Int) (i : Nat) (x : Int) : (fun k => if k = i then x else f k) = upd f i x := rfl
theorem four_set1 (n : Nat) (a b c : Nat → Int) (x : Int) {i : Nat} (hi : i < 16) : (fourC n a b c).toArray.setIfInBounds (1 + i) (.int .i64 x) = (fourC n (upd a i x) b c).toArray := by
  rw [List.setIfInBounds_toArray, show 1 + i = i + 1 by omega, fourC, List.set_cons_succ, List.set_append_left _ _ (by rw [rowI_length]; omega), rowI_set a x hi, upd_at, fourC]
theorem four_set2 (n : Nat) (a b c : Nat → Int) (x : Int) {i : Nat} (hi : i < 16) : (fourC n a b c).toArray.setIfInBounds (17 + i) (.int .i64 x) = (fourC n a (upd b i x) c).toArray := by
  rw [List.setIfInBounds_toArray, show 17 + i = (16 + i) + 1 by omega, fourC, List.set_cons_succ, List.set_append_right _ _ (by rw [rowI_length]; omega), rowI_length, Nat.add_sub_cancel_left, List.set_append_left _ _ (by rw [rowI_length]; omega), rowI_set b x hi, upd_at, fourC]
theorem four_set3 (n : Nat) (a b c : Nat → Int) (x : Int) {i : Nat} (hi : i < 16) : (fourC n a b c).toArray.setIfInBounds (33 + i) (.int .i64 x) = (fourC n a b (upd c i x)).toArray := by
  rw [List.setIfInBounds_toArray, show 33 + i = (16 + (16 + i)) + 1 by omega, fourC, List.set_cons_succ, List.set_append_right _ _ (by rw [rowI_length]; omega), rowI_length, Nat.add_sub_cancel_left, List.set_append_right _ _ (by rw [rowI_length]; omega), rowI_length, Nat.add_sub_cancel_left, rowI_set c x hi, upd_at, fourC]
/-- A graph's cells. -/
theorem g_cells {w : World} {b : Nat} {s : Gs} (h : w.heap[b]? = some (gO s)) : w.cell? ⟨b, 0, none⟩ = some (.int .i64 s.n) ∧ ∀ i : Nat, i < 16 → w.cell? ⟨b, 1 + i, none⟩ = some (.int .i64 (s.ba i)) ∧ w.cell? ⟨b, 17 + i, none⟩ = some (.int .i64 (s.ce i)) ∧ w.cell? ⟨b, 33 + i, none⟩ = some (.int .i64 (s.wt i + 1)) := by
  refine ⟨has_cell 0 h rfl, fun i hi => ?_⟩
  obtain ⟨g1, g2, g3⟩ := four_get s.n s.ba s.ce (fun i => s.wt i + 1) hi
  exact ⟨has_cell _ h (by simpa using g1), has_cell _ h (by simpa using g2), has_cell _ h (by simpa using g3)⟩
theorem r_cells {w : World} {b : Nat} {s : Gs} (h : w.heap[b]? = some (rO s)) : w.cell? ⟨b, 0, none⟩ = some (.int .i64 s.n) ∧ ∀ i : Nat, i < 16 → w.cell? ⟨b, 1 + i, none⟩ = some (.int .i64 (s.ba i)) ∧ w.cell? ⟨b, 17 + i, none⟩ = some (.int .i64 (s.ce i)) ∧ w.cell? ⟨b, 33 + i, none⟩ = some (.int .i64 (s.wt i)) := by
  refine ⟨has_cell 0 h rfl, fun i hi => ?_⟩
  obtain ⟨g1, g2, g3⟩ := four_get s.n s.ba s.ce s.wt hi
  exact ⟨has_cell _ h (by simpa using g1), has_cell _ h (by simpa using g2), has_cell _ h (by simpa using g3)⟩

theorem is_c (w : World) (b : Nat) (s : Gs) (h : w.heap[b]? = some (gO s)) (ok : GOk s) : Calls Try.prog 24 #[.pointer (some ⟨b, 0, none⟩)] w fun e w' => e = .returned (.bool true) ∧ w = w' := by
  have c := (g_cells h).1
  have hp : decide (0 < s.n) = true := by simp; exact ok.n1
  clear h
  go_enter Try.func24, Try.ntmps24
  go_wp2
  go_ret
  exact ⟨rfl, rfl⟩
def inF (s : Gs) (t : Int) : Bool := decide (0 ≤ t) && decide (t < s.n)
theorem in_c (w : World) (b : Nat) (s : Gs) (t : Int) {y : Bool} (h : w.heap[b]? = some (gO s)) (hy : inF s t = y) : Calls Try.prog 26 #[.pointer (some ⟨b, 0, none⟩), .int .i64 t] w fun e w' => e = .returned (.bool y) ∧ w = w' := by
  have c := (g_cells h).1
  subst hy
  unfold inF
  by_cases h0 : 0 ≤ t
  · go_enter Try.func26, Try.ntmps26
    go_wp2
    go_ret
    exact ⟨by simp [h0], rfl⟩
  · go_enter Try.func26, Try.ntmps26
    go_wp2
    go_ret
    exact ⟨by simp; omega, rfl⟩
theorem rin_c (w : World) (b : Nat) (s : Gs) (t : Int) {y : Bool} (h : w.heap[b]? = some (rO s)) (hy : inF s t = y) : Calls Try.prog 23 #[.pointer (some ⟨b, 0, none⟩), .int .i64 t] w fun e w' => e = .returned (.bool y) ∧ w = w' := by
  have c := (r_cells h).1
  subst hy
  unfold inF
  by_cases h0 : 0 ≤ t
  · go_enter Try.func23, Try.ntmps23
    go_wp2
    go_ret
    exact ⟨by simp [h0], rfl⟩
  · go_enter Try.func23, Try.ntmps23
    go_wp2
    go_ret
    exact ⟨by simp; omega, rfl⟩
def prioF (p : Int) : Bool := decide (0 ≤ p) && decide (p ≤ 31)
theorem prio_c (w : World) (p : Int) {y : Bool} (hy : prioF p = y) : Calls Try.prog 30 #[.int .i64 p] w fun e w' => e = .returned (.bool y) ∧ w = w' := by
  subst hy
  unfold prioF
  by_cases h0 : 0 ≤ p
  · go_enter Try.func30, Try.ntmps30
    go_wp2
    go_ret
    exact ⟨by simp [h0], rfl⟩
  · go_enter Try.func30, Try.ntmps30
    go_wp2
    go_ret
    exact ⟨by simp; omega, rfl⟩
theorem may_c (w : World) (b : Nat) (s : Gs) (t : Int) (ok' : Bool) {z : Int} (h : w.heap[b]? = some (gO s)) (ok : GOk s) (hz : (if (inF s t && ok') = true then 0 else 2) = z) : Calls Try.prog 29 #[.pointer (some ⟨b, 0, none⟩), .int .i64 t, .bool ok'] w fun e w' => e = .returned (.int .i64 z) ∧ w = w' := by
  obtain ⟨y, hy⟩ : ∃ y, inF s t = y := ⟨_, rfl⟩
  rw [hy] at hz
  cases y <;> cases ok' <;> (simp at hz; subst hz; go_enter Try.func29, Try.ntmps29; go_wp2_with (first | (go_at_call 24; refine (is_c _ _ _ h ok).mono ?_; rintro e w' ⟨rfl, rfl⟩) | (go_at_call 26; refine (in_c _ _ _ _ h hy).mono ?_; rintro e w' ⟨rfl, rfl⟩)); go_ret; exact ⟨rfl, rfl⟩)
theorem own_c (w : World) (y b : Nat) (s : Gs) (t : Nat) (h : w.heap[b]? = some (gO s)) (hy : w.heap[y]? = some (.cells #[.pointer (some ⟨b, 0, none⟩)] 23 (0, 0))) (ht : t < 16) :
    Calls Try.prog 32 #[.int .i64 t, .pointer (some ⟨y, 0, none⟩)] w fun e w' => e = .returned (.int .i64 (s.own t)) ∧ ∃ m, w' = w.drewN m := by
  have c0 := has_cell 0 hy rfl
  obtain ⟨c1, c2, c3⟩ := (g_cells h).2 t ht
  have hti : (t : Int) < 16 := by omega
  have ht0 : (0 : Int) ≤ (t : Int) := by omega
  clear h hy
  by_cases hlt : s.ba t < s.ce t
  · have e : s.own t = s.ce t := Int.max_eq_right (Int.le_of_lt hlt)
    rw [e]
    clear e
    go_enter Try.func32, Try.ntmps32
    go_wp2_with fail
    go_quiet (fail)
    go_wp2_with fail
    go_ret
    exact ⟨by simp, _, rfl⟩
  · have e : s.own t = s.ba t := Int.max_eq_left (Int.not_lt.1 hlt)
    rw [e]
    clear e
    go_enter Try.func32, Try.ntmps32
    go_wp2_with fail
    go_quiet (fail)
    go_wp2_with fail
    go_ret
    exact ⟨by simp, _, rfl⟩
theorem new_bad (w : World) (x : Int) (h : x < 1 ∨ 16 < x) : Calls Try.prog 8 #[.int .i64 x] w fun e w' => e = .returned (.tuple #[.pointer none, .int .i64 2]) ∧ w = w' := by
  by_cases h0 : x < 1
  · go_enter Try.func8, Try.ntmps8
    go_wp2
    go_ret2
    exact ⟨rfl, rfl⟩
  · have h1 : 16 < x := by omega
    clear h
    go_enter Try.func8, Try.ntmps8
    go_wp2
    go_ret2
    exact ⟨rfl, rfl⟩
def newG (n : Nat) : Gs := ⟨n, fun _ => 0, fun _ => 0, fun _ => -1⟩
theorem newG_ok {n : Nat} (h1 : 1 ≤ n) (h2 : n ≤ 16) : GOk (newG n) :=
  ⟨h1, h2, fun _ _ => ⟨Int.le_refl _, by show (0 : Int) ≤ 31; decide⟩, fun _ _ => ⟨Int.le_refl _, by show (0 : Int) ≤ 31; decide⟩, fun _ _ => ⟨Int.le_refl _, by show (-1 : Int) < (n : Int); omega⟩, fun _ _ _ => ⟨rfl, rfl, rfl⟩⟩
theorem rowI_const (x : Int) : ∀ m, rowI (fun _ => x) m = List.replicate m (.int .i64 x)
  | 0 => rfl
  | m + 1 => by
    have := rowI_const x m
    unfold rowI at this ⊢
    rw [rowsF, this, List.replicate_succ']
theorem gO_new (n : Nat) : gO (newG n) = .cells (.int .i64 n :: List.replicate 48 (.int .i64 0)).toArray 52 (0, 0) := by
  have e2 : rowI (fun i => (newG n).wt i + 1) 16 = rowI (fun _ => 0) 16 := rowI_congr (fun _ _ => rfl)
  unfold gO fourC
  rw [e2, show (newG n).ba = fun _ => 0 from rfl, show (newG n).ce = fun _ => 0 from rfl, rowI_const, List.replicate_append_replicate, List.replicate_append_replicate]
  rfl
theorem new_c (w : World) (n : Nat) (h0 : 1 ≤ n) (h1 : n ≤ 16) : Calls Try.prog 8 #[.int .i64 n] w fun e w' => e = .returned (.tuple #[.pointer (some ⟨w.heap.size, 0, none⟩), .int .i64 0]) ∧ w'.heap[w.heap.size]? = some (gO (newG n)) ∧ Below w.heap.size w w' ∧ w.heap.size < w'.heap.size := by
  go_enter Try.func8, Try.ntmps8
  go_wp2
  go_ret2
  refine ⟨rfl, ?_, (Below.refl _ _).alloc (Nat.le_refl _) _, by simp⟩
  rw [heap_alloc_new, gO_new]
  rfl
end Go.Proofs.Ytkjcchepgpbiiaa
