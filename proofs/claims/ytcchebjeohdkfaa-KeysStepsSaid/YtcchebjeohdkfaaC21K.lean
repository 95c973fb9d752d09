/- Keys and values, as they lie; what the small functions compute, over the translation of this seat. Conditions: the blocks that are named hold what is said. -/
import Derived.Test.YtcchebjeohdkfaaProg
import Derived.Test.YtcchebjeohdkfaaFlat
import Derived.Test.YtcchebjeohdkfaaRowsF
import Derived.Test.YtcchebjeohdkfaaC21Law
import Derived.Deep.MidRow
import Derived.Outline
import Derived.Deep.DeepCutAuto
import Derived.Deep.CutBlock
namespace Go.Proofs.Ytcchebjeohdkfaa
open Go.RowKit

def put {α : Type} (f : Nat → α) (i : Nat) (x : α) : Nat → α := fun j => if j = i then x else f j
theorem put_self {α : Type} (f : Nat → α) (i : Nat) (x : α) : put f i x i = x := by simp [put]
theorem put_ne {α : Type} (f : Nat → α) {i j : Nat} (x : α) (h : j ≠ i) : put f i x j = f j := by simp [put, h]
/-- A key: is it made, its destructor, the threads' values. -/
structure Ky where
  is : Bool
  d : Int
  v : Nat → Int
/-- Keys: how many, the keys, the threads' ends. -/
structure Ks where
  n : Nat
  k : Nat → Ky
  e : Nat → En
structure KOk (s : Ks) : Prop where
  n1 : 1 ≤ s.n
  n2 : s.n ≤ 8
  e : ∀ t, (s.e t).round ≤ 4 ∧ (s.e t).at_ ≤ 8
def keyC (x : Ky) : List Value := .bool x.is :: .int .i64 x.d :: rowI x.v 16
def endC (e : En) : List Value := [.int .i64 e.round, .int .i64 e.at_, .bool e.some_, .bool e.over]
theorem keyC_length (x : Ky) : (keyC x).length = 18 := by simp [keyC, rowI_length]
theorem endC_length (x : En) : (endC x).length = 4 := rfl
def ksC (s : Ks) : List Value := .int .i64 s.n :: (rowsF (fun i => keyC (s.k i)) 8 ++ rowsF (fun t => endC (s.e t)) 16)
def kO (s : Ks) : Obj := .cells (ksC s).toArray 80 (0, 0)
theorem ksC_length (s : Ks) : (ksC s).length = 209 := by
  simp [ksC, rowsF_length (f := fun i => keyC (s.k i)) (c := 18) (fun _ => keyC_length _), rowsF_length (f := fun i => endC (s.e i)) (c := 4) (fun _ => endC_length _)]
theorem ks_key (s : Ks) {i j : Nat} (hi : i < 8) (hj : j < 18) : (ksC s)[1 + i * 18 + j]? = (keyC (s.k i))[j]? := by
  rw [show 1 + i * 18 + j = (i * 18 + j) + 1 by omega, ksC, List.getElem?_cons_succ, List.getElem?_append_left (by rw [rowsF_length (c := 18) (fun _ => keyC_length _)]; omega)]
  exact rowsF_get (f := fun i => keyC (s.k i)) (fun _ => keyC_length _) hj hi
theorem ks_end (s : Ks) {t j : Nat} (ht : t < 16) (hj : j < 4) : (ksC s)[145 + t * 4 + j]? = (endC (s.e t))[j]? := by
  rw [show 145 + t * 4 + j = (144 + (t * 4 + j)) + 1 by omega, ksC, List.getElem?_cons_succ, List.getElem?_append_right (by rw [rowsF_length (c := 18) (fun _ => keyC_length _)]; omega), rowsF_length (c := 18) (fun _ => keyC_length _), show 144 + (t * 4 + j) - 8 * 18 = t * 4 + j by omega]
  exact rowsF_get (f := fun i => endC (s.e i)) (fun _ => endC_length _) hj ht
/-- A row of cells takes the place of another one. -/
theorem spl_list (l vs : List Value) (o : Nat) (h : o + vs.length ≤ l.length) : spl l.toArray o vs = (l.take o ++ vs ++ l.drop (o + vs.length)).toArray := by
  apply Array.ext_getElem?
  intro k
  rw [spl_get vs o _ k (by simpa using h)]
  simp only [List.getElem?_toArray, List.append_assoc]
  by_cases h1 : k < o
  · rw [if_neg (by omega), List.getElem?_append_left (by rw [List.length_take]; omega), List.getElem?_take_of_lt h1]
  · rw [List.getElem?_append_right (by rw [List.length_take]; omega), List.length_take, Nat.min_eq_left (by omega)]
    by_cases h2 : k < o + vs.length
    · rw [if_pos (by omega), List.getElem?_append_left (by omega)]
    · rw [if_neg (by omega), List.getElem?_append_right (by omega), List.getElem?_drop]
      congr 1
      omega
theorem rowsF_swap {f g : Nat → List Value} {c i : Nat} (h : ∀ i, (f i).length = c) (hn : ∀ k, k ≠ i → g k = f k) : ∀ {m : Nat}, i < m → rowsF g m = (rowsF f m).take (i * c) ++ g i ++ (rowsF f m).drop (i * c + c)
  | 0, hi => absurd hi (Nat.not_lt_zero _)
  | m + 1, hi => by
    have hl := rowsF_length h m
    rw [rowsF, rowsF]
    by_cases e : i = m
    · subst e
      rw [List.take_append_of_le_length (by omega), List.take_of_length_le (by omega), List.drop_eq_nil_of_le (by rw [List.length_append, hl, h]; omega), List.append_nil]
      congr 1
      exact rowsF_congr (fun k hk => hn k (by omega))
    · have hle : (i + 1) * c ≤ m * c := Nat.mul_le_mul_right _ (by omega)
      rw [Nat.succ_mul] at hle
      rw [rowsF_swap h hn (by omega), hn m (fun e' => e e'.symm), List.take_append_of_le_length (by omega), List.drop_append_of_le_length (by omega)]
      simp [List.append_assoc]
theorem ks_putk (s : Ks) {i : Nat} (hi : i < 8) (x : Ky) : spl (ksC s).toArray (1 + i * 18) (keyC x) = (ksC { s with k := put s.k i x }).toArray := by
  have hk := rowsF_length (f := fun i => keyC (s.k i)) (c := 18) (fun _ => keyC_length _) 8
  rw [spl_list _ _ _ (by rw [ksC_length, keyC_length]; omega), keyC_length]
  congr 1
  have e := rowsF_swap (f := fun i => keyC (s.k i)) (g := fun j => keyC (put s.k i x j)) (c := 18) (i := i) (fun _ => keyC_length _) (fun k hne => by simp only [put_ne _ _ hne]) hi
  simp only [put_self] at e
  simp only [ksC]
  rw [e, show 1 + i * 18 = i * 18 + 1 by omega, List.take_succ_cons, show i * 18 + 1 + 18 = (i * 18 + 18) + 1 by omega, List.drop_succ_cons, List.take_append_of_le_length (by omega), List.drop_append_of_le_length (by omega)]
  simp [List.append_assoc]
theorem ks_pute (s : Ks) {t : Nat} (ht : t < 16) (x : En) : spl (ksC s).toArray (145 + t * 4) (endC x) = (ksC { s with e := put s.e t x }).toArray := by
  have hk := rowsF_length (f := fun i => keyC (s.k i)) (c := 18) (fun _ => keyC_length _) 8
  have he := rowsF_length (f := fun i => endC (s.e i)) (c := 4) (fun _ => endC_length _) 16
  rw [spl_list _ _ _ (by rw [ksC_length, endC_length]; omega), endC_length]
  congr 1
  have e := rowsF_swap (f := fun i => endC (s.e i)) (g := fun j => endC (put s.e t x j)) (c := 4) (i := t) (fun _ => endC_length _) (fun k hne => by simp only [put_ne _ _ hne]) ht
  simp only [put_self] at e
  simp only [ksC]
  rw [e, show 145 + t * 4 = (144 + t * 4) + 1 by omega, List.take_succ_cons, show 144 + t * 4 + 1 + 4 = (144 + (t * 4 + 4)) + 1 by omega, List.drop_succ_cons, List.take_append, List.drop_append, hk]
  rw [List.take_of_length_le (by omega), List.drop_eq_nil_of_le (by omega), show 144 + t * 4 - 8 * 18 = t * 4 by omega, show 144 + (t * 4 + 4) - 8 * 18 = t * 4 + 4 by omega]
  simp [List.append_assoc]
/-- One cell of a key, of an end. -/
theorem ks_setk (s : Ks) {i j : Nat} (hi : i < 8) (hj : j < 18) (x : Ky) (v : Value) (hx : keyC x = (keyC (s.k i)).set j v) : (ksC s).toArray.setIfInBounds (1 + i * 18 + j) v = (ksC { s with k := put s.k i x }).toArray := by
  have hk := rowsF_length (f := fun i => keyC (s.k i)) (c := 18) (fun _ => keyC_length _) 8
  rw [List.setIfInBounds_toArray, show 1 + i * 18 + j = (i * 18 + j) + 1 by omega, ksC, List.set_cons_succ, List.set_append_left _ _ (by omega)]
  rw [rowsF_set (f := fun i => keyC (s.k i)) (g := fun k => keyC (put s.k i x k)) (fun _ => keyC_length _) hj (by simp only [put_self]; exact hx) (fun k hne => by simp only [put_ne _ _ hne]) hi]
  rfl
theorem ks_sete (s : Ks) {t j : Nat} (ht : t < 16) (hj : j < 4) (x : En) (v : Value) (hx : endC x = (endC (s.e t)).set j v) : (ksC s).toArray.setIfInBounds (145 + t * 4 + j) v = (ksC { s with e := put s.e t x }).toArray := by
  have hk := rowsF_length (f := fun i => keyC (s.k i)) (c := 18) (fun _ => keyC_length _) 8
  rw [List.setIfInBounds_toArray, show 145 + t * 4 + j = (144 + (t * 4 + j)) + 1 by omega, ksC, List.set_cons_succ, List.set_append_right _ _ (by omega), hk, show 144 + (t * 4 + j) - 8 * 18 = t * 4 + j by omega]
  rw [rowsF_set (f := fun i => endC (s.e i)) (g := fun k => endC (put s.e t x k)) (fun _ => endC_length _) hj (by simp only [put_self]; exact hx) (fun k hne => by simp only [put_ne _ _ hne]) ht]
  rfl
theorem k_cells {w : World} {b : Nat} {s : Ks} (h : w.heap[b]? = some (kO s)) : w.cell? ⟨b, 0, none⟩ = some (.int .i64 s.n) ∧
    (∀ i : Nat, i < 8 → w.cell? ⟨b, 1 + i * 18, none⟩ = some (.bool (s.k i).is) ∧ w.cell? ⟨b, 1 + i * 18 + 1, none⟩ = some (.int .i64 (s.k i).d) ∧ ∀ t : Nat, t < 16 → w.cell? ⟨b, 1 + i * 18 + 2 + t, none⟩ = some (.int .i64 ((s.k i).v t))) ∧
    ∀ t : Nat, t < 16 → w.cell? ⟨b, 145 + t * 4, none⟩ = some (.int .i64 (s.e t).round) ∧ w.cell? ⟨b, 145 + t * 4 + 1, none⟩ = some (.int .i64 (s.e t).at_) ∧ w.cell? ⟨b, 145 + t * 4 + 2, none⟩ = some (.bool (s.e t).some_) ∧ w.cell? ⟨b, 145 + t * 4 + 3, none⟩ = some (.bool (s.e t).over) := by
  refine ⟨has_cell 0 h rfl, fun i hi => ⟨has_cell _ h ?_, has_cell _ h ?_, fun t ht => has_cell _ h ?_⟩, fun t ht => ⟨has_cell _ h ?_, has_cell _ h ?_, has_cell _ h ?_, has_cell _ h ?_⟩⟩
  · rw [List.getElem?_toArray, ← Nat.add_zero (1 + i * 18), ks_key s hi (by decide)]; rfl
  · rw [List.getElem?_toArray, ks_key s hi (by decide)]; rfl
  · rw [List.getElem?_toArray, show 1 + i * 18 + 2 + t = 1 + i * 18 + (t + 1 + 1) by omega, ks_key s hi (by omega), keyC, List.getElem?_cons_succ, List.getElem?_cons_succ, rowI_get _ ht]
  · rw [List.getElem?_toArray, ← Nat.add_zero (145 + t * 4), ks_end s ht (by decide)]; rfl
  · rw [List.getElem?_toArray, ks_end s ht (by decide)]; rfl
  · rw [List.getElem?_toArray, ks_end s ht (by decide)]; rfl
  · rw [List.getElem?_toArray, ks_end s ht (by decide)]; rfl

theorem there_c (w : World) (b : Nat) (s : Ks) (h : w.heap[b]? = some (kO s)) (ok : KOk s) : Calls Try.prog 30 #[.pointer (some ⟨b, 0, none⟩)] w fun e w' => e = .returned (.bool true) ∧ w = w' := by
  have c := (k_cells h).1
  have hp : decide (0 < s.n) = true := by simp; exact ok.n1
  clear h
  go_enter Try.func30, Try.ntmps30
  go_wp2
  go_ret
  exact ⟨rfl, rfl⟩
def thF (t : Int) : Bool := decide (0 ≤ t) && decide (t < 16)
theorem thread_c (w : World) (t : Int) {y : Bool} (hy : thF t = y) : Calls Try.prog 34 #[.int .i64 t] w fun e w' => e = .returned (.bool y) ∧ w = w' := by
  subst hy
  unfold thF
  by_cases h0 : 0 ≤ t
  · go_enter Try.func34, Try.ntmps34
    go_wp2
    go_ret
    exact ⟨by simp [h0], rfl⟩
  · go_enter Try.func34, Try.ntmps34
    go_wp2
    go_ret
    exact ⟨by simp; omega, rfl⟩
/-- Is that key made? -/
def mkF (s : Ks) (i : Int) : Bool := decide (0 ≤ i) && decide (i < s.n) && (s.k i.toNat).is
theorem mkF_nat {s : Ks} {i : Int} (h : mkF s i = true) : ∃ k : Nat, i = k ∧ k < s.n ∧ (s.k k).is = true := by
  simp [mkF] at h
  exact ⟨i.toNat, by omega, by omega, h.2⟩
theorem of_c (w : World) (b : Nat) (s : Ks) (i : Nat) (h : w.heap[b]? = some (kO s)) (ok : KOk s) (hi : i < s.n) (hm : (s.k i).is = true) : Calls Try.prog 49 #[.pointer (some ⟨b, 0, none⟩), .int .i64 i] w fun e w' => e = .returned (.tuple #[.pointer (some ⟨b, 1 + i * 18, none⟩), .int .i64 0]) ∧ w = w' := by
  have n2 := ok.n2
  obtain ⟨c0, c1, _⟩ := k_cells h
  obtain ⟨k0, _, _⟩ := c1 i (by omega)
  rw [hm] at k0
  have hii : (i : Int) < 8 := by omega
  have hd : decide (s.n ≤ i) = false := by rw [decide_eq_false_iff_not]; omega
  clear c1
  go_enter Try.func49, Try.ntmps49
  go_wp2_with (go_at_call 30; refine (there_c _ _ _ h ok).mono ?_; rintro e w' ⟨rfl, rfl⟩)
  go_ret2
  exact ⟨rfl, rfl⟩
theorem of_no (w : World) (b : Nat) (s : Ks) (i : Int) (h : w.heap[b]? = some (kO s)) (ok : KOk s) (hm : mkF s i = false) : Calls Try.prog 49 #[.pointer (some ⟨b, 0, none⟩), .int .i64 i] w fun e w' => e = .returned (.tuple #[.pointer none, .int .i64 6]) ∧ w = w' := by
  have n2 := ok.n2
  obtain ⟨c0, c1, _⟩ := k_cells h
  by_cases h0 : i < 0
  · clear c1 hm
    go_enter Try.func49, Try.ntmps49
    go_wp2_with (go_at_call 30; refine (there_c _ _ _ h ok).mono ?_; rintro e w' ⟨rfl, rfl⟩)
    go_ret2
    exact ⟨rfl, rfl⟩
  · obtain ⟨k, rfl⟩ : ∃ k : Nat, i = k := ⟨i.toNat, by omega⟩
    by_cases h1 : k < s.n
    · obtain ⟨k0, _, _⟩ := c1 k (by omega)
      have hk : (s.k k).is = false := by simpa [mkF, h1] using hm
      rw [hk] at k0
      have hii : (k : Int) < 8 := by omega
      have hd : decide (s.n ≤ k) = false := by rw [decide_eq_false_iff_not]; omega
      clear c1 hm hk
      go_enter Try.func49, Try.ntmps49
      go_wp2_with (go_at_call 30; refine (there_c _ _ _ h ok).mono ?_; rintro e w' ⟨rfl, rfl⟩)
      go_ret2
      exact ⟨rfl, rfl⟩
    · have hd : decide (s.n ≤ k) = true := by rw [decide_eq_true_eq]; omega
      clear c1 hm
      go_enter Try.func49, Try.ntmps49
      go_wp2_with (go_at_call 30; refine (there_c _ _ _ h ok).mono ?_; rintro e w' ⟨rfl, rfl⟩)
      go_ret2
      exact ⟨rfl, rfl⟩
end Go.Proofs.Ytcchebjeohdkfaa
