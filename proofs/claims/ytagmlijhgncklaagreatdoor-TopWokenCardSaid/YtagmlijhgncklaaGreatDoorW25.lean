/-
  What the functions of a cancellation compute, over the translation of this seat. Conditions: the blocks that are named hold what is said.
  Keys and values, as they lie; what the small functions compute, over the translation of this seat. Conditions: the blocks that are named hold what is said.
  Next of keys, over the translation of this seat. Conditions: the blocks that are named hold what is said.
  Graphs of who waits for whom, as they lie; what the small functions compute, over the translation of this seat. Conditions: the blocks that are named hold what is said.
-/
import Derived.Test.YtagmlijhgncklaaGreatDoorProg
import Derived.Test.YtagmlijhgncklaaGreatDoorW08
import Derived.Deep.MidRow
import Derived.Deep.DeepCutAuto
import Derived.Deep.CutBlock
import Derived.StillTailTactics
import Derived.Outline
set_option linter.unusedVariables false
namespace Go.Proofs.YtagmlijhgncklaaGreatDoor.Can
open Go.RowKit

def plc (p : Int × Int) : List Value := [.int .i64 p.1, .int .i64 p.2]
def rowC (L : List (Int × Int)) : List Value := L.flatMap plc
/-- The cleanups, those beyond their number among them. -/
def padL (L : List (Int × Int)) : List (Int × Int) := L ++ List.replicate (8 - L.length) (0, 0)
/-- A cancellation: asked, enabled, at once, unwinding; its cleanups. -/
structure Cs where
  ak : Bool
  on : Bool
  ay : Bool
  un : Bool
  L : List (Int × Int)
def canC (s : Cs) : List Value := .bool true :: .bool s.ak :: .bool s.on :: .bool s.ay :: .bool s.un :: (rowC (padL s.L) ++ [.int .i64 s.L.length])
def canO (s : Cs) : Obj := .cells (canC s).toArray 266 (0, 0)
def at0 (L : List (Int × Int)) (i : Nat) : Int := (L.getD i (0, 0)).1
def at1 (L : List (Int × Int)) (i : Nat) : Int := (L.getD i (0, 0)).2

theorem rowC_length (L : List (Int × Int)) : (rowC L).length = L.length * 2 := by
  induction L with
  | nil => rfl
  | cons p L ih => simp [rowC, plc] at ih ⊢; omega
theorem rowC_get : ∀ (L : List (Int × Int)) (i : Nat), i < L.length → (rowC L)[i * 2]? = some (.int .i64 (at0 L i)) ∧ (rowC L)[i * 2 + 1]? = some (.int .i64 (at1 L i))
  | p :: L, 0, _ => by simp [rowC, plc, at0, at1]
  | p :: L, i + 1, h => by
    have := rowC_get L i (by simpa using h)
    have e : rowC (p :: L) = .int .i64 p.1 :: .int .i64 p.2 :: rowC L := rfl
    rw [e, show (i + 1) * 2 = i * 2 + 1 + 1 by omega]
    simpa [at0, at1] using this
theorem padL_length {L : List (Int × Int)} (h : L.length ≤ 8) : (padL L).length = 8 := by simp [padL]; omega
/-- The cells of the flags and of the number. -/
theorem can_flags {w : World} {b : Nat} {s : Cs} (h : w.heap[b]? = some (canO s)) (hl : s.L.length ≤ 8) :
    w.cell? ⟨b, 0, none⟩ = some (.bool true) ∧ w.cell? ⟨b, 1, none⟩ = some (.bool s.ak) ∧ w.cell? ⟨b, 2, none⟩ = some (.bool s.on) ∧ w.cell? ⟨b, 3, none⟩ = some (.bool s.ay) ∧ w.cell? ⟨b, 4, none⟩ = some (.bool s.un) ∧ w.cell? ⟨b, 21, none⟩ = some (.int .i64 s.L.length) := by
  have hp := padL_length hl
  have hr : (rowC (padL s.L)).length = 16 := by rw [rowC_length, hp]
  exact ⟨has_cell 0 h rfl, has_cell 1 h rfl, has_cell 2 h rfl, has_cell 3 h rfl, has_cell 4 h rfl, has_cell 21 h (by simp [canC, hr])⟩
def newS : Cs := ⟨false, true, false, false, []⟩
theorem new_c (w : World) : Calls Tryz.prog 67 #[] w fun e w' => e = .returned (.pointer (some ⟨w.heap.size, 0, none⟩)) ∧ w'.heap[w.heap.size]? = some (canO newS) ∧ Below w.heap.size w w' ∧ w.heap.size < w'.heap.size := by
  go_enter Tryz.func67, Tryz.ntmps67
  go_wp2
  go_ret
  refine ⟨rfl, ?_, (Below.refl _ _).alloc (Nat.le_refl _) _, by simp⟩
  rw [heap_alloc_new]
  rfl
theorem there_c (w : World) (b : Nat) (s : Cs) (h : w.heap[b]? = some (canO s)) (hl : s.L.length ≤ 8) : Calls Tryz.prog 94 #[.pointer (some ⟨b, 0, none⟩)] w fun e w' => e = .returned (.bool true) ∧ w = w' := by
  have c := (can_flags h hl).1
  clear h
  go_enter Tryz.func94, Tryz.ntmps94
  go_wp2
  go_ret
  exact ⟨rfl, rfl⟩
theorem asked_c (w : World) (b : Nat) (s : Cs) (h : w.heap[b]? = some (canO s)) (hl : s.L.length ≤ 8) : Calls Tryz.prog 133 #[.pointer (some ⟨b, 0, none⟩)] w fun e w' => e = .returned (.bool s.ak) ∧ w = w' := by
  obtain ⟨c0, c1, c2, c3, c4, c5⟩ := can_flags h hl
  go_enter Tryz.func133, Tryz.ntmps133
  go_wp2_with (go_at_call 94; refine (there_c _ _ _ h hl).mono ?_; rintro e w' ⟨rfl, rfl⟩)
  go_ret
  exact ⟨rfl, rfl⟩
theorem unwinds_c (w : World) (b : Nat) (s : Cs) (h : w.heap[b]? = some (canO s)) (hl : s.L.length ≤ 8) : Calls Tryz.prog 52 #[.pointer (some ⟨b, 0, none⟩)] w fun e w' => e = .returned (.bool s.un) ∧ w = w' := by
  obtain ⟨c0, c1, c2, c3, c4, c5⟩ := can_flags h hl
  go_enter Tryz.func52, Tryz.ntmps52
  go_wp2_with (go_at_call 94; refine (there_c _ _ _ h hl).mono ?_; rintro e w' ⟨rfl, rfl⟩)
  go_ret
  exact ⟨rfl, rfl⟩
def actsF (s : Cs) (p : Bool) : Bool := s.ak && s.on && !s.un && (p || s.ay)
theorem acts_c (w : World) (b : Nat) (s : Cs) (p : Bool) (h : w.heap[b]? = some (canO s)) (hl : s.L.length ≤ 8) : Calls Tryz.prog 72 #[.pointer (some ⟨b, 0, none⟩), .bool p] w fun e w' => e = .returned (.bool (actsF s p)) ∧ w = w' := by
  obtain ⟨c0, c1, c2, c3, c4, c5⟩ := can_flags h hl
  have ha := asked_c w b s h hl
  clear h
  obtain ⟨ak, on, ay, un, L⟩ := s
  unfold actsF
  dsimp only at *
  cases ak
  · go_enter Tryz.func72, Tryz.ntmps72
    go_wp2_with (go_at_call 133; refine ha.mono ?_; rintro e w' ⟨rfl, rfl⟩)
    go_ret
    exact ⟨rfl, rfl⟩
  · cases on
    · go_enter Tryz.func72, Tryz.ntmps72
      go_wp2_with (go_at_call 133; refine ha.mono ?_; rintro e w' ⟨rfl, rfl⟩)
      go_ret
      exact ⟨rfl, rfl⟩
    · cases un
      · cases p
        · go_enter Tryz.func72, Tryz.ntmps72
          go_wp2_with (go_at_call 133; refine ha.mono ?_; rintro e w' ⟨rfl, rfl⟩)
          go_ret
          exact ⟨rfl, rfl⟩
        · go_enter Tryz.func72, Tryz.ntmps72
          go_wp2_with (go_at_call 133; refine ha.mono ?_; rintro e w' ⟨rfl, rfl⟩)
          go_ret
          exact ⟨rfl, rfl⟩
      · go_enter Tryz.func72, Tryz.ntmps72
        go_wp2_with (go_at_call 133; refine ha.mono ?_; rintro e w' ⟨rfl, rfl⟩)
        go_ret
        exact ⟨rfl, rfl⟩

theorem f37_c (w : World) (b x : Nat) (h : w.heap[x]? = some (.cells #[.pointer (some ⟨b, 0, none⟩)] 138 (0, 0))) : Calls Tryz.prog 201 #[.pointer (some ⟨x, 0, none⟩)] w fun e w' => e = .returned (.pointer (some ⟨b, 4, none⟩)) ∧ w = w' := by
  have c := has_cell 0 h rfl
  go_enter Tryz.func201, Tryz.ntmps201
  go_wp2
  go_ret
  exact ⟨rfl, rfl⟩
theorem set_unw (w : World) (b y : Nat) (s : Cs) (x : Bool) (h : w.heap[b]? = some (canO s)) (hl : s.L.length ≤ 8) (hy : w.heap[y]? = some (.cells #[.pointer (some ⟨b, 0, none⟩)] 138 (0, 0))) :
    Calls Tryz.prog 200 #[.pointer (some ⟨b, 0, none⟩), .func (.func 201) #[] #[.pointer (some ⟨y, 0, none⟩)], .bool x] w fun e w' => e = .returned (.tuple #[.bool s.un, .int .i64 0]) ∧ Upd w b (canO { s with un := x }) w' := by
  obtain ⟨c0, c1, c2, c3, c4, c5⟩ := can_flags h hl
  have fz := has_free h
  go_enter Tryz.func200, Tryz.ntmps200
  go_wp2_with (first | (go_at_call 94; refine (there_c _ _ _ h hl).mono ?_; rintro e w' ⟨rfl, rfl⟩) | (go_at_call 201; refine (f37_c _ _ _ hy).mono ?_; rintro e w' ⟨rfl, rfl⟩))
  go_ret2
  exact ⟨rfl, ((Upd.refl h).setCell 4 (.bool x)).to rfl⟩

theorem unwind_c (w : World) (b : Nat) (s : Cs) (h : w.heap[b]? = some (canO s)) (hl : s.L.length ≤ 8) :
    Calls Tryz.prog 134 #[.pointer (some ⟨b, 0, none⟩)] w fun e w' => e = .returned (.int .i64 (if s.un = true then 7 else 0)) ∧ Upd w b (canO { s with un := true }) w' := by
  go_enter Tryz.func134, Tryz.ntmps134
  have hx := heap_alloc_new w (.cells #[.pointer (some ⟨b, 0, none⟩)] 138)
  have hb : Below w.heap.size w (w.alloc (.cells #[.pointer (some ⟨b, 0, none⟩)] 138)) := (Below.refl _ _).alloc (Nat.le_refl _) _
  go_wp2_with fail
  refine calls_world (fun W => W.heap[w.heap.size]? = some (.cells #[.pointer (some ⟨b, 0, none⟩)] 138 (0, 0)) ∧ Below w.heap.size w W) ⟨hx, hb⟩ ?_
  clear hx hb
  rintro W ⟨hx, hb⟩
  refine (set_unw W b _ s true (below_has hb h) hl hx).mono ?_; rintro e w1 ⟨rfl, u⟩
  have hu := Upd.after hb u
  clear hb u hx
  obtain ⟨ak, on, ay, un, L⟩ := s
  cases un
  · go_wp2
    go_ret
    exact ⟨rfl, hu⟩
  · go_wp2
    go_ret
    exact ⟨rfl, hu⟩

theorem pop_none (w : World) (b : Nat) (s : Cs) (h : w.heap[b]? = some (canO s)) (hl : s.L = []) :
    Calls Tryz.prog 202 #[.pointer (some ⟨b, 0, none⟩)] w fun e w' => e = .returned (.tuple #[.agg #[.int .i64 0, .int .i64 0], .int .i64 6]) ∧ Below w.heap.size w w' := by
  have hl8 : s.L.length ≤ 8 := by rw [hl]; decide
  have H := Lib.hid h
  have HL := Lib.hid hl8
  clear h hl8
  go_enter Tryz.func202, Tryz.ntmps202
  go_upto_region 1 with fail
  refine world_wp (fun W => Below w.heap.size w W ∧ W.heap[w.heap.size]? = some (.cells #[.int .i64 0, .int .i64 0] 263 (0, 0))) ⟨(Below.refl _ _).alloc (Nat.le_refl _) _, heap_alloc_new _ _⟩ ?_
  rintro W ⟨hB, hX⟩
  have hC := below_has hB H.out
  obtain ⟨c0, c1, c2, c3, c4, c5⟩ := can_flags hC HL.out
  have c6 : W.cell? ⟨b, 21, none⟩ = some (.int .i64 0) := by rw [c5, hl]; rfl
  clear c5 hl
  have x0 := has_cell 0 hX rfl
  have x1 := has_cell 1 hX rfl
  have fx := has_free hX
  go_wp2_with (go_at_call 94; refine (there_c _ _ _ hC HL.out).mono ?_; rintro e w' ⟨rfl, rfl⟩)
  have hB2 : Below w.heap.size w ((W.setCell ⟨w.heap.size, 0, none⟩ (.int .i64 0)).setCell ⟨w.heap.size, 1, none⟩ (.int .i64 0)) := (hB.setCell (Nat.le_refl _) _).setCell (Nat.le_refl _) _
  have hX2 := (((Upd.refl hX).setCell 0 (.int .i64 0)).setCell 1 (.int .i64 0)).1
  have q0 := has_cell 0 hX2 rfl
  have q1 := has_cell 1 hX2 rfl
  refine bodyPost_ret (v := .tuple #[.agg #[.int .i64 0, .int .i64 0], .int .i64 6]) ?_ rfl ⟨rfl, hB2⟩
  simp [results, Tryz.f202, go_sem, q0, q1]
end Go.Proofs.YtagmlijhgncklaaGreatDoor.Can
namespace Go.Proofs.YtagmlijhgncklaaGreatDoor.Key
open Go.RowKit

def put {α : Type} (f : Nat → α) (i : Nat) (x : α) : Nat → α := fun j => if j = i then x else f j
theorem put_self {α : Type} (f : Nat → α) (i : Nat) (x : α) : put f i x i = x := by simp [put]
theorem put_ne {α : Type} (f : Nat → α) {i j : Nat} (x : α) (h : j ≠ i) : put f i x j = f j := by simp [put, h]
/-- A key: is it made, its destructor, the threads' values. -/
structure Ky where
  is : Bool
  d : Int
  v : Nat → Int
/-- Keys: how many, the keys, the threads' ends. -/
structure Ks where
  n : Nat
  k : Nat → Ky
  e : Nat → En
structure KOk (s : Ks) : Prop where
  n1 : 1 ≤ s.n
  n2 : s.n ≤ 8
  e : ∀ t, (s.e t).round ≤ 4 ∧ (s.e t).at_ ≤ 8
def keyC (x : Ky) : List Value := .bool x.is :: .int .i64 x.d :: rowI x.v 16
def endC (e : En) : List Value := [.int .i64 e.round, .int .i64 e.at_, .bool e.some_, .bool e.over]
theorem keyC_length (x : Ky) : (keyC x).length = 18 := by simp [keyC, rowI_length]
theorem endC_length (x : En) : (endC x).length = 4 := rfl
def ksC (s : Ks) : List Value := .int .i64 s.n :: (rowsF (fun i => keyC (s.k i)) 8 ++ rowsF (fun t => endC (s.e t)) 16)
def kO (s : Ks) : Obj := .cells (ksC s).toArray 211 (0, 0)
theorem ksC_length (s : Ks) : (ksC s).length = 209 := by
  simp [ksC, rowsF_length (f := fun i => keyC (s.k i)) (c := 18) (fun _ => keyC_length _), rowsF_length (f := fun i => endC (s.e i)) (c := 4) (fun _ => endC_length _)]
theorem ks_key (s : Ks) {i j : Nat} (hi : i < 8) (hj : j < 18) : (ksC s)[1 + i * 18 + j]? = (keyC (s.k i))[j]? := by
  rw [show 1 + i * 18 + j = (i * 18 + j) + 1 by omega, ksC, List.getElem?_cons_succ, List.getElem?_append_left (by rw [rowsF_length (c := 18) (fun _ => keyC_length _)]; omega)]
  exact rowsF_get (f := fun i => keyC (s.k i)) (fun _ => keyC_length _) hj hi
theorem ks_end (s : Ks) {t j : Nat} (ht : t < 16) (hj : j < 4) : (ksC s)[145 + t * 4 + j]? = (endC (s.e t))[j]? := by
  rw [show 145 + t * 4 + j = (144 + (t * 4 + j)) + 1 by omega, ksC, List.getElem?_cons_succ, List.getElem?_append_right (by rw [rowsF_length (c := 18) (fun _ => keyC_length _)]; omega), rowsF_length (c := 18) (fun _ => keyC_length _), show 144 + (t * 4 + j) - 8 * 18 = t * 4 + j by omega]
  exact rowsF_get (f := fun i => endC (s.e i)) (fun _ => endC_length _) hj ht
/-- A row of cells takes the place of another one. -/
theorem spl_list (l vs : List Value) (o : Nat) (h : o + vs.length ≤ l.length) : spl l.toArray o vs = (l.take o ++ vs ++ l.drop (o + vs.length)).toArray := by
  apply Array.ext_getElem?
  intro k
  rw [spl_get vs o _ k (by simpa using h)]
  simp only [List.getElem?_toArray, List.append_assoc]
  by_cases h1 : k < o
  · rw [if_neg (by omega), List.getElem?_append_left (by rw [List.length_take]; omega), List.getElem?_take_of_lt h1]
  · rw [List.getElem?_append_right (by rw [List.length_take]; omega), List.length_take, Nat.min_eq_left (by omega)]
    by_cases h2 : k < o + vs.length
    · rw [if_pos (by omega), List.getElem?_append_left (by omega)]
    · rw [if_neg (by omega), List.getElem?_append_right (by omega), List.getElem?_drop]
      congr 1
      omega
theorem rowsF_swap {f g : Nat → List Value} {c i : Nat} (h : ∀ i, (f i).length = c) (hn : ∀ k, k ≠ i → g k = f k) : ∀ {m : Nat}, i < m → rowsF g m = (rowsF f m).take (i * c) ++ g i ++ (rowsF f m).drop (i * c + c)
  | 0, hi => absurd hi (Nat.not_lt_zero _)
  | m + 1, hi => by
    have hl := rowsF_length h m
    rw [rowsF, rowsF]
    by_cases e : i = m
    · subst e
      rw [List.take_append_of_le_length (by omega), List.take_of_length_le (by omega), List.drop_eq_nil_of_le (by rw [List.length_append, hl, h]; omega), List.append_nil]
      congr 1
      exact rowsF_congr (fun k hk => hn k (by omega))
    · have hle : (i + 1) * c ≤ m * c := Nat.mul_le_mul_right _ (by omega)
      rw [Nat.succ_mul] at hle
      rw [rowsF_swap h hn (by omega), hn m (fun e' => e e'.symm), List.take_append_of_le_length (by omega), List.drop_append_of_le_length (by omega)]
      simp [List.append_assoc]
theorem ks_pute (s : Ks) {t : Nat} (ht : t < 16) (x : En) : spl (ksC s).toArray (145 + t * 4) (endC x) = (ksC { s with e := put s.e t x }).toArray := by
  have hk := rowsF_length (f := fun i => keyC (s.k i)) (c := 18) (fun _ => keyC_length _) 8
  have he := rowsF_length (f := fun i => endC (s.e i)) (c := 4) (fun _ => endC_length _) 16
  rw [spl_list _ _ _ (by rw [ksC_length, endC_length]; omega), endC_length]
  congr 1
  have e := rowsF_swap (f := fun i => endC (s.e i)) (g := fun j => endC (put s.e t x j)) (c := 4) (i := t) (fun _ => endC_length _) (fun k hne => by simp only [put_ne _ _ hne]) ht
  simp only [put_self] at e
  simp only [ksC]
  rw [e, show 145 + t * 4 = (144 + t * 4) + 1 by omega, List.take_succ_cons, show 144 + t * 4 + 1 + 4 = (144 + (t * 4 + 4)) + 1 by omega, List.drop_succ_cons, List.take_append, List.drop_append, hk]
  rw [List.take_of_length_le (by omega), List.drop_eq_nil_of_le (by omega), show 144 + t * 4 - 8 * 18 = t * 4 by omega, show 144 + (t * 4 + 4) - 8 * 18 = t * 4 + 4 by omega]
  simp [List.append_assoc]
/-- One cell of a key, of an end. -/
theorem ks_setk (s : Ks) {i j : Nat} (hi : i < 8) (hj : j < 18) (x : Ky) (v : Value) (hx : keyC x = (keyC (s.k i)).set j v) : (ksC s).toArray.setIfInBounds (1 + i * 18 + j) v = (ksC { s with k := put s.k i x }).toArray := by
  have hk := rowsF_length (f := fun i => keyC (s.k i)) (c := 18) (fun _ => keyC_length _) 8
  rw [List.setIfInBounds_toArray, show 1 + i * 18 + j = (i * 18 + j) + 1 by omega, ksC, List.set_cons_succ, List.set_append_left _ _ (by omega)]
  rw [rowsF_set (f := fun i => keyC (s.k i)) (g := fun k => keyC (put s.k i x k)) (fun _ => keyC_length _) hj (by simp only [put_self]; exact hx) (fun k hne => by simp only [put_ne _ _ hne]) hi]
  rfl
theorem ks_sete (s : Ks) {t j : Nat} (ht : t < 16) (hj : j < 4) (x : En) (v : Value) (hx : endC x = (endC (s.e t)).set j v) : (ksC s).toArray.setIfInBounds (145 + t * 4 + j) v = (ksC { s with e := put s.e t x }).toArray := by
  have hk := rowsF_length (f := fun i => keyC (s.k i)) (c := 18) (fun _ => keyC_length _) 8
  rw [List.setIfInBounds_toArray, show 145 + t * 4 + j = (144 + (t * 4 + j)) + 1 by omega, ksC, List.set_cons_succ, List.set_append_right _ _ (by omega), hk, show 144 + (t * 4 + j) - 8 * 18 = t * 4 + j by omega]
  rw [rowsF_set (f := fun i => endC (s.e i)) (g := fun k => endC (put s.e t x k)) (fun _ => endC_length _) hj (by simp only [put_self]; exact hx) (fun k hne => by simp only [put_ne _ _ hne]) ht]
  rfl
theorem k_cells {w : World} {b : Nat} {s : Ks} (h : w.heap[b]? = some (kO s)) : w.cell? ⟨b, 0, none⟩ = some (.int .i64 s.n) ∧
    (∀ i : Nat, i < 8 → w.cell? ⟨b, 1 + i * 18, none⟩ = some (.bool (s.k i).is) ∧ w.cell? ⟨b, 1 + i * 18 + 1, none⟩ = some (.int .i64 (s.k i).d) ∧ ∀ t : Nat, t < 16 → w.cell? ⟨b, 1 + i * 18 + 2 + t, none⟩ = some (.int .i64 ((s.k i).v t))) ∧
    ∀ t : Nat, t < 16 → w.cell? ⟨b, 145 + t * 4, none⟩ = some (.int .i64 (s.e t).round) ∧ w.cell? ⟨b, 145 + t * 4 + 1, none⟩ = some (.int .i64 (s.e t).at_) ∧ w.cell? ⟨b, 145 + t * 4 + 2, none⟩ = some (.bool (s.e t).some_) ∧ w.cell? ⟨b, 145 + t * 4 + 3, none⟩ = some (.bool (s.e t).over) := by
  refine ⟨has_cell 0 h rfl, fun i hi => ⟨has_cell _ h ?_, has_cell _ h ?_, fun t ht => has_cell _ h ?_⟩, fun t ht => ⟨has_cell _ h ?_, has_cell _ h ?_, has_cell _ h ?_, has_cell _ h ?_⟩⟩
  · rw [List.getElem?_toArray, ← Nat.add_zero (1 + i * 18), ks_key s hi (by decide)]; rfl
  · rw [List.getElem?_toArray, ks_key s hi (by decide)]; rfl
  · rw [List.getElem?_toArray, show 1 + i * 18 + 2 + t = 1 + i * 18 + (t + 1 + 1) by omega, ks_key s hi (by omega), keyC, List.getElem?_cons_succ, List.getElem?_cons_succ, rowI_get _ ht]
  · rw [List.getElem?_toArray, ← Nat.add_zero (145 + t * 4), ks_end s ht (by decide)]; rfl
  · rw [List.getElem?_toArray, ks_end s ht (by decide)]; rfl
  · rw [List.getElem?_toArray, ks_end s ht (by decide)]; rfl
  · rw [List.getElem?_toArray, ks_end s ht (by decide)]; rfl

theorem there_c (w : World) (b : Nat) (s : Ks) (h : w.heap[b]? = some (kO s)) (ok : KOk s) : Calls Tryz.prog 334 #[.pointer (some ⟨b, 0, none⟩)] w fun e w' => e = .returned (.bool true) ∧ w = w' := by
  have c := (k_cells h).1
  have hp : decide (0 < s.n) = true := by simp; exact ok.n1
  clear h
  go_enter Tryz.func334, Tryz.ntmps334
  go_wp2
  go_ret
  exact ⟨rfl, rfl⟩
def thF (t : Int) : Bool := decide (0 ≤ t) && decide (t < 16)
theorem thread_c (w : World) (t : Int) {y : Bool} (hy : thF t = y) : Calls Tryz.prog 335 #[.int .i64 t] w fun e w' => e = .returned (.bool y) ∧ w = w' := by
  subst hy
  unfold thF
  by_cases h0 : 0 ≤ t
  · go_enter Tryz.func335, Tryz.ntmps335
    go_wp2
    go_ret
    exact ⟨by simp [h0], rfl⟩
  · go_enter Tryz.func335, Tryz.ntmps335
    go_wp2
    go_ret
    exact ⟨by simp; omega, rfl⟩
/-- Is that key made? -/
theorem upd_key (s : Ks) {i t : Nat} (hi : i < 8) (ht : t < 16) (v : Int) : (ksC s).toArray.setIfInBounds (1 + i * 18 + 2 + t) (.int .i64 v) = (ksC { s with k := put s.k i { s.k i with v := put (s.k i).v t v } }).toArray := by
  rw [show 1 + i * 18 + 2 + t = 1 + i * 18 + (t + 1 + 1) by omega]
  refine ks_setk s hi (by omega) _ _ ?_
  simp only [keyC, List.set_cons_succ]
  rw [rowI_set _ _ ht]
  rfl
theorem thF_nat {t : Nat} (ht : t < 16) : thF t = true := by simp [thF]; omega
def noKey : Ky := ⟨false, 0, fun _ => 0⟩
def noEnd : En := ⟨0, 0, false, false⟩
def newK (n : Nat) : Ks := ⟨n, fun _ => noKey, fun _ => noEnd⟩
theorem newK_ok {n : Nat} (h1 : 1 ≤ n) (h2 : n ≤ 8) : KOk (newK n) := ⟨h1, h2, fun _ => ⟨Nat.zero_le _, Nat.zero_le _⟩⟩
set_option maxRecDepth 100000 in
theorem new_c (w : World) (n : Nat) (h0 : 1 ≤ n) (h1 : n ≤ 8) : Calls Tryz.prog 36 #[.int .i64 n] w fun e w' => e = .returned (.tuple #[.pointer (some ⟨w.heap.size, 0, none⟩), .int .i64 0]) ∧ w'.heap[w.heap.size]? = some (kO (newK n)) ∧ Below w.heap.size w w' ∧ w.heap.size < w'.heap.size := by
  obtain ⟨Z, hz, hne, Y, hset, hY⟩ : ∃ Z : Array Value, (∀ w, (zeroValue 211).run Tryz.prog w = .ok (.agg Z) w) ∧ ¬ Z = #[] ∧ ∃ Y, Z.setIfInBounds 0 (.int .i64 n) = Y ∧ Y = (ksC (newK n)).toArray := by
    refine ⟨(ksC (newK 0)).toArray, fun w => by kernel_rfl, fun e => ?_, _, rfl, ?_⟩
    · have := congrArg Array.size e
      rw [List.size_toArray, ksC_length] at this
      cases this
    · simp [ksC, newK]
  have HY := Lib.hid hY
  clear hY
  go_enter Tryz.func36, Tryz.ntmps36
  go_wp2
  go_ret2
  refine ⟨rfl, ?_, (Below.refl _ _).alloc (Nat.le_refl _) _, by simp⟩
  rw [heap_alloc_new, kO, HY.out]
theorem end_one (x : En) : ∀ v ∈ endC x, v.oneCell' = true := by
  intro v hv
  simp only [endC, List.mem_cons, List.not_mem_nil, or_false] at hv
  rcases hv with rfl | rfl | rfl | rfl <;> rfl
theorem store_end {ops : Array Oper} {rest : List Oper} {Q : Exit → Act → World → Prop} {a : Act} {o : Oper} {w : World} {b t : Nat} {s : Ks} (x y : Operand) (k : En) (h1 : o.guard = none) (h2 : o.op = .store 208 x y) (h3 : a.eval x = .pointer (some ⟨b, 145 + t * 4, none⟩)) (h4 : a.eval y = .agg (endC k).toArray) (hb : w.heap[b]? = some (kO s)) (ht : t < 16)
    (h6 : ∀ W, Upd w b (kO { s with e := put s.e t k }) W → wpList Tryz.prog ops Q rest (a.put o.dst undef) W) : wpList Tryz.prog ops Q (o :: rest) a w := by
  refine wpList_store_mid h1 208 x y h2 b (145 + t * 4) (endC k).toArray h3 h4 ?ht ?hi ?ho ?_
  case ht => exact has_there hb _ _ (by simp [ksC_length, endC_length]; omega)
  case hi => rw [List.size_toArray, endC_length]; kernel_rfl
  case ho => exact all_oneCell_toArray (end_one _)
  refine h6 _ ((Upd.setCells (endC k) (145 + t * 4) _ _ (Upd.refl hb)).to ?_)
  rw [ks_pute s ht]
  rfl
/-- The values of a thread in the first j keys are no more. -/
def wipeF (s : Ks) (t j : Nat) : Ks := { s with k := fun i => if i < j then { s.k i with v := put (s.k i).v t 0 } else s.k i }
def clearF (s : Ks) (t : Nat) : Ks := { wipeF s t 8 with e := put s.e t noEnd }
theorem wipe_next (s : Ks) {t j : Nat} : { wipeF s t j with k := put (wipeF s t j).k j { (wipeF s t j).k j with v := put ((wipeF s t j).k j).v t 0 } } = wipeF s t (j + 1) := by
  have e : put (wipeF s t j).k j { (wipeF s t j).k j with v := put ((wipeF s t j).k j).v t 0 } = (wipeF s t (j + 1)).k := by
    funext i
    unfold put
    by_cases h : i = j
    · subst h
      simp [wipeF]
      rfl
    · rw [if_neg h]
      simp only [wipeF]
      by_cases h2 : i < j
      · rw [if_pos h2, if_pos (by omega)]
      · rw [if_neg h2, if_neg (by omega)]
  rw [e]
  rfl
theorem wipe_zero (s : Ks) (t : Nat) : wipeF s t 0 = s := by
  obtain ⟨n, k, e⟩ := s
  simp [wipeF]
theorem clear_c (w : World) (b : Nat) (s : Ks) (t : Nat) (h : w.heap[b]? = some (kO s)) (ok : KOk s) (ht : t < 16) :
    Calls Tryz.prog 343 #[.pointer (some ⟨b, 0, none⟩), .int .i64 t] w fun e w' => e = .returned (.int .i64 0) ∧ Upd w b (kO (clearF s t)) w' := by
  have hth := thF_nat ht
  have hti : (t : Int) < 16 := by omega
  go_enter Tryz.func343, Tryz.ntmps343
  go_wp2_with (first | (go_at_call 334; refine (there_c _ _ _ h ok).mono ?_; rintro e w' ⟨rfl, rfl⟩) | (go_at_call 335; refine (thread_c _ _ hth).mono ?_; rintro e w' ⟨rfl, rfl⟩))
  go_loopw [14] (fun i wr => ∃ j : Nat, i = .int .i64 j ∧ j ≤ 8 ∧ Upd w b (kO (wipeF s t j)) wr) (fun i _ => 8 - (intOf i).toNat)
  case atStart => exact ⟨0, rfl, Nat.zero_le _, by rw [wipe_zero]; exact Upd.refl h⟩
  case round =>
    obtain ⟨j, rfl, hj, u⟩ := hrel
    by_cases hlt : j < 8
    · have k0 := ((k_cells u.1).2.1 j hlt).2.2 t ht
      have fz := has_free u.1
      have hji : (j : Int) < 8 := by omega
      have u2 := (Upd.refl u.1).setCell (1 + j * 18 + 2 + t) (.int .i64 0)
      have u3 : Upd wr b (kO (wipeF s t (j + 1))) _ := u2.to (by rw [upd_key _ hlt ht, wipe_next]; rfl)
      have U := u.trans u3
      have HK := Lib.hid hlt
      clear hlt u u2 u3
      go_wp2_with fail
      go_roundw
      case rel => exact ⟨j + 1, by go_num, HK.out, U⟩
      case measure => have := HK.out; simp [intOf]; omega
    · obtain rfl : j = 8 := by omega
      have hW := u.1
      go_wp2_with (refine store_end (s := wipeF s t 8) (t := t) (.tmp 31) (.tmp 28) noEnd rfl rfl rfl rfl hW ht ?_; intro W u2)
      go_ret
      exact ⟨rfl, u.trans u2⟩
structure Oc where
  st : Int
  who : Int
def ocO (o : Oc) : Obj := .cells #[.int .i64 o.st, .int .i64 o.who] 214 (0, 0)
theorem newo_c (w : World) : Calls Tryz.prog 37 #[] w fun e w' => e = .returned (.pointer (some ⟨w.heap.size, 0, none⟩)) ∧ w'.heap[w.heap.size]? = some (ocO ⟨0, 0⟩) ∧ Below w.heap.size w w' := by
  go_enter Tryz.func37, Tryz.ntmps37
  go_wp2
  go_ret
  exact ⟨rfl, heap_alloc_new _ _, (Below.refl _ _).alloc (Nat.le_refl _) _⟩
theorem at_c (w : World) (b : Nat) (o : Oc) (h : w.heap[b]? = some (ocO o)) :
    Calls Tryz.prog 339 #[.pointer (some ⟨b, 0, none⟩)] w fun e w' => e = .returned (.tuple #[.int .i64 o.st, .int .i64 o.who]) ∧ Below w.heap.size w w' := by
  have c0 := has_cell 0 h rfl
  have c1 := has_cell 1 h rfl
  clear h
  go_enter Tryz.func339, Tryz.ntmps339
  go_wp2_with fail
  go_quiet (fail)
  go_wp2_with fail
  go_ret2
  exact ⟨rfl, below_drewN (Below.refl _ _) _⟩
end Go.Proofs.YtagmlijhgncklaaGreatDoor.Key
namespace Go.Proofs.YtagmlijhgncklaaGreatDoor.Key
open Go.RowKit

def liveF (s : Ks) (t : Nat) : Nat → Bool := fun i => (s.k i).is && decide (0 ≤ (s.k i).d) && ((s.k i).v t != 0)
def nextK (s : Ks) (t : Nat) : En × Option Nat := nextF s.n (liveF s t) ⟨max (s.e t).round 1, (s.e t).at_, (s.e t).some_, (s.e t).over⟩
def nextS (s : Ks) (t : Nat) : Ks := match (nextK s t).2 with
  | some i => { s with k := put s.k i { s.k i with v := put (s.k i).v t 0 }, e := put s.e t (nextK s t).1 }
  | none => { s with e := put s.e t (nextK s t).1 }
def nextD (s : Ks) (t : Nat) : Int × Int × Bool := match (nextK s t).2 with
  | some i => ((s.k i).d, (s.k i).v t, true)
  | none => (0, 0, false)
def nextV (x : Int × Int × Bool) : Value := .tuple #[.agg #[.int .i64 x.1, .int .i64 x.2.1], .bool x.2.2]
def natAt (w : World) (b o : Nat) : Nat := match w.cell? ⟨b, o, none⟩ with
  | some (.int _ x) => x.toNat
  | _ => 0
def boolAt (w : World) (b o : Nat) : Bool := match w.cell? ⟨b, o, none⟩ with
  | some (.bool y) => y
  | _ => false
/-- Within Next: the thread's end stands so. -/
structure NextW (w W : World) (b : Nat) (s : Ks) (t : Nat) (e : En) : Prop where
  u : Upd w b (kO { s with e := put s.e t e }) W
  res : W.heap[w.heap.size]? = some (.cells #[.int .i64 0, .int .i64 0] 263 (0, 0))
theorem NextW.drewN {w W : World} {b : Nat} {s : Ks} {t : Nat} {e : En} (h : NextW w W b s t e) (m : Nat) : NextW w (W.drewN m) b s t e := ⟨h.u.drewN m, h.res⟩
theorem NextW.end_ {w W : World} {b : Nat} {s : Ks} {t : Nat} {e : En} (h : NextW w W b s t e) (ht : t < 16) : W.cell? ⟨b, 145 + t * 4, none⟩ = some (.int .i64 e.round) ∧ W.cell? ⟨b, 145 + t * 4 + 1, none⟩ = some (.int .i64 e.at_) ∧ W.cell? ⟨b, 145 + t * 4 + 2, none⟩ = some (.bool e.some_) ∧ W.cell? ⟨b, 145 + t * 4 + 3, none⟩ = some (.bool e.over) := by
  have := (k_cells h.u.1).2.2 t ht
  simpa only [put_self] using this
theorem put_same {α : Type} (f : Nat → α) (i : Nat) : put f i (f i) = f := by
  funext j
  unfold put
  split
  · rename_i e; rw [e]
  · rfl
theorem put_put {α : Type} (f : Nat → α) (i : Nat) (x y : α) : put (put f i x) i y = put f i y := by
  funext j
  unfold put
  split <;> rfl
/-- One cell of the end turns. -/
theorem NextW.set {w W : World} {b : Nat} {s : Ks} {t : Nat} {e : En} (h : NextW w W b s t e) (hb : b < w.heap.size) (ht : t < 16) {j : Nat} (hj : j < 4) (v : Value) (e' : En) (he : endC e' = (endC e).set j v) : NextW w (W.setCell ⟨b, 145 + t * 4 + j, none⟩ v) b s t e' := by
  have u := (Upd.refl h.u.1).setCell (145 + t * 4 + j) v
  rw [ks_sete _ ht hj e' v (by simp only [put_self]; exact he)] at u
  simp only [put_put] at u
  exact ⟨h.u.trans u, u.other h.res (by omega)⟩
theorem NextW.all {w W W' : World} {b : Nat} {s : Ks} {t : Nat} {e e' : En} (h : NextW w W b s t e) (hb : b < w.heap.size) (u : Upd W b (kO { { s with e := put s.e t e } with e := put (put s.e t e) t e' }) W') : NextW w W' b s t e' := by
  simp only [put_put] at u
  exact ⟨h.u.trans u, u.other h.res (by omega)⟩
theorem NextW.m1 {w W : World} {b : Nat} {s : Ks} {t : Nat} {e : En} (h : NextW w W b s t e) (ht : t < 16) : natAt W b (145 + t * 4) = e.round ∧ natAt W b (145 + t * 4 + 1) = e.at_ ∧ boolAt W b (145 + t * 4 + 3) = e.over := by
  obtain ⟨h0, h1, h2, h3⟩ := h.end_ ht
  unfold natAt boolAt
  rw [h0, h1, h3]
  exact ⟨by simp, by simp, rfl⟩
theorem next_none {s : Ks} {t : Nat} {e : En} (h : nextK s t = (e, none)) : nextS s t = { s with e := put s.e t e } ∧ nextD s t = (0, 0, false) := by
  unfold nextS nextD
  rw [h]
  exact ⟨rfl, rfl⟩
theorem next_one {s : Ks} {t i : Nat} {e : En} (h : nextK s t = (e, some i)) : nextS s t = { s with k := put s.k i { s.k i with v := put (s.k i).v t 0 }, e := put s.e t e } ∧ nextD s t = ((s.k i).d, (s.k i).v t, true) := by
  unfold nextS nextD
  rw [h]
  exact ⟨rfl, rfl⟩

set_option maxRecDepth 100000 in
set_option maxHeartbeats 4000000 in
theorem next_c (w : World) (b : Nat) (s : Ks) (t : Nat) (h : w.heap[b]? = some (kO s)) (ok : KOk s) (ht : t < 16) :
    Calls Tryz.prog 203 #[.pointer (some ⟨b, 0, none⟩), .int .i64 t] w fun e w' => e = .returned (nextV (nextD s t)) ∧ Upd w b (kO (nextS s t)) w' := by
  have n2 := ok.n2
  have hth := thF_nat ht
  have hti : (t : Int) < 16 := by omega
  have hbl := has_lt h
  have hok := ok.e t
  obtain ⟨D, hD⟩ : ∃ D, D = nextD s t := ⟨_, rfl⟩
  obtain ⟨S, hS⟩ : ∃ S, S = nextS s t := ⟨_, rfl⟩
  obtain ⟨K, hK⟩ : ∃ K, K = nextK s t := ⟨_, rfl⟩
  rw [← hD, ← hS]
  have HD := Lib.hid hD
  have HS := Lib.hid hS
  have HKK := Lib.hid hK
  clear hD hS hK
  go_enter Tryz.func203, Tryz.ntmps203
  go_upto_region 1 with fail
  refine world_wp (fun W => Below w.heap.size w W ∧ W.heap[w.heap.size]? = some (.cells #[.int .i64 0, .int .i64 0] 263 (0, 0))) ⟨(Below.refl _ _).alloc (Nat.le_refl _) _, heap_alloc_new _ _⟩ ?_
  rintro W ⟨hB, hX⟩
  have hk0 := below_has hB h
  obtain ⟨r, a, sm, ov, he⟩ : ∃ r a sm ov, s.e t = ⟨r, a, sm, ov⟩ := ⟨_, _, _, _, rfl⟩
  have hW0 : NextW w W b s t ⟨r, a, sm, ov⟩ := ⟨Upd.after hB (Upd.refl (by rw [← he, put_same]; exact hk0)), hX⟩
  rw [he] at hok
  have HE := Lib.hid he
  go_step3
  go_upto_region 4 with (first | (go_at_call 334; refine (there_c _ _ _ hk0 ok).mono ?_; rintro e w' ⟨rfl, rfl⟩) | (go_at_call 335; refine (thread_c _ _ hth).mono ?_; rintro e w' ⟨rfl, rfl⟩))
  obtain ⟨R, hR⟩ : ∃ R, R = max r 1 := ⟨_, rfl⟩
  have hKe : K = nextF s.n (liveF s t) ⟨R, a, sm, ov⟩ := by rw [HKK.out, nextK, HE.out, hR]
  have HKE := Lib.hid hKe
  obtain ⟨d0, d1, d2, d3⟩ := hW0.end_ ht
  have fz := has_free hW0.u.1
  have hW1 := hW0.set hbl ht (j := 0) (by decide) (.int .i64 (R : Nat)) ⟨R, a, sm, ov⟩ rfl
  rw [Nat.add_zero] at hW1
  have H1 := Lib.hid hW1
  have HR := Lib.hid hR
  clear hKe he hk0 hX hB hW1 hW0 hR
  have hr4 := hok.1
  have ha8 := hok.2
  go_cut [] (fun wx => NextW w wx b s t ⟨R, a, sm, ov⟩)
  case first =>
    have h1 := H1.out
    by_cases hr0 : r < 1
    · obtain rfl : R = 1 := by have := HR.out; omega
      obtain rfl : r = 0 := by omega
      clear hr0
      go_wp2_with fail
      go_meet
      exact h1
    · obtain rfl : R = r := by have := HR.out; omega
      have hr1 : ¬ (R : Int) < 1 := by omega
      clear hr0
      go_wp2_with fail
      go_meet
      exact h1
  case rest =>
    have hW1 : NextW w wc b s t ⟨R, a, sm, ov⟩ := hcut
    clear hcut d0 d1 d2 d3 fz H1
    have hR4 : R ≤ 4 := by have := HR.out; omega
    have hKR := HKE.out
    clear hr4 hok
    go_wp2_with fail
    go_step3
    go_wp2_with fail
    go_loopw [7] (fun _ wr => ∃ e1 : En, NextW w wr b s t e1 ∧ K = nextF s.n (liveF s t) e1 ∧ e1.round ≤ 4 ∧ e1.at_ ≤ 8) (fun _ wr => if boolAt wr b (145 + t * 4 + 3) = true then 0 else 5 - natAt wr b (145 + t * 4))
    case atStart => exact ⟨_, hW1, hKR, hR4, ha8⟩
    case round =>
      clear hW1 hKR hR4 ha8 HE HKE HR
      obtain ⟨⟨r1, a1, s1, o1⟩, hW1, hK1, hr1, ha1⟩ := hrel
      obtain ⟨d0, d1, d2, d3⟩ := hW1.end_ ht
      have fz := has_free hW1.u.1
      have c0 := (k_cells hW1.u.1).1
      cases o1 with
      | true =>
        rw [next_over] at hK1
        have HK1 := Lib.hid hK1
        clear hK1
        have hKn := HK1.out
        have HWN := hW1
        clear d0 d1 d2 fz c0 hW1
        go_upto_region 16 with fail
        obtain ⟨hs, hd⟩ := next_none (s := s) (t := t) (HKK.out.symm.trans hKn)
        rw [← HS.out] at hs
        rw [← HD.out] at hd
        subst hs hd
        have x0 := has_cell 0 HWN.res rfl
        have x1 := has_cell 1 HWN.res rfl
        have fx := has_free HWN.res
        have X := ((Upd.refl HWN.res).setCell 0 (.int .i64 0)).setCell 1 (.int .i64 0)
        have q0 := has_cell 0 X.1 rfl
        have q1 := has_cell 1 X.1 rfl
        have uw := (HWN.u.setNew (p := ⟨w.heap.size, 0, none⟩) (Nat.le_refl _) (by show b ≠ w.heap.size; omega) (.int .i64 0)).setNew (p := ⟨w.heap.size, 1, none⟩) (Nat.le_refl _) (by show b ≠ w.heap.size; omega) (.int .i64 0)
        clear X HWN hKn HS HD HKK
        go_wp2_with fail
        try simp only [Exit.noGoto]
        refine bodyPost_ret (v := nextV (0, 0, false)) ?_ rfl ⟨rfl, uw⟩
        simp [results, Tryz.f203, go_sem, q0, q1, nextV]
      | false =>
        have HK1 := Lib.hid hK1
        have HW1 := Lib.hid hW1
        clear hK1
        go_wp2_with fail
        go_loopw [7] (fun _ wx => ∃ a2 : Nat, NextW w wx b s t ⟨r1, a2, s1, false⟩ ∧ K = nextF s.n (liveF s t) ⟨r1, a2, s1, false⟩ ∧ a2 ≤ 8) (fun _ wx => 8 - natAt wx b (145 + t * 4 + 1))
        case atStart => exact ⟨a1, hW1, HK1.out, ha1⟩
        case round =>
          clear hW1 d0 d1 d2 d3 fz c0 HK1
          obtain ⟨a2, hW2, hK2, ha2⟩ := hrel
          obtain ⟨d0, d1, d2, d3⟩ := hW2.end_ ht
          have fz := has_free hW2.u.1
          have c0 := (k_cells hW2.u.1).1
          have HW2 := Lib.hid hW2
          by_cases hlt : a2 < s.n
          · have ha8 : a2 < 8 := by omega
            have hai : (a2 : Int) < 8 := by omega
            have hltn : (a2 : Int) < s.n := by omega
            have HK := Lib.hid (show a2 + 1 ≤ 8 from ha8)
            go_wp2_with fail
            go_quiet (fail)
            go_wp2_with fail
            go_quiet (fail)
            go_upto_region 8 with fail
            refine world_wp (fun W => NextW w W b s t ⟨r1, a2, s1, false⟩) (by first | exact hW2.drewN _ | exact (hW2.drewN _).drewN _) ?_
            clear d0 d1 d2 d3 fz c0 hW2
            intro W3 hW3
            obtain ⟨d0, d1, d2, d3⟩ := hW3.end_ ht
            have fz := has_free hW3.u.1
            have hW4 := hW3.set hbl ht (j := 1) (by decide) (.int .i64 ((a2 : Int) + 1)) ⟨r1, a2 + 1, s1, false⟩ (by simp [endC])
            go_upto_region 9 with fail
            refine world_wp (fun W => NextW w W b s t ⟨r1, a2 + 1, s1, false⟩) hW4 ?_
            clear d0 d1 d2 d3 fz hW3 hW4
            intro W4 hW4
            obtain ⟨k0, k1, k2⟩ := (k_cells hW4.u.1).2.1 a2 ha8
            have k3 := k2 t ht
            obtain ⟨_, _, d2, _⟩ := hW4.end_ ht
            have fz := has_free hW4.u.1
            have HW4 := Lib.hid hW4
            dsimp only at k0 k1 k3
            clear k2
            cases hm : (s.k a2).is with
            | false =>
              rw [hm] at k0
              rw [next_skip hlt (by simp [liveF, hm])] at hK2
              have hK3 := Lib.hid hK2
              clear hK2 hlt hm hW4
              go_wp2_with fail
              go_roundw
              case rel => exact ⟨a2 + 1, HW4.out, hK3.out, HK.out⟩
              case measure =>
                have e1 := (HW2.out.m1 ht).2.1
                have e2 := (HW4.out.m1 ht).2.1
                dsimp only at e1 e2
                rw [e1, e2]
                have := HK.out
                omega
            | true =>
              rw [hm] at k0
              by_cases hd : 0 ≤ (s.k a2).d
              · by_cases hv : (s.k a2).v t = 0
                · rw [hv] at k3
                  rw [next_skip hlt (by simp [liveF, hm, hv])] at hK2
                  have hK3 := Lib.hid hK2
                  clear hK2 hlt hm hv hW4
                  go_wp2_with fail
                  go_roundw
                  case rel => exact ⟨a2 + 1, HW4.out, hK3.out, HK.out⟩
                  case measure =>
                    have e1 := (HW2.out.m1 ht).2.1
                    have e2 := (HW4.out.m1 ht).2.1
                    dsimp only at e1 e2
                    rw [e1, e2]
                    have := HK.out
                    omega
                · have hne : ((s.k a2).v t != 0) = true := by simpa using hv
                  have hde : decide (0 ≤ (s.k a2).d) = true := decide_eq_true hd
                  have hlv : liveF s t a2 = true := by simp [liveF, hm, hd, hv]
                  rw [next_here hlt hlv] at hK2
                  obtain ⟨hs, hdd⟩ := next_one (s := s) (t := t) (HKK.out.symm.trans hK2)
                  rw [← HS.out] at hs
                  rw [← HD.out] at hdd
                  subst hs hdd
                  have u1 := (Upd.refl hW4.u.1).setCell (1 + a2 * 18 + 2 + t) (.int .i64 0)
                  rw [upd_key _ ha8 ht] at u1
                  have u2 := u1.setCell (145 + t * 4 + 2) (.bool true)
                  rw [ks_sete _ ht (by decide) ⟨r1, a2 + 1, true, false⟩ _ (by simp only [put_self]; rfl)] at u2
                  simp only [put_put] at u2
                  have U := hW4.u.trans u2
                  have hres := u2.other hW4.res (by omega)
                  have HU := Lib.hid U
                  have HRES := Lib.hid hres
                  clear u1 u2 U hres hW4 hlv hK2 hlt hm hv hd HW2 HW4 HS HD HKK
                  go_upto_region 12 with fail
                  refine world_wp (fun W => Upd w b (kO { s with k := put s.k a2 { s.k a2 with v := put (s.k a2).v t 0 }, e := put s.e t ⟨r1, a2 + 1, true, false⟩ }) W ∧ W.heap[w.heap.size]? = some (.cells #[.int .i64 0, .int .i64 0] 263 (0, 0))) ⟨HU.out, HRES.out⟩ ?_
                  clear k0 k1 k3 fz d2 HU HRES
                  rintro W5 ⟨u5, h5⟩
                  have k1 := ((k_cells u5.1).2.1 a2 ha8).2.1
                  simp only [put_self] at k1
                  have x0 := has_cell 0 h5 rfl
                  have x1 := has_cell 1 h5 rfl
                  have fx := has_free h5
                  have X := ((Upd.refl h5).setCell 0 (.int .i64 (s.k a2).d)).setCell 1 (.int .i64 ((s.k a2).v t))
                  have q0 := has_cell 0 X.1 rfl
                  have q1 := has_cell 1 X.1 rfl
                  have uw := (u5.setNew (p := ⟨w.heap.size, 0, none⟩) (Nat.le_refl _) (by show b ≠ w.heap.size; omega) (.int .i64 (s.k a2).d)).setNew (p := ⟨w.heap.size, 1, none⟩) (Nat.le_refl _) (by show b ≠ w.heap.size; omega) (.int .i64 ((s.k a2).v t))
                  clear X u5 h5
                  go_wp2_with fail
                  refine bodyPost_ret (v := nextV ((s.k a2).d, (s.k a2).v t, true)) ?_ rfl ⟨rfl, uw⟩
                  simp [results, Tryz.f203, go_sem, q0, q1, nextV]
              · have hde : decide (0 ≤ (s.k a2).d) = false := decide_eq_false hd
                rw [next_skip hlt (by simp [liveF, hm, hd])] at hK2
                have hK3 := Lib.hid hK2
                clear hK2 hlt hm hd hW4
                go_wp2_with fail
                go_roundw
                case rel => exact ⟨a2 + 1, HW4.out, hK3.out, HK.out⟩
                case measure =>
                  have e1 := (HW2.out.m1 ht).2.1
                  have e2 := (HW4.out.m1 ht).2.1
                  dsimp only at e1 e2
                  rw [e1, e2]
                  have := HK.out
                  omega
          · have hge : s.n ≤ a2 := by omega
            have hlf : ¬ (a2 : Int) < s.n := by omega
            by_cases hen : s1 = false ∨ r1 = 4
            · rw [next_end hge hen] at hK2
              have hW5 := hW2.set hbl ht (j := 3) (by decide) (.bool true) ⟨r1, a2, s1, true⟩ rfl
              have H5 := Lib.hid hW5
              have HKN := Lib.hid hK2
              have HEN := Lib.hid hen
              clear hK2 hen hW5 hW2 hlt HW2 HW1
              cases s1 with
              | false =>
                go_wp2_with fail
                go_quiet (fail)
                go_upto_region 16 with fail
                refine world_wp (fun W => NextW w W b s t ⟨r1, a2, false, true⟩) (by exact H5.out.drewN _) ?_
                intro W6 HWN
                have hKn := HKN.out
                obtain ⟨hs, hd⟩ := next_none (s := s) (t := t) (HKK.out.symm.trans hKn)
                rw [← HS.out] at hs
                rw [← HD.out] at hd
                subst hs hd
                have x0 := has_cell 0 HWN.res rfl
                have x1 := has_cell 1 HWN.res rfl
                have fx := has_free HWN.res
                have X := ((Upd.refl HWN.res).setCell 0 (.int .i64 0)).setCell 1 (.int .i64 0)
                have q0 := has_cell 0 X.1 rfl
                have q1 := has_cell 1 X.1 rfl
                have uw := (HWN.u.setNew (p := ⟨w.heap.size, 0, none⟩) (Nat.le_refl _) (by show b ≠ w.heap.size; omega) (.int .i64 0)).setNew (p := ⟨w.heap.size, 1, none⟩) (Nat.le_refl _) (by show b ≠ w.heap.size; omega) (.int .i64 0)
                clear X HWN hKn HS HD HKK
                go_wp2_with fail
                try simp only [Exit.noGoto]
                refine bodyPost_ret (v := nextV (0, 0, false)) ?_ rfl ⟨rfl, uw⟩
                simp [results, Tryz.f203, go_sem, q0, q1, nextV]
              | true =>
                obtain rfl : r1 = 4 := by simpa using HEN.out
                go_wp2_with fail
                go_quiet (fail)
                go_upto_region 16 with fail
                refine world_wp (fun W => NextW w W b s t ⟨4, a2, true, true⟩) (by exact H5.out.drewN _) ?_
                intro W6 HWN
                have hKn := HKN.out
                obtain ⟨hs, hd⟩ := next_none (s := s) (t := t) (HKK.out.symm.trans hKn)
                rw [← HS.out] at hs
                rw [← HD.out] at hd
                subst hs hd
                have x0 := has_cell 0 HWN.res rfl
                have x1 := has_cell 1 HWN.res rfl
                have fx := has_free HWN.res
                have X := ((Upd.refl HWN.res).setCell 0 (.int .i64 0)).setCell 1 (.int .i64 0)
                have q0 := has_cell 0 X.1 rfl
                have q1 := has_cell 1 X.1 rfl
                have uw := (HWN.u.setNew (p := ⟨w.heap.size, 0, none⟩) (Nat.le_refl _) (by show b ≠ w.heap.size; omega) (.int .i64 0)).setNew (p := ⟨w.heap.size, 1, none⟩) (Nat.le_refl _) (by show b ≠ w.heap.size; omega) (.int .i64 0)
                clear X HWN hKn HS HD HKK
                go_wp2_with fail
                try simp only [Exit.noGoto]
                refine bodyPost_ret (v := nextV (0, 0, false)) ?_ rfl ⟨rfl, uw⟩
                simp [results, Tryz.f203, go_sem, q0, q1, nextV]
            · obtain rfl : s1 = true := by
                cases s1 with
                | true => rfl
                | false => exact absurd (.inl rfl) hen
              have hr : r1 ≠ 4 := fun e => hen (.inr e)
              rw [next_round hge rfl hr] at hK2
              have hne : ((r1 : Int) == 4) = false := by rw [beq_eq_false_iff_ne]; omega
              have HR5 := Lib.hid (show r1 + 1 ≤ 4 by omega)
              have HKN := Lib.hid hK2
              have hK0 := hW2.u.1
              clear hen hr hK2 hlt
              go_wp2_with fail
              go_quiet (fail)
              go_wp2_with fail
              have hA := (hW2.drewN nq).set hbl ht (j := 0) (by decide) (.int .i64 ((r1 : Int) + 1)) ⟨r1 + 1, a2, true, false⟩ (by simp [endC])
              rw [Nat.add_zero] at hA
              have hW6 := ((hA.set hbl ht (j := 1) (by decide) (.int .i64 0) ⟨r1 + 1, 0, true, false⟩ rfl).set hbl ht (j := 2) (by decide) (.bool false) ⟨r1 + 1, 0, false, false⟩ rfl).set hbl ht (j := 3) (by decide) (.bool false) ⟨r1 + 1, 0, false, false⟩ rfl
              clear hW2 hK0 hA
              go_roundw
              case rel => exact ⟨⟨r1 + 1, 0, false, false⟩, hW6, HKN.out, HR5.out, Nat.zero_le _⟩
              case measure =>
                obtain ⟨e1, _, e2⟩ := HW1.out.m1 ht
                obtain ⟨e3, _, e4⟩ := hW6.m1 ht
                dsimp only at e1 e2 e3 e4
                rw [e1, e2, e3, e4]
                have := HR5.out
                simp only [Bool.false_eq_true, if_false]
                omega
end Go.Proofs.YtagmlijhgncklaaGreatDoor.Key
namespace Go.Proofs.YtagmlijhgncklaaGreatDoor.Inh
open Go.RowKit

/-- A graph: how many threads; bases, ceilings, for whom each waits (-1: for nobody). -/
structure Gs where
  n : Nat
  ba : Nat → Int
  ce : Nat → Int
  wt : Nat → Int
def Gs.own (s : Gs) : Nat → Int := fun t => max (s.ba t) (s.ce t)
structure GOk (s : Gs) : Prop where
  n1 : 1 ≤ s.n
  n2 : s.n ≤ 16
  ba : ∀ i, i < 16 → 0 ≤ s.ba i ∧ s.ba i ≤ 31
  ce : ∀ i, i < 16 → 0 ≤ s.ce i ∧ s.ce i ≤ 31
  wt : ∀ i, i < 16 → -1 ≤ s.wt i ∧ s.wt i < s.n
  out : ∀ i, s.n ≤ i → i < 16 → s.ba i = 0 ∧ s.ce i = 0 ∧ s.wt i = -1
theorem GOk.fine {s : Gs} (h : GOk s) : Fine s.n s.wt := fun t ht => h.wt t (by have := h.n2; omega)
def fourC (n : Nat) (a b c : Nat → Int) : List Value := .int .i64 n :: (rowI a 16 ++ (rowI b 16 ++ rowI c 16))
def gO (s : Gs) : Obj := .cells (fourC s.n s.ba s.ce (fun i => s.wt i + 1)).toArray 374 (0, 0)
theorem four_get (n : Nat) (a b c : Nat → Int) {i : Nat} (hi : i < 16) : (fourC n a b c)[1 + i]? = some (.int .i64 (a i)) ∧ (fourC n a b c)[17 + i]? = some (.int .i64 (b i)) ∧ (fourC n a b c)[33 + i]? = some (.int .i64 (c i)) := by
  refine ⟨?_, ?_, ?_⟩
  · rw [show 1 + i = i + 1 by omega, fourC, List.getElem?_cons_succ, List.getElem?_append_left (by rw [rowI_length]; omega)]
    exact rowI_get a hi
  · rw [show 17 + i = (16 + i) + 1 by omega, fourC, List.getElem?_cons_succ, List.getElem?_append_right (by rw [rowI_length]; omega), rowI_length, Nat.add_sub_cancel_left, List.getElem?_append_left (by rw [rowI_length]; omega)]
    exact rowI_get b hi
  · rw [show 33 + i = (16 + (16 + i)) + 1 by omega, fourC, List.getElem?_cons_succ, List.getElem?_append_right (by rw [rowI_length]; omega), rowI_length, Nat.add_sub_cancel_left, List.getElem?_append_right (by rw [rowI_length]; omega), rowI_length, Nat.add_sub_cancel_left]
    exact rowI_get c hi
theorem upd_at (f : Nat → Int) (i : Nat) (x : Int) : (fun k => if k = i then x else f k) = upd f i x := rfl
theorem four_set1 (n : Nat) (a b c : Nat → Int) (x : Int) {i : Nat} (hi : i < 16) : (fourC n a b c).toArray.setIfInBounds (1 + i) (.int .i64 x) = (fourC n (upd a i x) b c).toArray := by
  rw [List.setIfInBounds_toArray, show 1 + i = i + 1 by omega, fourC, List.set_cons_succ, List.set_append_left _ _ (by rw [rowI_length]; omega), rowI_set a x hi, upd_at, fourC]
theorem four_set2 (n : Nat) (a b c : Nat → Int) (x : Int) {i : Nat} (hi : i < 16) : (fourC n a b c).toArray.setIfInBounds (17 + i) (.int .i64 x) = (fourC n a (upd b i x) c).toArray := by
  rw [List.setIfInBounds_toArray, show 17 + i = (16 + i) + 1 by omega, fourC, List.set_cons_succ, List.set_append_right _ _ (by rw [rowI_length]; omega), rowI_length, Nat.add_sub_cancel_left, List.set_append_left _ _ (by rw [rowI_length]; omega), rowI_set b x hi, upd_at, fourC]
/-- A graph's cells. -/
theorem g_cells {w : World} {b : Nat} {s : Gs} (h : w.heap[b]? = some (gO s)) : w.cell? ⟨b, 0, none⟩ = some (.int .i64 s.n) ∧ ∀ i : Nat, i < 16 → w.cell? ⟨b, 1 + i, none⟩ = some (.int .i64 (s.ba i)) ∧ w.cell? ⟨b, 17 + i, none⟩ = some (.int .i64 (s.ce i)) ∧ w.cell? ⟨b, 33 + i, none⟩ = some (.int .i64 (s.wt i + 1)) := by
  refine ⟨has_cell 0 h rfl, fun i hi => ?_⟩
  obtain ⟨g1, g2, g3⟩ := four_get s.n s.ba s.ce (fun i => s.wt i + 1) hi
  exact ⟨has_cell _ h (by simpa using g1), has_cell _ h (by simpa using g2), has_cell _ h (by simpa using g3)⟩
theorem is_c (w : World) (b : Nat) (s : Gs) (h : w.heap[b]? = some (gO s)) (ok : GOk s) : Calls Tryz.prog 118 #[.pointer (some ⟨b, 0, none⟩)] w fun e w' => e = .returned (.bool true) ∧ w = w' := by
  have c := (g_cells h).1
  have hp : decide (0 < s.n) = true := by simp; exact ok.n1
  clear h
  go_enter Tryz.func118, Tryz.ntmps118
  go_wp2
  go_ret
  exact ⟨rfl, rfl⟩
def inF (s : Gs) (t : Int) : Bool := decide (0 ≤ t) && decide (t < s.n)
theorem in_c (w : World) (b : Nat) (s : Gs) (t : Int) {y : Bool} (h : w.heap[b]? = some (gO s)) (hy : inF s t = y) : Calls Tryz.prog 119 #[.pointer (some ⟨b, 0, none⟩), .int .i64 t] w fun e w' => e = .returned (.bool y) ∧ w = w' := by
  have c := (g_cells h).1
  subst hy
  unfold inF
  by_cases h0 : 0 ≤ t
  · go_enter Tryz.func119, Tryz.ntmps119
    go_wp2
    go_ret
    exact ⟨by simp [h0], rfl⟩
  · go_enter Tryz.func119, Tryz.ntmps119
    go_wp2
    go_ret
    exact ⟨by simp; omega, rfl⟩
def prioF (p : Int) : Bool := decide (0 ≤ p) && decide (p ≤ 31)
theorem prio_c (w : World) (p : Int) {y : Bool} (hy : prioF p = y) : Calls Tryz.prog 184 #[.int .i64 p] w fun e w' => e = .returned (.bool y) ∧ w = w' := by
  subst hy
  unfold prioF
  by_cases h0 : 0 ≤ p
  · go_enter Tryz.func184, Tryz.ntmps184
    go_wp2
    go_ret
    exact ⟨by simp [h0], rfl⟩
  · go_enter Tryz.func184, Tryz.ntmps184
    go_wp2
    go_ret
    exact ⟨by simp; omega, rfl⟩
theorem may_c (w : World) (b : Nat) (s : Gs) (t : Int) (ok' : Bool) {z : Int} (h : w.heap[b]? = some (gO s)) (ok : GOk s) (hz : (if (inF s t && ok') = true then 0 else 2) = z) : Calls Tryz.prog 183 #[.pointer (some ⟨b, 0, none⟩), .int .i64 t, .bool ok'] w fun e w' => e = .returned (.int .i64 z) ∧ w = w' := by
  obtain ⟨y, hy⟩ : ∃ y, inF s t = y := ⟨_, rfl⟩
  rw [hy] at hz
  cases y <;> cases ok' <;> (simp at hz; subst hz; go_enter Tryz.func183, Tryz.ntmps183; go_wp2_with (first | (go_at_call 118; refine (is_c _ _ _ h ok).mono ?_; rintro e w' ⟨rfl, rfl⟩) | (go_at_call 119; refine (in_c _ _ _ _ h hy).mono ?_; rintro e w' ⟨rfl, rfl⟩)); go_ret; exact ⟨rfl, rfl⟩)
theorem own_c (w : World) (y b : Nat) (s : Gs) (t : Nat) (h : w.heap[b]? = some (gO s)) (hy : w.heap[y]? = some (.cells #[.pointer (some ⟨b, 0, none⟩)] 237 (0, 0))) (ht : t < 16) :
    Calls Tryz.prog 186 #[.int .i64 t, .pointer (some ⟨y, 0, none⟩)] w fun e w' => e = .returned (.int .i64 (s.own t)) ∧ ∃ m, w' = w.drewN m := by
  have c0 := has_cell 0 hy rfl
  obtain ⟨c1, c2, c3⟩ := (g_cells h).2 t ht
  have hti : (t : Int) < 16 := by omega
  have ht0 : (0 : Int) ≤ (t : Int) := by omega
  clear h hy
  by_cases hlt : s.ba t < s.ce t
  · have e : s.own t = s.ce t := Int.max_eq_right (Int.le_of_lt hlt)
    rw [e]
    clear e
    go_enter Tryz.func186, Tryz.ntmps186
    go_wp2_with fail
    go_quiet (fail)
    go_wp2_with fail
    go_ret
    exact ⟨by simp, _, rfl⟩
  · have e : s.own t = s.ba t := Int.max_eq_left (Int.not_lt.1 hlt)
    rw [e]
    clear e
    go_enter Tryz.func186, Tryz.ntmps186
    go_wp2_with fail
    go_quiet (fail)
    go_wp2_with fail
    go_ret
    exact ⟨by simp, _, rfl⟩
def newG (n : Nat) : Gs := ⟨n, fun _ => 0, fun _ => 0, fun _ => -1⟩
theorem newG_ok {n : Nat} (h1 : 1 ≤ n) (h2 : n ≤ 16) : GOk (newG n) :=
  ⟨h1, h2, fun _ _ => ⟨Int.le_refl _, by show (0 : Int) ≤ 31; decide⟩, fun _ _ => ⟨Int.le_refl _, by show (0 : Int) ≤ 31; decide⟩, fun _ _ => ⟨Int.le_refl _, by show (-1 : Int) < (n : Int); omega⟩, fun _ _ _ => ⟨rfl, rfl, rfl⟩⟩
theorem rowI_const (x : Int) : ∀ m, rowI (fun _ => x) m = List.replicate m (.int .i64 x)
  | 0 => rfl
  | m + 1 => by
    have := rowI_const x m
    unfold rowI at this ⊢
    rw [rowsF, this, List.replicate_succ']
theorem gO_new (n : Nat) : gO (newG n) = .cells (.int .i64 n :: List.replicate 48 (.int .i64 0)).toArray 374 (0, 0) := by
  have e2 : rowI (fun i => (newG n).wt i + 1) 16 = rowI (fun _ => 0) 16 := rowI_congr (fun _ _ => rfl)
  unfold gO fourC
  rw [e2, show (newG n).ba = fun _ => 0 from rfl, show (newG n).ce = fun _ => 0 from rfl, rowI_const, List.replicate_append_replicate, List.replicate_append_replicate]
  rfl
theorem new_c (w : World) (n : Nat) (h0 : 1 ≤ n) (h1 : n ≤ 16) : Calls Tryz.prog 111 #[.int .i64 n] w fun e w' => e = .returned (.tuple #[.pointer (some ⟨w.heap.size, 0, none⟩), .int .i64 0]) ∧ w'.heap[w.heap.size]? = some (gO (newG n)) ∧ Below w.heap.size w w' ∧ w.heap.size < w'.heap.size := by
  go_enter Tryz.func111, Tryz.ntmps111
  go_wp2
  go_ret2
  refine ⟨rfl, ?_, (Below.refl _ _).alloc (Nat.le_refl _) _, by simp⟩
  rw [heap_alloc_new, gO_new]
  rfl
theorem base_c (w : World) (b : Nat) (s : Gs) (t : Nat) (p : Int) (h : w.heap[b]? = some (gO s)) (ok : GOk s) (ht : t < s.n) (hp : 0 ≤ p ∧ p ≤ 31) : Calls Tryz.prog 112 #[.pointer (some ⟨b, 0, none⟩), .int .i64 t, .int .i64 p] w fun e w' => e = .returned (.int .i64 0) ∧ Upd w b (gO { s with ba := upd s.ba t p }) w' := by
  have n2 := ok.n2
  have hy : prioF p = true := by simp [prioF, hp]
  have hi : inF s t = true := by simp [inF, ht]
  have hm := fun w' (hw : w'.heap[b]? = some (gO s)) => may_c w' b s t true (z := 0) hw ok (by rw [hi]; rfl)
  have hc := ((g_cells h).2 t (by omega)).1
  have fz := has_free h
  have hti : (t : Int) < 16 := by omega
  have u : Upd w b (gO { s with ba := upd s.ba t p }) _ := ((Upd.refl h).setCell (1 + t) (.int .i64 p)).to (by rw [four_set1 _ _ _ _ _ (by omega)]; rfl)
  clear hp hi
  go_enter Tryz.func112, Tryz.ntmps112
  go_wp2_with (first | (go_at_call 184; refine (prio_c _ _ hy).mono ?_; rintro e w' ⟨rfl, rfl⟩) | (go_at_call 183; refine (hm _ h).mono ?_; rintro e w' ⟨rfl, rfl⟩))
  go_ret
  exact ⟨rfl, u⟩
theorem ceil_c (w : World) (b : Nat) (s : Gs) (t : Nat) (p : Int) (h : w.heap[b]? = some (gO s)) (ok : GOk s) (ht : t < s.n) (hp : 0 ≤ p ∧ p ≤ 31) : Calls Tryz.prog 117 #[.pointer (some ⟨b, 0, none⟩), .int .i64 t, .int .i64 p] w fun e w' => e = .returned (.int .i64 0) ∧ Upd w b (gO { s with ce := upd s.ce t p }) w' := by
  have n2 := ok.n2
  have hy : prioF p = true := by simp [prioF, hp]
  have hi : inF s t = true := by simp [inF, ht]
  have hm := fun w' (hw : w'.heap[b]? = some (gO s)) => may_c w' b s t true (z := 0) hw ok (by rw [hi]; rfl)
  have hc := ((g_cells h).2 t (by omega)).2.1
  have fz := has_free h
  have hti : (t : Int) < 16 := by omega
  have u : Upd w b (gO { s with ce := upd s.ce t p }) _ := ((Upd.refl h).setCell (17 + t) (.int .i64 p)).to (by rw [four_set2 _ _ _ _ _ (by omega)]; rfl)
  clear hp hi
  go_enter Tryz.func117, Tryz.ntmps117
  go_wp2_with (first | (go_at_call 184; refine (prio_c _ _ hy).mono ?_; rintro e w' ⟨rfl, rfl⟩) | (go_at_call 183; refine (hm _ h).mono ?_; rintro e w' ⟨rfl, rfl⟩))
  go_ret
  exact ⟨rfl, u⟩
end Go.Proofs.YtagmlijhgncklaaGreatDoor.Inh
