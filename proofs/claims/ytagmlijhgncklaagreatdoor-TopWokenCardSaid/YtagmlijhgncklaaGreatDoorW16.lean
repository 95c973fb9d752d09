/-
  What the functions of the table compute, over the translation of this seat. Conditions: the blocks that are named hold what is said.
  What each function of the clock computes, over the translation of this seat. Conditions: the blocks that are named hold what is said.
-/
import Derived.Test.YtagmlijhgncklaaGreatDoorProg
import Derived.Test.YtagmlijhgncklaaGreatDoorW08
import Derived.Deep.MidRow
set_option linter.unusedVariables false
namespace Go.Proofs.YtagmlijhgncklaaGreatDoor.Tab
open Go.RowKit

/-- Is a place taken; its generation. -/
def tk (L : List (Bool × Int)) (i : Nat) : Bool := (L.getD i (false, 0)).1
def gn (L : List (Bool × Int)) (i : Nat) : Int := (L.getD i (false, 0)).2
def plc (p : Bool × Int) : List Value := [.bool p.1, .int .i64 p.2]
def rowC (L : List (Bool × Int)) : List Value := L.flatMap plc
/-- The places of a table, those beyond its number among them. -/
def padL (L : List (Bool × Int)) : List (Bool × Int) := L ++ List.replicate (16 - L.length) (false, 0)
def tabC (L : List (Bool × Int)) : List Value := rowC (padL L) ++ [.int .i64 L.length]
def tabO (L : List (Bool × Int)) : Obj := .cells (tabC L).toArray 157 (0, 0)

theorem rowC_length (L : List (Bool × Int)) : (rowC L).length = L.length * 2 := by
  induction L with
  | nil => rfl
  | cons p L ih => simp [rowC, plc] at ih ⊢; omega
theorem rowC_get : ∀ (L : List (Bool × Int)) (i : Nat), i < L.length → (rowC L)[i * 2]? = some (.bool (tk L i)) ∧ (rowC L)[i * 2 + 1]? = some (.int .i64 (gn L i))
  | p :: L, 0, _ => by simp [rowC, plc, tk, gn]
  | p :: L, i + 1, h => by
    have := rowC_get L i (by simpa using h)
    have e : rowC (p :: L) = .bool p.1 :: .int .i64 p.2 :: rowC L := rfl
    rw [e, show (i + 1) * 2 = i * 2 + 1 + 1 by omega]
    simpa [tk, gn] using this
theorem padL_length {L : List (Bool × Int)} (h : L.length ≤ 16) : (padL L).length = 16 := by simp [padL]; omega
theorem tk_pad (L : List (Bool × Int)) (i : Nat) : tk (padL L) i = tk L i := by
  unfold tk padL
  simp only [List.getD_eq_getElem?_getD, List.getElem?_append]
  split
  · rfl
  · rename_i h
    rw [List.getElem?_eq_none (Nat.le_of_not_lt h), List.getElem?_replicate]
    split <;> rfl
theorem gn_pad (L : List (Bool × Int)) (i : Nat) : gn (padL L) i = gn L i := by
  unfold gn padL
  simp only [List.getD_eq_getElem?_getD, List.getElem?_append]
  split
  · rfl
  · rename_i h
    rw [List.getElem?_eq_none (Nat.le_of_not_lt h), List.getElem?_replicate]
    split <;> rfl
theorem tab_cells {w : World} {b : Nat} {L : List (Bool × Int)} (h : w.heap[b]? = some (tabO L)) (hl : L.length ≤ 16) :
    w.cell? ⟨b, 32, none⟩ = some (.int .i64 L.length) ∧ ∀ i : Nat, i < 16 → w.cell? ⟨b, i * 2, none⟩ = some (.bool (tk L i)) ∧ w.cell? ⟨b, i * 2 + 1, none⟩ = some (.int .i64 (gn L i)) := by
  have hp := padL_length hl
  have hr : (rowC (padL L)).length = 32 := by rw [rowC_length, hp]
  refine ⟨has_cell 32 h (by simp [tabC, hr]), fun i hi => ?_⟩
  obtain ⟨g1, g2⟩ := rowC_get (padL L) i (by omega)
  rw [tk_pad] at g1
  rw [gn_pad] at g2
  exact ⟨has_cell _ h (by simp only [List.getElem?_toArray, tabC, List.getElem?_append, hr]; rw [if_pos (by omega)]; exact g1), has_cell _ h (by simp only [List.getElem?_toArray, tabC, List.getElem?_append, hr]; rw [if_pos (by omega)]; exact g2)⟩

theorem there_c (w : World) (b : Nat) (L : List (Bool × Int)) (h : w.heap[b]? = some (tabO L)) (h1 : 1 ≤ L.length) (h2 : L.length ≤ 16) : Calls Tryz.prog 107 #[.pointer (some ⟨b, 0, none⟩)] w fun e w' => e = .returned (.bool true) ∧ w = w' := by
  have c := (tab_cells h h2).1
  have hp : decide (0 < L.length) = true := by simp; omega
  clear h
  go_enter Tryz.func107, Tryz.ntmps107
  go_wp2
  go_ret
  exact ⟨rfl, rfl⟩
theorem places_c (w : World) (b : Nat) (L : List (Bool × Int)) (h : w.heap[b]? = some (tabO L)) (h1 : 1 ≤ L.length) (h2 : L.length ≤ 16) : Calls Tryz.prog 179 #[.pointer (some ⟨b, 0, none⟩)] w fun e w' => e = .returned (.int .i64 L.length) ∧ w = w' := by
  have c := (tab_cells h h2).1
  go_enter Tryz.func179, Tryz.ntmps179
  go_wp2_with (go_at_call 107; refine (there_c _ _ _ h h1 h2).mono ?_; rintro e w' ⟨rfl, rfl⟩)
  go_ret
  exact ⟨rfl, rfl⟩
theorem new_c (w : World) (n : Nat) (h0 : 1 ≤ n) (h1 : n ≤ 16) : Calls Tryz.prog 23 #[.int .i64 n] w fun e w' => e = .returned (.tuple #[.pointer (some ⟨w.heap.size, 0, none⟩), .int .i64 0]) ∧ w'.heap[w.heap.size]? = some (tabO (List.replicate n (false, 0))) ∧ Below w.heap.size w w' ∧ w.heap.size < w'.heap.size := by
  go_enter Tryz.func23, Tryz.ntmps23
  go_wp2
  go_ret2
  refine ⟨rfl, ?_, (Below.refl _ _).alloc (Nat.le_refl _) _, by simp⟩
  rw [heap_alloc_new]
  have e : padL (List.replicate n (false, 0)) = List.replicate 16 (false, 0) := by rw [padL, List.length_replicate, List.replicate_append_replicate, Nat.add_sub_cancel' h1]
  simp only [tabO, tabC, e, List.length_replicate]
  rfl
/-- Of: what it tells of a place. -/
def ofF (L : List (Bool × Int)) (i : Int) : Int × Bool := if 0 ≤ i ∧ i < L.length ∧ tk L i.toNat = true then (i + 16 * gn L i.toNat, true) else (0, false)
def genOk (L : List (Bool × Int)) (G : Int) : Prop := ∀ i, 0 ≤ gn L i ∧ gn L i ≤ G
theorem of_c (w : World) (b : Nat) (L : List (Bool × Int)) (i : Int) {x : Int} {y : Bool} (h : w.heap[b]? = some (tabO L)) (h1 : 1 ≤ L.length) (h2 : L.length ≤ 16) (hg : genOk L 1000) (hx : ofF L i = (x, y)) :
    Calls Tryz.prog 108 #[.pointer (some ⟨b, 0, none⟩), .int .i64 i] w fun e w' => e = .returned (.tuple #[.int .i64 x, .bool y]) ∧ w = w' := by
  have c := (tab_cells h h2).1
  by_cases hi0 : i < 0
  · obtain ⟨rfl, rfl⟩ : 0 = x ∧ false = y := by simpa [ofF, show ¬ 0 ≤ i by omega] using hx
    clear hx
    go_enter Tryz.func108, Tryz.ntmps108
    go_wp2_with (go_at_call 107; refine (there_c _ _ _ h h1 h2).mono ?_; rintro e w' ⟨rfl, rfl⟩)
    go_ret2
    exact ⟨rfl, rfl⟩
  · by_cases hi1 : (L.length : Int) ≤ i
    · obtain ⟨rfl, rfl⟩ : 0 = x ∧ false = y := by simpa [ofF, show ¬ i < L.length by omega] using hx
      clear hx
      go_enter Tryz.func108, Tryz.ntmps108
      go_wp2_with (go_at_call 107; refine (there_c _ _ _ h h1 h2).mono ?_; rintro e w' ⟨rfl, rfl⟩)
      go_ret2
      exact ⟨rfl, rfl⟩
    · obtain ⟨k, rfl⟩ := Int.eq_ofNat_of_zero_le (a := i) (by omega)
      obtain ⟨c1, c2⟩ := (tab_cells h h2).2 k (by omega)
      obtain ⟨g0, g1⟩ := hg k
      have hk : (k : Int) < 16 := by omega
      by_cases ht : tk L k = true
      · obtain ⟨rfl, rfl⟩ : (k : Int) + 16 * gn L k = x ∧ true = y := by simpa [ofF, ht, show (k : Int) < L.length by omega] using hx
        clear hx hg
        rw [ht] at c1
        clear ht
        generalize gn L k = g at *
        go_enter Tryz.func108, Tryz.ntmps108
        go_wp2_with (go_at_call 107; refine (there_c _ _ _ h h1 h2).mono ?_; rintro e w' ⟨rfl, rfl⟩)
        go_ret2
        exact ⟨rfl, rfl⟩
      · have ht' : tk L k = false := by simpa using ht
        obtain ⟨rfl, rfl⟩ : 0 = x ∧ false = y := by simpa [ofF, ht'] using hx
        clear hx hg
        rw [ht'] at c1
        clear ht ht'
        go_enter Tryz.func108, Tryz.ntmps108
        go_wp2_with (go_at_call 107; refine (there_c _ _ _ h h1 h2).mono ?_; rintro e w' ⟨rfl, rfl⟩)
        go_ret2
        exact ⟨rfl, rfl⟩

/-- Add: the lowest free place. -/
def freeF (L : List (Bool × Int)) : Option Nat := (List.range L.length).find? (fun i => !tk L i)
theorem free_some {L : List (Bool × Int)} {i : Nat} (h : freeF L = some i) : i < L.length ∧ tk L i = false ∧ ∀ j, j < i → tk L j = true := by
  unfold freeF at h
  rw [List.find?_eq_some_iff_getElem] at h
  obtain ⟨hp, j, hj, he, hb⟩ := h
  simp at hj he hp
  subst he
  exact ⟨hj, hp, fun k hk => by have := hb k hk; simpa using this⟩
theorem rowC_set : ∀ (L : List (Bool × Int)) (i : Nat) (p : Bool × Int), i < L.length → rowC (L.set i p) = ((rowC L).set (i * 2) (.bool p.1)).set (i * 2 + 1) (.int .i64 p.2)
  | q :: L, 0, p, _ => by simp [rowC, plc]
  | q :: L, i + 1, p, h => by
    have e : ∀ (q : Bool × Int) (M : List (Bool × Int)), rowC (q :: M) = .bool q.1 :: .int .i64 q.2 :: rowC M := fun _ _ => rfl
    rw [List.set_cons_succ, e, e, rowC_set L i p (by simpa using h), show (i + 1) * 2 = i * 2 + 1 + 1 by omega]
    rfl
theorem padL_set (L : List (Bool × Int)) (i : Nat) (p : Bool × Int) (h : i < L.length) : padL (L.set i p) = (padL L).set i p := by
  simp [padL, h]
theorem tab_set {L : List (Bool × Int)} {i : Nat} (p : Bool × Int) (h : i < L.length) (h2 : L.length ≤ 16) :
    ((tabC L).toArray.setIfInBounds (i * 2) (.bool p.1)).setIfInBounds (i * 2 + 1) (.int .i64 p.2) = (tabC (L.set i p)).toArray := by
  have hp := padL_length h2
  have hr : (rowC (padL L)).length = 32 := by rw [rowC_length, hp]
  simp only [List.setIfInBounds_toArray, tabC]
  rw [List.set_append_left _ _ (by omega), List.set_append_left _ _ (by simp; omega), padL_set L i p h, rowC_set _ _ _ (by omega), List.length_set]
theorem tab_set0 {L : List (Bool × Int)} {i : Nat} (x : Bool) (h : i < L.length) (h2 : L.length ≤ 16) :
    (tabC L).toArray.setIfInBounds (i * 2) (.bool x) = (tabC (L.set i (x, gn L i))).toArray := by
  rw [← tab_set (x, gn L i) h h2]
  have hp := padL_length h2
  have hr : (rowC (padL L)).length = 32 := by rw [rowC_length, hp]
  obtain ⟨g1, g2⟩ := rowC_get (padL L) i (by omega)
  rw [gn_pad] at g2
  simp only [List.setIfInBounds_toArray, tabC]
  rw [List.set_append_left _ _ (by omega), List.set_append_left _ _ (by simp; omega)]
  congr 2
  apply List.ext_getElem?
  intro k
  by_cases e : i * 2 + 1 = k
  · subst e
    simp [List.getElem?_set, g2]
    omega
  · simp [List.getElem?_set, e]
theorem tk_set (L : List (Bool × Int)) (i : Nat) (p : Bool × Int) (j : Nat) (h : i < L.length) : tk (L.set i p) j = if j = i then p.1 else tk L j := by
  unfold tk
  simp only [List.getD_eq_getElem?_getD, List.getElem?_set]
  by_cases e : i = j
  · subst e; simp [h]
  · simp [e, Ne.symm e]
theorem gn_set (L : List (Bool × Int)) (i : Nat) (p : Bool × Int) (j : Nat) (h : i < L.length) : gn (L.set i p) j = if j = i then p.2 else gn L j := by
  unfold gn
  simp only [List.getD_eq_getElem?_getD, List.getElem?_set]
  by_cases e : i = j
  · subst e; simp [h]
  · simp [e, Ne.symm e]
theorem genOk.set {L : List (Bool × Int)} {G : Int} {i : Nat} {x : Bool} {g : Int} (h : genOk L G) (hi : i < L.length) (h0 : 0 ≤ g) (h1 : g ≤ G + 1) : genOk (L.set i (x, g)) (G + 1) := by
  intro j
  rw [gn_set _ _ _ _ hi]
  have := h j
  split
  · exact ⟨h0, h1⟩
  · omega

set_option maxRecDepth 100000 in
set_option maxHeartbeats 400000 in
theorem add_c (w : World) (b : Nat) (L : List (Bool × Int)) (i : Nat) (h : w.heap[b]? = some (tabO L)) (h1 : 1 ≤ L.length) (h2 : L.length ≤ 16) (hg : genOk L 900) (hf : freeF L = some i) :
    Calls Tryz.prog 65 #[.pointer (some ⟨b, 0, none⟩)] w fun e w' => e = .returned (.tuple #[.int .i64 (i + 16 * (gn L i + 1)), .int .i64 0]) ∧ Upd w b (tabO (L.set i (true, gn L i + 1))) w' := by
  obtain ⟨hi, hti, hlo⟩ := free_some hf
  have hlo := Lib.hid hlo
  have H := Lib.hid h
  have HG := Lib.hid hg
  have c := (tab_cells h h2).1
  have hq : (L.length : Int) ≤ 16 := by omega
  clear h hf hg
  go_enter Tryz.func65, Tryz.ntmps65
  go_wp2_with fail
  go_step3
  go_wp2_with (go_at_call 107; refine (there_c _ _ _ H.out h1 h2).mono ?_; rintro e w' ⟨rfl, rfl⟩)
  go_step3
  go_wp2_with fail
  go_loop [4, 15] (fun f i' => ∃ j : Nat, f = .int .i64 (-1) ∧ j ≤ i ∧ i' = .int .i64 j) (fun _ i => L.length - (intOf i).toNat)
  case atStart => exact ⟨0, rfl, by omega, rfl⟩
  case round =>
    obtain ⟨j, rfl, hj, rfl⟩ := hrel
    by_cases hlt : j < i
    · have c1 := ((tab_cells H.out h2).2 j (by omega)).1
      rw [hlo.out j hlt] at c1
      have hk : (j : Int) < 16 := by omega
      have hn : j < L.length := by omega
      clear hti
      go_wp2
      go_round
      case rel => exact ⟨j + 1, rfl, by omega, by go_num⟩
      case measure => simp [intOf]; omega
    · obtain rfl : j = i := by omega
      obtain ⟨c1, c2⟩ := (tab_cells H.out h2).2 j (by omega)
      have ht0 : (j : Int) < 16 := by omega
      have hj0 : ¬ (j : Int) < 0 := by omega
      obtain ⟨g0, g1⟩ := HG.out j
      have fz := has_free H.out
      have HT := Lib.hid hti
      rw [hti] at c1
      clear hti
      generalize hgj : gn L j = g at *
      have HGJ := Lib.hid hgj
      clear hgj
      have wg : IntKind.i64.wrap (g + 1) = g + 1 := IntWalk.i64_in _ (by omega)
      go_wp2_with fail
      refine still_tail 14 (by kernel_rfl) (by kernel_rfl) ?_
      simp only [List.take_succ_cons, List.take_zero, List.drop_succ_cons, List.drop_zero]
      repeat still_step
      refine wpStill_nil ?_
      go_wp2_with fail
      have U : Upd w b (tabO (L.set j (true, g + 1))) _ := (((Upd.refl H.out).setCell (j * 2) (.bool true)).setCell (j * 2 + 1) (.int .i64 (g + 1))).drew.to (by rw [tabO, ← tab_set (true, g + 1) hi h2])
      refine calls_world (fun W => Upd w b (tabO (L.set j (true, g + 1))) W) U ?_
      intro W UW
      clear c c1 c2 fz U wg
      refine (of_c W b (L.set j (true, g + 1)) j (x := j + 16 * (g + 1)) (y := true) UW.1 (by simpa using h1) (by simpa using h2) (fun k => by have := (HG.out.set (x := true) (g := g + 1) hi (by omega) (by omega)) k; omega) ?hx).mono ?_
      case hx => simp [ofF, tk_set _ _ _ _ hi, gn_set _ _ _ _ hi, hi]
      rintro e w' ⟨rfl, rfl⟩
      go_wp2_with fail
      try rw [Exit.noGoto_ret]
      go_ret2
      rw [HGJ.out]
      exact ⟨rfl, UW⟩

/-! Copy. -/
end Go.Proofs.YtagmlijhgncklaaGreatDoor.Tab
namespace Go.Proofs.YtagmlijhgncklaaGreatDoor.Clk
open Go.RowKit

abbrev clkO (m : Bool) (r o : Int) : Obj := .cells #[.bool m, .int .i64 r, .int .i64 o] 167 (0, 0)
theorem there_c (w : World) (b : Nat) (m : Bool) (r o : Int) (h : w.heap[b]? = some (clkO m r o)) : Calls Tryz.prog 154 #[.pointer (some ⟨b, 0, none⟩)] w fun e w' => e = .returned (.bool m) ∧ w = w' := by
  have c0 := has_cell 0 h rfl
  clear h
  go_enter Tryz.func154, Tryz.ntmps154
  go_wp2
  go_ret
  exact ⟨rfl, rfl⟩
theorem new_c (w : World) (x : Int) (h0 : 0 ≤ x) (h1 : x ≤ 1099511627776) : Calls Tryz.prog 25 #[.int .i64 x] w fun e w' => e = .returned (.tuple #[.pointer (some ⟨w.heap.size, 0, none⟩), .int .i64 0]) ∧ w'.heap[w.heap.size]? = some (clkO true x 0) ∧ Below w.heap.size w w' ∧ w.heap.size < w'.heap.size := by
  go_enter Tryz.func25, Tryz.ntmps25
  go_wp2
  go_ret2
  exact ⟨rfl, heap_alloc_new _ _, (Below.refl _ _).alloc (Nat.le_refl _) _, by simp⟩

/-! Now. -/
def nowF (r o k : Int) : Int × Int := if k = 0 then (r, 0) else if k = 1 then (o, 0) else (0, 2)
theorem now_c (w : World) (b : Nat) (r o k : Int) {x e : Int} (h : w.heap[b]? = some (clkO true r o)) (hx : nowF r o k = (x, e)) : Calls Tryz.prog 158 #[.pointer (some ⟨b, 0, none⟩), .int .i64 k] w fun e' w' => e' = .returned (.tuple #[.int .i64 x, .int .i64 e]) ∧ w = w' := by
  have H := Lib.hid h
  have c1 := has_cell 1 h rfl
  have c2 := has_cell 2 h rfl
  clear h
  by_cases k0 : k = 0
  · subst k0
    obtain ⟨rfl, rfl⟩ : r = x ∧ 0 = e := by simpa [nowF] using hx
    clear hx
    go_enter Tryz.func158, Tryz.ntmps158
    go_wp2_with (go_at_call 154; refine (there_c _ _ _ _ _ H.out).mono ?_; rintro e w' ⟨rfl, rfl⟩)
    go_ret2
    exact ⟨rfl, rfl⟩
  · by_cases k1 : k = 1
    · subst k1
      obtain ⟨rfl, rfl⟩ : o = x ∧ 0 = e := by simpa [nowF] using hx
      clear hx
      go_enter Tryz.func158, Tryz.ntmps158
      go_wp2_with (go_at_call 154; refine (there_c _ _ _ _ _ H.out).mono ?_; rintro e w' ⟨rfl, rfl⟩)
      go_ret2
      exact ⟨rfl, rfl⟩
    · obtain ⟨rfl, rfl⟩ : 0 = x ∧ 2 = e := by simpa [nowF, k0, k1] using hx
      clear hx
      have b0 : (k != 0) = true := by simpa using k0
      have b1 : (k != 1) = true := by simpa using k1
      go_enter Tryz.func158, Tryz.ntmps158
      go_wp2_with (go_at_call 154; refine (there_c _ _ _ _ _ H.out).mono ?_; rintro e w' ⟨rfl, rfl⟩)
      go_ret2
      exact ⟨rfl, rfl⟩

/-! Tick. -/
def upF (x : Int) : Int := if 1099511627776 < x + 1 then 1099511627776 else x + 1
def inV (x n : Int) : Int := if n < 1099511627776 - x then x + n else 1099511627776
def inF (r o k n : Int) : Int × Int := if (nowF r o k).2 = 0 then (if n < 0 then (0, 2) else (inV (nowF r o k).1 n, 0)) else (0, 2)
theorem nowF_ok {r o k : Int} (h : (nowF r o k).2 = 0) : nowF r o k = ((nowF r o k).1, 0) := by rw [← h]
theorem nowF_bad {r o k : Int} (h : (nowF r o k).2 ≠ 0) : nowF r o k = (0, 2) := by
  unfold nowF at h ⊢
  by_cases k0 : k = 0
  · simp [k0] at h
  · by_cases k1 : k = 1
    · simp [k1] at h
    · simp [k0, k1]
theorem nowF_rng {r o k : Int} (hr : 0 ≤ r ∧ r ≤ 1099511627776) (ho : 0 ≤ o ∧ o ≤ 1099511627776) : 0 ≤ (nowF r o k).1 ∧ (nowF r o k).1 ≤ 1099511627776 := by
  unfold nowF; split <;> (try split) <;> simp <;> omega
theorem in_c (w : World) (b : Nat) (r o k n : Int) {x e : Int} (h : w.heap[b]? = some (clkO true r o)) (hr : 0 ≤ r ∧ r ≤ 1099511627776) (ho : 0 ≤ o ∧ o ≤ 1099511627776) (hx : inF r o k n = (x, e)) :
    Calls Tryz.prog 422 #[.pointer (some ⟨b, 0, none⟩), .int .i64 k, .int .i64 n] w fun e' w' => e' = .returned (.tuple #[.int .i64 x, .int .i64 e]) ∧ w = w' := by
  by_cases hk : (nowF r o k).2 = 0
  · have hn := nowF_ok hk
    obtain ⟨y0, y1⟩ := nowF_rng (k := k) hr ho
    by_cases h0 : n < 0
    · obtain ⟨rfl, rfl⟩ : 0 = x ∧ 2 = e := by simpa [inF, hk, h0] using hx
      have HN := Lib.hid hn
      generalize (nowF r o k).1 = y at *
      clear hx hn hr ho hk
      go_enter Tryz.func422, Tryz.ntmps422
      go_wp2_with (go_at_call 158; refine (now_c _ _ _ _ _ h HN.out).mono ?_; rintro e w' ⟨rfl, rfl⟩)
      go_ret2
      exact ⟨rfl, rfl⟩
    · obtain ⟨rfl, rfl⟩ : inV (nowF r o k).1 n = x ∧ 0 = e := by simpa [inF, hk, h0] using hx
      have HN := Lib.hid hn
      generalize (nowF r o k).1 = y at *
      clear hx hn hr ho hk
      have hu : inV y n = y + (if n ≤ 1099511627776 - y then n else 1099511627776 - y) := by unfold inV; split <;> omega
      rw [hu]
      clear hu
      by_cases hle : n ≤ 1099511627776 - y
      all_goals
        go_enter Tryz.func422, Tryz.ntmps422
        go_wp2_with (go_at_call 158; refine (now_c _ _ _ _ _ h HN.out).mono ?_; rintro e w' ⟨rfl, rfl⟩)
        go_ret2
        exact ⟨by simp, rfl⟩
  · have hn := nowF_bad hk
    obtain ⟨rfl, rfl⟩ : 0 = x ∧ 2 = e := by simpa [inF, hk] using hx
    have HN := Lib.hid hn
    clear hx hn hr ho hk
    go_enter Tryz.func422, Tryz.ntmps422
    go_wp2_with (go_at_call 158; refine (now_c _ _ _ _ _ h HN.out).mono ?_; rintro e w' ⟨rfl, rfl⟩)
    go_ret2
    exact ⟨rfl, rfl⟩

/-! Left, Due. -/
end Go.Proofs.YtagmlijhgncklaaGreatDoor.Clk
