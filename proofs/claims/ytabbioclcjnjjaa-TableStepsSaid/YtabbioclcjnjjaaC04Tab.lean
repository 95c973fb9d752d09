/- What the functions of the table compute, over the translation of this seat. Conditions: the blocks that are named hold what is said. -/
import Derived.Test.YtabbioclcjnjjaaProg
import Derived.Test.YtabbioclcjnjjaaFlat
import Derived.Deep.MidRow
namespace Go.Proofs.Ytabbioclcjnjjaa
open Go.RowKit

/-- Is a place taken; its generation. -/
def tk (L : List (Bool × Int)) (i : Nat) : Bool := (L.getD i (false, 0)).1
def gn (L : List (Bool × Int)) (i : Nat) : Int := (L.getD i (false, 0)).2
def plc (p : Bool × Int) : List Value := [.bool p.1, .int .i64 p.2]
def rowC (L : List (Bool × Int)) : List Value := L.flatMap plc
/-- The places of a table, those beyond its number among them. -/
def padL (L : List (Bool × Int)) : List (Bool × Int) := L ++ List.replicate (16 - L.length) (false, 0)
def tabC (L : List (Bool × Int)) : List Value := rowC (padL L) ++ [.int .i64 L.length]
def tabO (L : List (Bool × Int)) : Obj := .cells (tabC L).toArray 56 (0, 0)
def rowO (L : List (Bool × Int)) : Obj := .cells (rowC L).toArray 68 (0, 0)

theorem rowC_length (L : List (Bool × Int)) : (rowC L).length = L.length * 2 := by
  induction L with
  | nil => rfl
  | cons p L ih => simp [rowC, plc] at ih ⊢; omega
theorem rowC_get : ∀ (L : List (Bool × Int)) (i : Nat), i < L.length → (rowC L)[i * 2]? = some (.bool (tk L i)) ∧ (rowC L)[i * 2 + 1]? = some (.int .i64 (gn L i))
  | p :: L, 0, _ => by simp [rowC, plc, tk, gn]
  | p :: L, i + 1, h => by
    have := rowC_get L i (by simpa using h)
    have e : rowC (p :: L) = .bool p.1 :: .int .i64 p.2 :: rowC L := rfl
    rw [e, show (i + 1) * 2 = i * 2 + 1 + 1 by omega]
    simpa [tk, gn] using this
theorem padL_length {L : List (Bool × Int)} (h : L.length ≤ 16) : (padL L).length = 16 := by simp [padL]; omega
theorem tk_pad (L : List (Bool × Int)) (i : Nat) : tk (padL L) i = tk L i := by
  unfold tk padL
  simp only [List.getD_eq_getElem?_getD, List.getElem?_append]
  split
  · rfl
  · rename_i h
    rw [List.getElem?_eq_none (Nat.le_of_not_lt h), List.getElem?_replicate]
    split <;> rfl
theorem gn_pad (L : List (Bool × Int)) (i : Nat) : gn (padL L) i = gn L i := by
  unfold gn padL
  simp only [List.getD_eq_getElem?_getD, List.getElem?_append]
  split
  · rfl
  · rename_i h
    rw [List.getElem?_eq_none (Nat.le_of_not_lt h), List.getElem?_replicate]
    split <;> rfl
theorem tab_cells {w : World} {b : Nat} {L : List (Bool × Int)} (h : w.heap[b]? = some (tabO L)) (hl : L.length ≤ 16) :
    w.cell? ⟨b, 32, none⟩ = some (.int .i64 L.length) ∧ ∀ i : Nat, i < 16 → w.cell? ⟨b, i * 2, none⟩ = some (.bool (tk L i)) ∧ w.cell? ⟨b, i * 2 + 1, none⟩ = some (.int .i64 (gn L i)) := by
  have hp := padL_length hl
  have hr : (rowC (padL L)).length = 32 := by rw [rowC_length, hp]
  refine ⟨has_cell 32 h (by simp [tabC, List.getElem?_append, hr]), fun i hi => ?_⟩
  obtain ⟨g1, g2⟩ := rowC_get (padL L) i (by omega)
  rw [tk_pad] at g1
  rw [gn_pad] at g2
  exact ⟨has_cell _ h (by simp only [List.getElem?_toArray, tabC, List.getElem?_append, hr]; rw [if_pos (by omega)]; exact g1), has_cell _ h (by simp only [List.getElem?_toArray, tabC, List.getElem?_append, hr]; rw [if_pos (by omega)]; exact g2)⟩

theorem num_c (e : Int) (w : World) : Calls Try.prog 8 #[.int .i64 e] w fun x w' => x = .returned (.int .i64 e) ∧ w = w' := by
  go_enter Try.func8, Try.ntmps8
  go_wp2
  go_ret
  exact ⟨rfl, rfl⟩
theorem there_c (w : World) (b : Nat) (L : List (Bool × Int)) (h : w.heap[b]? = some (tabO L)) (h1 : 1 ≤ L.length) (h2 : L.length ≤ 16) : Calls Try.prog 20 #[.pointer (some ⟨b, 0, none⟩)] w fun e w' => e = .returned (.bool true) ∧ w = w' := by
  have c := (tab_cells h h2).1
  have hp : decide (0 < L.length) = true := by simp; omega
  clear h
  go_enter Try.func20, Try.ntmps20
  go_wp2
  go_ret
  exact ⟨rfl, rfl⟩
theorem there_nil (w : World) : Calls Try.prog 20 #[.pointer none] w fun e w' => e = .returned (.bool false) ∧ w = w' := by
  go_enter Try.func20, Try.ntmps20
  go_wp2
  go_ret
  exact ⟨rfl, rfl⟩
theorem places_c (w : World) (b : Nat) (L : List (Bool × Int)) (h : w.heap[b]? = some (tabO L)) (h1 : 1 ≤ L.length) (h2 : L.length ≤ 16) : Calls Try.prog 26 #[.pointer (some ⟨b, 0, none⟩)] w fun e w' => e = .returned (.int .i64 L.length) ∧ w = w' := by
  have c := (tab_cells h h2).1
  go_enter Try.func26, Try.ntmps26
  go_wp2_with (go_at_call 20; refine (there_c _ _ _ h h1 h2).mono ?_; rintro e w' ⟨rfl, rfl⟩)
  go_ret
  exact ⟨rfl, rfl⟩
theorem new_bad (w : World) (x : Int) (h : x < 1 ∨ 16 < x) : Calls Try.prog 7 #[.int .i64 x] w fun e w' => e = .returned (.tuple #[.pointer none, .int .i64 2]) ∧ w = w' := by
  by_cases h0 : x < 1
  · go_enter Try.func7, Try.ntmps7
    go_wp2
    go_ret2
    exact ⟨rfl, rfl⟩
  · have h1 : 16 < x := by omega
    clear h
    go_enter Try.func7, Try.ntmps7
    go_wp2
    go_ret2
    exact ⟨rfl, rfl⟩
theorem new_c (w : World) (n : Nat) (h0 : 1 ≤ n) (h1 : n ≤ 16) : Calls Try.prog 7 #[.int .i64 n] w fun e w' => e = .returned (.tuple #[.pointer (some ⟨w.heap.size, 0, none⟩), .int .i64 0]) ∧ w'.heap[w.heap.size]? = some (tabO (List.replicate n (false, 0))) ∧ Below w.heap.size w w' ∧ w.heap.size < w'.heap.size := by
  go_enter Try.func7, Try.ntmps7
  go_wp2
  go_ret2
  refine ⟨rfl, ?_, (Below.refl _ _).alloc (Nat.le_refl _) _, by simp⟩
  rw [heap_alloc_new]
  have e : padL (List.replicate n (false, 0)) = List.replicate 16 (false, 0) := by rw [padL, List.length_replicate, List.replicate_append_replicate, Nat.add_sub_cancel' h1]
  simp only [tabO, tabC, e, List.length_replicate]
  rfl
/-- Of: what it tells of a place. -/
def ofF (L : List (Bool × Int)) (i : Int) : Int × Bool := if 0 ≤ i ∧ i < L.length ∧ tk L i.toNat = true then (i + 16 * gn L i.toNat, true) else (0, false)
def genOk (L : List (Bool × Int)) (G : Int) : Prop := ∀ i, 0 ≤ gn L i ∧ gn L i ≤ G
theorem of_c (w : World) (b : Nat) (L : List (Bool × Int)) (i : Int) {x : Int} {y : Bool} (h : w.heap[b]? = some (tabO L)) (h1 : 1 ≤ L.length) (h2 : L.length ≤ 16) (hg : genOk L 1000) (hx : ofF L i = (x, y)) :
    Calls Try.prog 19 #[.pointer (some ⟨b, 0, none⟩), .int .i64 i] w fun e w' => e = .returned (.tuple #[.int .i64 x, .bool y]) ∧ w = w' := by
  have c := (tab_cells h h2).1
  by_cases hi0 : i < 0
  · obtain ⟨rfl, rfl⟩ : 0 = x ∧ false = y := by simpa [ofF, show ¬ 0 ≤ i by omega] using hx
    clear hx
    go_enter Try.func19, Try.ntmps19
    go_wp2_with (go_at_call 20; refine (there_c _ _ _ h h1 h2).mono ?_; rintro e w' ⟨rfl, rfl⟩)
    go_ret2
    exact ⟨rfl, rfl⟩
  · by_cases hi1 : (L.length : Int) ≤ i
    · obtain ⟨rfl, rfl⟩ : 0 = x ∧ false = y := by simpa [ofF, show ¬ i < L.length by omega] using hx
      clear hx
      go_enter Try.func19, Try.ntmps19
      go_wp2_with (go_at_call 20; refine (there_c _ _ _ h h1 h2).mono ?_; rintro e w' ⟨rfl, rfl⟩)
      go_ret2
      exact ⟨rfl, rfl⟩
    · obtain ⟨k, rfl⟩ := Int.eq_ofNat_of_zero_le (a := i) (by omega)
      obtain ⟨c1, c2⟩ := (tab_cells h h2).2 k (by omega)
      obtain ⟨g0, g1⟩ := hg k
      have hk : (k : Int) < 16 := by omega
      by_cases ht : tk L k = true
      · obtain ⟨rfl, rfl⟩ : (k : Int) + 16 * gn L k = x ∧ true = y := by simpa [ofF, ht, show (k : Int) < L.length by omega] using hx
        clear hx hg
        rw [ht] at c1
        clear ht
        generalize gn L k = g at *
        go_enter Try.func19, Try.ntmps19
        go_wp2_with (go_at_call 20; refine (there_c _ _ _ h h1 h2).mono ?_; rintro e w' ⟨rfl, rfl⟩)
        go_ret2
        exact ⟨rfl, rfl⟩
      · have ht' : tk L k = false := by simpa using ht
        obtain ⟨rfl, rfl⟩ : 0 = x ∧ false = y := by simpa [ofF, ht'] using hx
        clear hx hg
        rw [ht'] at c1
        clear ht ht'
        go_enter Try.func19, Try.ntmps19
        go_wp2_with (go_at_call 20; refine (there_c _ _ _ h h1 h2).mono ?_; rintro e w' ⟨rfl, rfl⟩)
        go_ret2
        exact ⟨rfl, rfl⟩

/-- Add: the lowest free place. -/
def freeF (L : List (Bool × Int)) : Option Nat := (List.range L.length).find? (fun i => !tk L i)
theorem free_some {L : List (Bool × Int)} {i : Nat} (h : freeF L = some i) : i < L.length ∧ tk L i = false ∧ ∀ j, j < i → tk L j = true := by
  unfold freeF at h
  rw [List.find?_eq_some_iff_getElem] at h
  obtain ⟨hp, j, hj, he, hb⟩ := h
  simp at hj he hp
  subst he
  exact ⟨hj, hp, fun k hk => by have := hb k hk; simpa using this⟩
theorem free_none {L : List (Bool × Int)} (h : freeF L = none) : ∀ j, j < L.length → tk L j = true := by
  unfold freeF at h
  rw [List.find?_eq_none] at h
  intro j hj
  simpa using h j (by simpa using hj)
theorem rowC_set : ∀ (L : List (Bool × Int)) (i : Nat) (p : Bool × Int), i < L.length → rowC (L.set i p) = ((rowC L).set (i * 2) (.bool p.1)).set (i * 2 + 1) (.int .i64 p.2)
  | q :: L, 0, p, _ => by simp [rowC, plc]
  | q :: L, i + 1, p, h => by
    have e : ∀ (q : Bool × Int) (M : List (Bool × Int)), rowC (q :: M) = .bool q.1 :: .int .i64 q.2 :: rowC M := fun _ _ => rfl
    rw [List.set_cons_succ, e, e, rowC_set L i p (by simpa using h), show (i + 1) * 2 = i * 2 + 1 + 1 by omega]
    rfl
theorem padL_set (L : List (Bool × Int)) (i : Nat) (p : Bool × Int) (h : i < L.length) : padL (L.set i p) = (padL L).set i p := by
  simp [padL, List.set_append, h]
theorem tab_set {L : List (Bool × Int)} {i : Nat} (p : Bool × Int) (h : i < L.length) (h2 : L.length ≤ 16) :
    ((tabC L).toArray.setIfInBounds (i * 2) (.bool p.1)).setIfInBounds (i * 2 + 1) (.int .i64 p.2) = (tabC (L.set i p)).toArray := by
  have hp := padL_length h2
  have hr : (rowC (padL L)).length = 32 := by rw [rowC_length, hp]
  simp only [List.setIfInBounds_toArray, tabC]
  rw [List.set_append_left _ _ (by omega), List.set_append_left _ _ (by simp; omega), padL_set L i p h, rowC_set _ _ _ (by omega), List.length_set]
theorem tab_set0 {L : List (Bool × Int)} {i : Nat} (x : Bool) (h : i < L.length) (h2 : L.length ≤ 16) :
    (tabC L).toArray.setIfInBounds (i * 2) (.bool x) = (tabC (L.set i (x, gn L i))).toArray := by
  rw [← tab_set (x, gn L i) h h2]
  have hp := padL_length h2
  have hr : (rowC (padL L)).length = 32 := by rw [rowC_length, hp]
  obtain ⟨g1, g2⟩ := rowC_get (padL L) i (by omega)
  rw [gn_pad] at g2
  simp only [List.setIfInBounds_toArray, tabC]
  rw [List.set_append_left _ _ (by omega), List.set_append_left _ _ (by simp; omega)]
  congr 2
  apply List.ext_getElem?
  intro k
  by_cases e : i * 2 + 1 = k
  · subst e
    simp [List.getElem?_set, g2]
    omega
  · simp [List.getElem?_set, e]
theorem tk_set (L : List (Bool × Int)) (i : Nat) (p : Bool × Int) (j : Nat) (h : i < L.length) : tk (L.set i p) j = if j = i then p.1 else tk L j := by
  unfold tk
  simp only [List.getD_eq_getElem?_getD, List.getElem?_set]
  by_cases e : i = j
  · subst e; simp [h]
  · simp [e, Ne.symm e]
theorem gn_set (L : List (Bool × Int)) (i : Nat) (p : Bool × Int) (j : Nat) (h : i < L.length) : gn (L.set i p) j = if j = i then p.2 else gn L j := by
  unfold gn
  simp only [List.getD_eq_getElem?_getD, List.getElem?_set]
  by_cases e : i = j
  · subst e; simp [h]
  · simp [e, Ne.symm e]
theorem add_full (w : World) (b : Nat) (L : List (Bool × Int)) (h : w.heap[b]? = some (tabO L)) (h1 : 1 ≤ L.length) (h2 : L.length ≤ 16) (hf : freeF L = none) :
    Calls Try.prog 9 #[.pointer (some ⟨b, 0, none⟩)] w fun e w' => e = .returned (.tuple #[.int .i64 0, .int .i64 5]) ∧ w = w' := by
  have hall := Lib.hid (free_none hf)
  have H := Lib.hid h
  have c := (tab_cells h h2).1
  have hq : (L.length : Int) ≤ 16 := by omega
  clear h hf
  go_enter Try.func9, Try.ntmps9
  go_wp2_with fail
  go_step3
  go_wp2_with (go_at_call 20; refine (there_c _ _ _ H.out h1 h2).mono ?_; rintro e w' ⟨rfl, rfl⟩)
  go_step3
  go_wp2_with fail
  go_loop [4, 15] (fun f i => ∃ j : Nat, f = .int .i64 (-1) ∧ j ≤ L.length ∧ i = .int .i64 j) (fun _ i => L.length - (intOf i).toNat)
  case atStart => exact ⟨0, rfl, by omega, rfl⟩
  case round =>
    obtain ⟨j, rfl, hj, rfl⟩ := hrel
    by_cases hlt : j < L.length
    · have c1 := ((tab_cells H.out h2).2 j (by omega)).1
      rw [hall.out j hlt] at c1
      have hk : (j : Int) < 16 := by omega
      go_wp2
      go_round
      case rel => exact ⟨j + 1, rfl, by omega, by go_num⟩
      case measure => simp [intOf]; omega
    · go_wp2
      try rw [Exit.noGoto_ret]
      go_ret2
      exact ⟨rfl, rfl⟩

theorem genOk.set {L : List (Bool × Int)} {G : Int} {i : Nat} {x : Bool} {g : Int} (h : genOk L G) (hi : i < L.length) (h0 : 0 ≤ g) (h1 : g ≤ G + 1) : genOk (L.set i (x, g)) (G + 1) := by
  intro j
  rw [gn_set _ _ _ _ hi]
  have := h j
  split
  · exact ⟨h0, h1⟩
  · omega

set_option maxHeartbeats 400000 in
theorem add_c (w : World) (b : Nat) (L : List (Bool × Int)) (i : Nat) (h : w.heap[b]? = some (tabO L)) (h1 : 1 ≤ L.length) (h2 : L.length ≤ 16) (hg : genOk L 900) (hf : freeF L = some i) :
    Calls Try.prog 9 #[.pointer (some ⟨b, 0, none⟩)] w fun e w' => e = .returned (.tuple #[.int .i64 (i + 16 * (gn L i + 1)), .int .i64 0]) ∧ Upd w b (tabO (L.set i (true, gn L i + 1))) w' := by
  obtain ⟨hi, hti, hlo⟩ := free_some hf
  have hlo := Lib.hid hlo
  have H := Lib.hid h
  have HG := Lib.hid hg
  have c := (tab_cells h h2).1
  have hq : (L.length : Int) ≤ 16 := by omega
  clear h hf hg
  go_enter Try.func9, Try.ntmps9
  go_wp2_with fail
  go_step3
  go_wp2_with (go_at_call 20; refine (there_c _ _ _ H.out h1 h2).mono ?_; rintro e w' ⟨rfl, rfl⟩)
  go_step3
  go_wp2_with fail
  go_loop [4, 15] (fun f i' => ∃ j : Nat, f = .int .i64 (-1) ∧ j ≤ i ∧ i' = .int .i64 j) (fun _ i => L.length - (intOf i).toNat)
  case atStart => exact ⟨0, rfl, by omega, rfl⟩
  case round =>
    obtain ⟨j, rfl, hj, rfl⟩ := hrel
    by_cases hlt : j < i
    · have c1 := ((tab_cells H.out h2).2 j (by omega)).1
      rw [hlo.out j hlt] at c1
      have hk : (j : Int) < 16 := by omega
      have hn : j < L.length := by omega
      clear hti
      go_wp2
      go_round
      case rel => exact ⟨j + 1, rfl, by omega, by go_num⟩
      case measure => simp [intOf]; omega
    · obtain rfl : j = i := by omega
      obtain ⟨c1, c2⟩ := (tab_cells H.out h2).2 j (by omega)
      have ht0 : (j : Int) < 16 := by omega
      have hj0 : ¬ (j : Int) < 0 := by omega
      obtain ⟨g0, g1⟩ := HG.out j
      have fz := has_free H.out
      have HT := Lib.hid hti
      rw [hti] at c1
      clear hti
      generalize hgj : gn L j = g at *
      have HGJ := Lib.hid hgj
      clear hgj
      have wg : IntKind.i64.wrap (g + 1) = g + 1 := IntWalk.i64_in _ (by omega)
      go_wp2_with fail
      refine still_tail 14 (by kernel_rfl) (by kernel_rfl) ?_
      simp only [List.take_succ_cons, List.take_zero, List.drop_succ_cons, List.drop_zero]
      repeat still_step
      refine wpStill_nil ?_
      go_wp2_with fail
      have U : Upd w b (tabO (L.set j (true, g + 1))) _ := (((Upd.refl H.out).setCell (j * 2) (.bool true)).setCell (j * 2 + 1) (.int .i64 (g + 1))).drew.to (by rw [tabO, ← tab_set (true, g + 1) hi h2])
      refine calls_world (fun W => Upd w b (tabO (L.set j (true, g + 1))) W) U ?_
      intro W UW
      clear c c1 c2 fz U wg
      refine (of_c W b (L.set j (true, g + 1)) j (x := j + 16 * (g + 1)) (y := true) UW.1 (by simpa using h1) (by simpa using h2) (fun k => by have := (HG.out.set (x := true) (g := g + 1) hi (by omega) (by omega)) k; omega) ?hx).mono ?_
      case hx => simp [ofF, tk_set _ _ _ _ hi, gn_set _ _ _ _ hi, hi]
      rintro e w' ⟨rfl, rfl⟩
      go_wp2_with fail
      try rw [Exit.noGoto_ret]
      go_ret2
      rw [HGJ.out]
      exact ⟨rfl, UW⟩

/-! Copy. -/
theorem tabC_length {L : List (Bool × Int)} (h : L.length ≤ 16) : (tabC L).length = 33 := by simp [tabC, rowC_length, padL_length h]
theorem plc_one : ∀ {p : Bool × Int} {v : Value}, v ∈ plc p → v.oneCell' = true := by
  intro p v h
  simp only [plc, List.mem_cons, List.not_mem_nil, or_false] at h
  rcases h with rfl | rfl <;> rfl
theorem rowC_one {L : List (Bool × Int)} : ∀ v ∈ rowC L, v.oneCell' = true := by
  intro v h
  simp only [rowC, List.mem_flatMap] at h
  obtain ⟨p, _, h⟩ := h
  exact plc_one h
theorem tabC_one {L : List (Bool × Int)} : ∀ v ∈ tabC L, v.oneCell' = true := by
  intro v h
  simp only [tabC, List.mem_append, List.mem_singleton] at h
  rcases h with h | rfl
  · exact rowC_one v h
  · rfl
theorem copy_c (w : World) (b : Nat) (L : List (Bool × Int)) (h : w.heap[b]? = some (tabO L)) (h1 : 1 ≤ L.length) (h2 : L.length ≤ 16) :
    Calls Try.prog 24 #[.pointer (some ⟨b, 0, none⟩)] w fun e w' => ∃ b', e = .returned (.pointer (some ⟨b', 0, none⟩)) ∧ w.heap.size ≤ b' ∧ w'.heap[b']? = some (tabO L) ∧ Below w.heap.size w w' := by
  have hl := tabC_length h2
  have hr : w.rangeAt b 0 (tabC L) := has_range h _ _ (by simp)
  go_enter Try.func24, Try.ntmps24
  go_wp2_with (first | (go_at_call 20; refine (there_c _ _ _ h h1 h2).mono ?_; rintro e w' ⟨rfl, rfl⟩) | (refine wpList_load_mid rfl 56 (.tmp 8) rfl b 0 rfl (tabC L) _ hr Try.underlying56 rfl (by rw [hl]; kernel_rfl) ?_) | (refine wpList_store_mid rfl 56 (.tmp 3) (.tmp 9) rfl w.heap.size 0 (tabC L).toArray rfl rfl ?ht ?hi ?ho ?_; rotate_left 3))
  case ht => exact has_there (heap_alloc_new _ _) 0 _ (by simp [hl])
  case hi => rw [List.size_toArray, hl]; kernel_rfl
  case ho => exact all_oneCell_toArray tabC_one
  go_ret
  have C := copied w (List.replicate 16 [Value.bool false, Value.int .i64 0] ++ [[Value.int .i64 0]]).flatten.toArray 56 (tabC L) (by rw [hl]; rfl)
  exact ⟨w.heap.size, rfl, Nat.le_refl _, C.1, C.2⟩

/-! Same. -/
theorem flat54 : flatAt Try.prog 4 54 = some (List.replicate 16 [Sc.b, Sc.i .i64]).flatten := by kernel_rfl
theorem agg54 : aggT Try.prog 54 = true := by kernel_rfl
theorem fit_rowC : ∀ (L : List (Bool × Int)), Fit (List.replicate L.length [Sc.b, Sc.i .i64]).flatten (rowC L)
  | [] => trivial
  | p :: L => ⟨⟨p.1, rfl⟩, ⟨p.2, rfl⟩, fit_rowC L⟩
theorem rowC_inj : ∀ {L M : List (Bool × Int)}, rowC L = rowC M → L = M
  | [], [], _ => rfl
  | [], q :: M, h => by cases h
  | p :: L, [], h => by cases h
  | p :: L, q :: M, h => by
    have e : ∀ (q : Bool × Int) (M : List (Bool × Int)), rowC (q :: M) = .bool q.1 :: .int .i64 q.2 :: rowC M := fun _ _ => rfl
    rw [e, e] at h
    injection h with h1 h
    injection h with h2 h
    injection h1 with h1
    injection h2 with _ h2
    rw [rowC_inj h, show p = q from Prod.ext h1 h2]
theorem padL_inj {L M : List (Bool × Int)} (hl : L.length = M.length) (h : padL L = padL M) : L = M := (List.append_inj h hl).1
theorem eql54 (L M : List (Bool × Int)) (hl : L.length ≤ 16) (hm : M.length ≤ 16) (w : World) : (binOp .eql 54 (.agg (rowC (padL L)).toArray) (.agg (rowC (padL M)).toArray)).run Try.prog w = .ok (.bool (decide (padL L = padL M))) w := by
  have f1 : Fit (List.replicate 16 [Sc.b, Sc.i .i64]).flatten (rowC (padL L)) := by have := fit_rowC (padL L); rwa [padL_length hl] at this
  have f2 : Fit (List.replicate 16 [Sc.b, Sc.i .i64]).flatten (rowC (padL M)) := by have := fit_rowC (padL M); rwa [padL_length hm] at this
  rw [run_eql_flat w 4 flat54 (by decide) agg54 (xs := (rowC (padL L)).toArray) (ys := (rowC (padL M)).toArray) f1 f2]
  congr 2
  rw [Bool.eq_iff_iff, eqs_iff f1 f2]
  simp only [decide_eq_true_eq]
  exact ⟨rowC_inj, fun h => by rw [h]⟩
theorem same_nil (w : World) (b : Nat) (L : List (Bool × Int)) (h : w.heap[b]? = some (tabO L)) (h1 : 1 ≤ L.length) (h2 : L.length ≤ 16) : Calls Try.prog 17 #[.pointer none, .pointer (some ⟨b, 0, none⟩)] w fun e w' => e = .returned (.bool false) ∧ w = w' := by
  go_enter Try.func17, Try.ntmps17
  go_wp2_with (go_at_call 20; first | ((with_reducible refine (there_c _ _ _ h h1 h2).mono ?_); rintro e w' ⟨rfl, rfl⟩) | ((with_reducible refine (there_nil _).mono ?_); rintro e w' ⟨rfl, rfl⟩))
  go_ret
  exact ⟨rfl, rfl⟩
theorem same_nil' (w : World) (b : Nat) (L : List (Bool × Int)) (h : w.heap[b]? = some (tabO L)) (h1 : 1 ≤ L.length) (h2 : L.length ≤ 16) : Calls Try.prog 17 #[.pointer (some ⟨b, 0, none⟩), .pointer none] w fun e w' => e = .returned (.bool false) ∧ w = w' := by
  go_enter Try.func17, Try.ntmps17
  go_wp2_with (go_at_call 20; first | ((with_reducible refine (there_c _ _ _ h h1 h2).mono ?_); rintro e w' ⟨rfl, rfl⟩) | ((with_reducible refine (there_nil _).mono ?_); rintro e w' ⟨rfl, rfl⟩))
  go_ret
  exact ⟨rfl, rfl⟩
theorem same_nils (w : World) : Calls Try.prog 17 #[.pointer none, .pointer none] w fun e w' => e = .returned (.bool true) ∧ w = w' := by
  go_enter Try.func17, Try.ntmps17
  go_wp2_with (go_at_call 20; ((with_reducible refine (there_nil _).mono ?_); rintro e w' ⟨rfl, rfl⟩))
  go_ret
  exact ⟨rfl, rfl⟩
theorem same_c (w : World) (b b' : Nat) (L M : List (Bool × Int)) (h : w.heap[b]? = some (tabO L)) (h1 : 1 ≤ L.length) (h2 : L.length ≤ 16) (h' : w.heap[b']? = some (tabO M)) (h1' : 1 ≤ M.length) (h2' : M.length ≤ 16) :
    Calls Try.prog 17 #[.pointer (some ⟨b, 0, none⟩), .pointer (some ⟨b', 0, none⟩)] w fun e w' => e = .returned (.bool (decide (L = M))) ∧ Below w.heap.size w w' := by
  have he := eql54 L M h2 h2'
  have c := (tab_cells h h2).1
  have c' := (tab_cells h' h2').1
  have hr : w.rangeAt b 0 (rowC (padL L)) := has_range h _ _ (by intro j hj; simp [tabC, List.getElem?_append, hj])
  have hr' : w.rangeAt b' 0 (rowC (padL M)) := has_range h' _ _ (by intro j hj; simp [tabC, List.getElem?_append, hj])
  have H := Lib.hid h
  have H' := Lib.hid h'
  clear h h'
  have hs : ∀ N : List (Bool × Int), N.length ≤ 16 → (Try.prog.info? 54).map (·.size) = some (rowC (padL N)).length := fun N hN => by rw [rowC_length, padL_length hN]; kernel_rfl
  have s1 := Lib.hid (hs L h2)
  have s2 := Lib.hid (hs M h2')
  clear hs
  by_cases hlm : L.length = M.length
  · rw [← hlm] at c'
    have hd : decide (padL L = padL M) = decide (L = M) := by
      rw [Bool.eq_iff_iff]; simp only [decide_eq_true_eq]
      exact ⟨padL_inj hlm, fun h => by rw [h]⟩
    rw [hd] at he
    clear hd hlm
    go_enter Try.func17, Try.ntmps17
    go_wp2_with (go_at_call 20; first | ((with_reducible refine (there_c _ _ _ H.out h1 h2).mono ?_); rintro e w' ⟨rfl, rfl⟩) | ((with_reducible refine (there_c _ _ _ H'.out h1' h2').mono ?_); rintro e w' ⟨rfl, rfl⟩))
    refine wp_region_quiet_lit (by kernel_rfl) (by kernel_rfl) ?_
    repeat (first | (refine BigFrame.wpQuiet_want rfl (fun K hK => quiet_load_mid 54 (.tmp 30) rfl b 0 rfl (rowC (padL L)) _ hr Try.underlying54 rfl s1.out ?_); refine hK _ ?_; clear hK K) | (refine BigFrame.wpQuiet_want rfl (fun K hK => quiet_load_mid 54 (.tmp 34) rfl b' 0 rfl (rowC (padL M)) _ hr' Try.underlying54 rfl s2.out ?_); refine hK _ ?_; clear hK K) | quiet_step (fail))
    refine wpQuiet_nil ?_
    rintro _ ⟨nq, rfl⟩
    go_wp2_with fail
    go_ret
    exact ⟨rfl, below_drewN (Below.refl _ _) _⟩
  · have hb : (L.length == M.length) = false := by simpa using hlm
    have hb' : ((L.length : Int) == (M.length : Int)) = false := by rw [beq_eq_false_iff_ne]; omega
    have hd : decide (L = M) = false := by simp only [decide_eq_false_iff_not]; intro h; exact hlm (by rw [h])
    rw [hd]
    clear hd hlm he
    go_enter Try.func17, Try.ntmps17
    go_wp2_with (go_at_call 20; first | ((with_reducible refine (there_c _ _ _ H.out h1 h2).mono ?_); rintro e w' ⟨rfl, rfl⟩) | ((with_reducible refine (there_c _ _ _ H'.out h1' h2').mono ?_); rintro e w' ⟨rfl, rfl⟩))
    go_quiet (fail)
    go_wp2_with fail
    go_ret
    exact ⟨by simp, below_drewN (Below.refl _ _) _⟩
end Go.Proofs.Ytabbioclcjnjjaa
