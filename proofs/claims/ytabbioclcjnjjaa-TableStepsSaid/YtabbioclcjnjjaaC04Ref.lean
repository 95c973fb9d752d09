/- What the functions of the document's table compute. Conditions: the blocks that are named hold what is said. -/
import Derived.Test.YtabbioclcjnjjaaC04NeverParts
import Derived.OwnWalk
namespace Go.Proofs.Ytabbioclcjnjjaa
open Go.RowKit

def refO (s n : Nat) : Obj := .cells #[.slice (some ⟨s, 0, none⟩) n n] 62 (0, 0)
structure RRef (w : World) (r s : Nat) (L : List (Bool × Int)) : Prop where
  tab : w.heap[r]? = some (refO s L.length)
  row : w.heap[s]? = some (rowO L)
  ne : r ≠ s
theorem row_cells {w : World} {s : Nat} {L : List (Bool × Int)} (h : w.heap[s]? = some (rowO L)) (i : Nat) (hi : i < L.length) : w.cell? ⟨s, i * 2, none⟩ = some (.bool (tk L i)) ∧ w.cell? ⟨s, i * 2 + 1, none⟩ = some (.int .i64 (gn L i)) := by
  obtain ⟨h1, h2⟩ := rowC_get L i hi
  exact ⟨has_cell _ h (by simpa using h1), has_cell _ h (by simpa using h2)⟩
theorem RRef.reads {w w' : World} {r s : Nat} {L : List (Bool × Int)} (h : RRef w r s L) (hb : Below w.heap.size w w') : RRef w' r s L := ⟨below_has hb h.tab, below_has hb h.row, h.ne⟩
theorem RRef.tabCell {w : World} {r s : Nat} {L : List (Bool × Int)} (h : RRef w r s L) : w.cell? ⟨r, 0, none⟩ = some (.slice (some ⟨s, 0, none⟩) L.length L.length) := has_cell 0 h.tab rfl
theorem RRef.upd {w w' : World} {r s : Nat} {L M : List (Bool × Int)} (h : RRef w r s L) (hU : Upd w s (rowO M) w') (hl : M.length = L.length) : RRef w' r s M := ⟨by rw [hl]; exact hU.other h.tab h.ne, hU.1, h.ne⟩

theorem below_of_grown0 {w w' : World} (h : w.grownBy w' none) : Below w.heap.size w w' := ⟨h.os, h.tape, h.output, h.size, fun k hk => h.block k hk (by simp)⟩
theorem made_row (n : Nat) : (madeCells (Value.agg #[.bool false, .int .i64 0]).cells (n * 2)).toList = rowC (List.replicate n (false, 0)) := by
  induction n with
  | zero => simp [madeCells, rowC]
  | succ n ih =>
    have e : (n + 1) * 2 = n * 2 + 1 + 1 := by omega
    have h0 : n * 2 % 2 = 0 := by omega
    have h1 : (n * 2 + 1) % 2 = 1 := by omega
    simp only [madeCells, Value.cells, Array.toList_map, Array.toList_range] at ih ⊢
    rw [e, List.range_succ, List.range_succ, List.map_append, List.map_append, ih, List.replicate_succ', rowC, rowC, List.flatMap_append]
    simp [h0, h1, plc]
theorem info68 : (Try.prog.info? 68).map (fun i => (i.zero, i.size, i.bytes)) = some (some (.agg #[.bool false, .int .i64 0]), 2, 16) := by kernel_rfl
theorem rnew_bad (w : World) (x : Int) (h : x < 1 ∨ 16 < x) : Calls Try.prog 13 #[.int .i64 x] w fun e w' => e = .returned (.pointer none) ∧ w = w' := by
  by_cases h0 : x < 1
  · go_enter Try.func13, Try.ntmps13
    go_wp2
    go_ret
    exact ⟨rfl, rfl⟩
  · have h1 : 16 < x := by omega
    clear h
    go_enter Try.func13, Try.ntmps13
    go_wp2
    go_ret
    exact ⟨rfl, rfl⟩
theorem rnew_c (w : World) (n : Nat) (h0 : 1 ≤ n) (h1 : n ≤ 16) : Calls Try.prog 13 #[.int .i64 n] w fun e w' => ∃ r s, e = .returned (.pointer (some ⟨r, 0, none⟩)) ∧ RRef w' r s (List.replicate n (false, 0)) ∧ w.heap.size ≤ r ∧ w.heap.size ≤ s ∧ Below w.heap.size w w' := by
  obtain ⟨i, hi, hz0, hz1, hz2⟩ := info_parts info68
  go_enter Try.func13, Try.ntmps13
  go_wp2_with (refine wpList_make_full _ rfl (.tmp 9) (.tmp 9) 60 rfl w.heap.size 68 i _ 2 Try.underlying60 hi hz0 hz1 .i64 .i64 n n n rfl rfl rfl rfl (by rw [hz2]; omega) (by unfold maxLen; omega) (Nat.le_refl _) ?_; intro W hO hG)
  go_ret
  have hcell := made_row n
  have hrow : W.heap[w.heap.size]? = some (rowO (List.replicate n (false, 0))) := by
    rcases hO.2 with ⟨e, _⟩ | ⟨g, cap, cur, e, _, hg, hn, _, hs, ht⟩
    · cases e
    · injection e with e1 e2 e3
      injection e1 with e1
      injection e1 with e1
      subst e1 e3
      rw [hg, rowO]
      congr 2
      rw [List.take_of_length_le (by simp [hs])] at ht
      rw [← hcell]
      exact Array.toList_inj.1 (by simpa using ht)
  refine ⟨W.heap.size, w.heap.size, rfl, ⟨?_, ?_, ?_⟩, hG.size, Nat.le_refl _, ?_⟩
  · rw [heap_alloc_new, refO, List.length_replicate]
  · exact below_alloc_has hrow
  · have := has_lt hrow; omega
  · exact (below_of_grown0 hG).alloc hG.size _
theorem row_set {L : List (Bool × Int)} {i : Nat} (p : Bool × Int) (h : i < L.length) :
    ((rowC L).toArray.setIfInBounds (i * 2) (.bool p.1)).setIfInBounds (i * 2 + 1) (.int .i64 p.2) = (rowC (L.set i p)).toArray := by
  simp only [List.setIfInBounds_toArray]
  rw [rowC_set _ _ _ h]
theorem row_set0 {L : List (Bool × Int)} {i : Nat} (x : Bool) (h : i < L.length) :
    (rowC L).toArray.setIfInBounds (i * 2) (.bool x) = (rowC (L.set i (x, gn L i))).toArray := by
  rw [← row_set (x, gn L i) h]
  have hr : (rowC L).length = L.length * 2 := rowC_length L
  obtain ⟨g1, g2⟩ := rowC_get L i h
  simp only [List.setIfInBounds_toArray]
  congr 1
  apply List.ext_getElem?
  intro k
  by_cases e : i * 2 + 1 = k
  · subst e
    simp [List.getElem?_set, g2]
    omega
  · simp [List.getElem?_set, e]

theorem rof_c (w : World) (r s : Nat) (L : List (Bool × Int)) (i : Int) {x : Int} {y : Bool} (h : RRef w r s L) (h2 : L.length ≤ 16) (hg : genOk L 1000) (hx : ofF L i = (x, y)) :
    Calls Try.prog 25 #[.pointer (some ⟨r, 0, none⟩), .int .i64 i] w fun e w' => e = .returned (.tuple #[.int .i64 x, .bool y]) ∧ w = w' := by
  have c := h.tabCell
  by_cases hi0 : i < 0
  · obtain ⟨rfl, rfl⟩ : 0 = x ∧ false = y := by simpa [ofF, show ¬ 0 ≤ i by omega] using hx
    clear hx
    go_enter Try.func25, Try.ntmps25
    go_wp2
    go_ret2
    exact ⟨rfl, rfl⟩
  · by_cases hi1 : (L.length : Int) ≤ i
    · obtain ⟨rfl, rfl⟩ : 0 = x ∧ false = y := by simpa [ofF, show ¬ i < L.length by omega] using hx
      clear hx
      go_enter Try.func25, Try.ntmps25
      go_wp2
      go_ret2
      exact ⟨rfl, rfl⟩
    · obtain ⟨k, rfl⟩ := Int.eq_ofNat_of_zero_le (a := i) (by omega)
      have hkl : k < L.length := by omega
      obtain ⟨c1, c2⟩ := row_cells h.row k hkl
      obtain ⟨g0, g1⟩ := hg k
      have hk : (k : Int) < 16 := by omega
      by_cases ht : tk L k = true
      · obtain ⟨rfl, rfl⟩ : (k : Int) + 16 * gn L k = x ∧ true = y := by simpa [ofF, ht, show (k : Int) < L.length by omega] using hx
        clear hx hg
        rw [ht] at c1
        clear ht
        generalize gn L k = g at *
        go_enter Try.func25, Try.ntmps25
        go_wp2
        go_ret2
        exact ⟨rfl, rfl⟩
      · have ht' : tk L k = false := by simpa using ht
        obtain ⟨rfl, rfl⟩ : 0 = x ∧ false = y := by simpa [ofF, ht'] using hx
        clear hx hg
        rw [ht'] at c1
        clear ht ht'
        go_enter Try.func25, Try.ntmps25
        go_wp2
        go_ret2
        exact ⟨rfl, rfl⟩

theorem atF_is_none {L : List (Bool × Int)} {h : Int} (hn : ∀ j, j < L.length → ¬ (tk L j = true ∧ (j : Int) + 16 * gn L j = h)) : atF L h = none := by
  cases hf : atF L h with
  | none => rfl
  | some i => obtain ⟨i1, i2, i3, _⟩ := at_some hf; exact absurd ⟨i2, i3⟩ (hn i i1)
theorem atF_is_some {L : List (Bool × Int)} {h : Int} {i : Nat} (hi : i < L.length) (ht : tk L i = true) (he : (i : Int) + 16 * gn L i = h) (hlo : ∀ j, j < i → ¬ (tk L j = true ∧ (j : Int) + 16 * gn L j = h)) : atF L h = some i := by
  cases hf : atF L h with
  | none => exact absurd ⟨ht, he⟩ (at_none hf i hi)
  | some k =>
    obtain ⟨i1, i2, i3, i4⟩ := at_some hf
    rcases Nat.lt_trichotomy k i with q | q | q
    · exact absurd ⟨i2, i3⟩ (hlo k q)
    · rw [q]
    · exact absurd ⟨ht, he⟩ (i4 i q)
theorem ofF_at (L : List (Bool × Int)) {j : Nat} (hj : j < L.length) : ofF L (j : Int) = if tk L j = true then ((j : Int) + 16 * gn L j, true) else (0, false) := by
  have : (j : Int) < L.length := by omega
  simp [ofF, hj]

theorem rat_c (w : World) (r s : Nat) (L : List (Bool × Int)) (hd : Int) (h : RRef w r s L) (h2 : L.length ≤ 16) (hg : genOk L 1000) :
    Calls Try.prog 15 #[.pointer (some ⟨r, 0, none⟩), .int .i64 hd] w fun e w' => e = .returned (atV (atF L hd)) ∧ w = w' := by
  have c := h.tabCell
  have H := Lib.hid h
  have HG := Lib.hid hg
  clear h hg
  go_enter Try.func15, Try.ntmps15
  go_wp2_with fail
  go_loop [6] (fun i => ∃ j : Nat, i = .int .i64 j ∧ j ≤ L.length ∧ ∀ k, k < j → ¬ (tk L k = true ∧ (k : Int) + 16 * gn L k = hd)) (fun i => L.length - (intOf i).toNat)
  case atStart => exact ⟨0, rfl, by omega, fun k hk => by omega⟩
  case round =>
    obtain ⟨j, rfl, hj, hn⟩ := hrel
    have HN := Lib.hid hn
    clear hn
    by_cases hlt : j < L.length
    · have e := ofF_at L hlt
      cases ht : tk L j with
      | true =>
        rw [if_pos ht] at e
        by_cases he : (j : Int) + 16 * gn L j = hd
        · have HT := Lib.hid ht
          have HE := Lib.hid e
          have heb : ((j : Int) + 16 * gn L j == hd) = true := by simpa using he
          have HQ := Lib.hid he
          obtain ⟨z, hz⟩ : ∃ z, z = (j : Int) + 16 * gn L j := ⟨_, rfl⟩
          rw [← hz] at heb
          have HZ := Lib.hid hz
          clear ht e he hz
          go_wp2_with fail
          refine (rof_c _ r s L j (x := z) (y := true) H.out h2 HG.out (by rw [HZ.out]; exact HE.out)).mono ?_; rintro e w' ⟨rfl, rfl⟩
          go_wp2_with fail
          try rw [Exit.noGoto_ret]
          go_ret2
          rw [atF_is_some hlt HT.out HQ.out HN.out]
          exact ⟨rfl, rfl⟩
        · have HT := Lib.hid ht
          have HE := Lib.hid e
          have heb : ((j : Int) + 16 * gn L j == hd) = false := by simpa using he
          have HQ := Lib.hid he
          obtain ⟨z, hz⟩ : ∃ z, z = (j : Int) + 16 * gn L j := ⟨_, rfl⟩
          rw [← hz] at heb
          have HZ := Lib.hid hz
          clear ht e he hz
          go_wp2_with fail
          refine (rof_c _ r s L j (x := z) (y := true) H.out h2 HG.out (by rw [HZ.out]; exact HE.out)).mono ?_; rintro e w' ⟨rfl, rfl⟩
          go_wp2_with fail
          go_round
          case rel => exact ⟨j + 1, by go_num, by omega, fun k hk => by
            rcases Nat.lt_succ_iff_lt_or_eq.1 hk with q | q
            · exact HN.out k q
            · subst q; exact fun x => HQ.out x.2⟩
          case measure => simp [intOf]; omega
      | false =>
        rw [if_neg (by simp [ht])] at e
        have HT := Lib.hid ht
        have HE := Lib.hid e
        clear ht e
        go_wp2_with fail
        refine (rof_c _ r s L j (x := 0) (y := false) H.out h2 HG.out HE.out).mono ?_; rintro e w' ⟨rfl, rfl⟩
        go_wp2_with fail
        go_round
        case rel => exact ⟨j + 1, by go_num, by omega, fun k hk => by
          rcases Nat.lt_succ_iff_lt_or_eq.1 hk with q | q
          · exact HN.out k q
          · subst q; exact fun x => by have := HT.out; rw [this] at x; exact absurd x.1 (by decide)⟩
        case measure => simp [intOf]; omega
    · obtain rfl : j = L.length := by omega
      go_wp2_with fail
      try rw [Exit.noGoto_ret]
      go_ret2
      rw [atF_is_none HN.out]
      exact ⟨rfl, rfl⟩

theorem rdrop_none (w : World) (r s : Nat) (L : List (Bool × Int)) (hd : Int) (h : RRef w r s L) (h2 : L.length ≤ 16) (hg : genOk L 1000) (hf : atF L hd = none) :
    Calls Try.prog 23 #[.pointer (some ⟨r, 0, none⟩), .int .i64 hd] w fun e w' => e = .returned (.int .i64 6) ∧ w = w' := by
  have C := rat_c w r s L hd h h2 hg
  rw [hf] at C
  have HC := Lib.hid C
  clear C hf
  go_enter Try.func23, Try.ntmps23
  go_wp2_with fail
  refine HC.out.mono ?_
  rintro e w1 ⟨rfl, rfl⟩
  simp only [atV, Option.getD_none, Option.isSome_none]
  go_wp2_with fail
  go_ret
  exact ⟨rfl, rfl⟩
theorem rdrop_c (w : World) (r s : Nat) (L : List (Bool × Int)) (hd : Int) (i : Nat) (h : RRef w r s L) (h2 : L.length ≤ 16) (hg : genOk L 1000) (hf : atF L hd = some i) :
    Calls Try.prog 23 #[.pointer (some ⟨r, 0, none⟩), .int .i64 hd] w fun e w' => e = .returned (.int .i64 0) ∧ Upd w s (rowO (L.set i (false, gn L i))) w' := by
  have C := rat_c w r s L hd h h2 hg
  rw [hf] at C
  obtain ⟨hi, _, _, _⟩ := at_some hf
  have HC := Lib.hid C
  clear C hf
  have c := h.tabCell
  obtain ⟨c1, c2⟩ := row_cells h.row i hi
  have fz := has_free h.row
  have hi16 : (i : Int) < 16 := by omega
  go_enter Try.func23, Try.ntmps23
  go_wp2_with fail
  refine HC.out.mono ?_
  rintro e w1 ⟨rfl, rfl⟩
  simp only [atV, Option.getD_some, Option.isSome_some]
  go_wp2_with fail
  go_ret
  exact ⟨rfl, ((Upd.refl h.row).setCell (i * 2) (.bool false)).to (by rw [rowO, row_set0 false hi])⟩

theorem radd_full (w : World) (r s : Nat) (L : List (Bool × Int)) (h : RRef w r s L) (h2 : L.length ≤ 16) (hf : freeF L = none) :
    Calls Try.prog 22 #[.pointer (some ⟨r, 0, none⟩)] w fun e w' => e = .returned (.tuple #[.int .i64 0, .int .i64 5]) ∧ w = w' := by
  have hall := Lib.hid (free_none hf)
  have H := Lib.hid h
  have c := h.tabCell
  clear h hf
  go_enter Try.func22, Try.ntmps22
  go_wp2_with fail
  go_loop [4] (fun i => ∃ j : Nat, j ≤ L.length ∧ i = .int .i64 j) (fun i => L.length - (intOf i).toNat)
  case atStart => exact ⟨0, by omega, rfl⟩
  case round =>
    obtain ⟨j, hj, rfl⟩ := hrel
    by_cases hlt : j < L.length
    · have c1 := (row_cells H.out.row j hlt).1
      rw [hall.out j hlt] at c1
      go_wp2
      go_round
      case rel => exact ⟨j + 1, by omega, by go_num⟩
      case measure => simp [intOf]; omega
    · go_wp2
      try rw [Exit.noGoto_ret]
      go_ret2
      exact ⟨rfl, rfl⟩
theorem radd_c (w : World) (r s : Nat) (L : List (Bool × Int)) (i : Nat) (h : RRef w r s L) (h2 : L.length ≤ 16) (hg : genOk L 900) (hf : freeF L = some i) :
    Calls Try.prog 22 #[.pointer (some ⟨r, 0, none⟩)] w fun e w' => e = .returned (.tuple #[.int .i64 (i + 16 * (gn L i + 1)), .int .i64 0]) ∧ Upd w s (rowO (L.set i (true, gn L i + 1))) w' := by
  obtain ⟨hi, hti, hlo⟩ := free_some hf
  have hlo := Lib.hid hlo
  have H := Lib.hid h
  have HG := Lib.hid hg
  have c := h.tabCell
  clear h hf hg
  go_enter Try.func22, Try.ntmps22
  go_wp2_with fail
  go_loop [4] (fun i' => ∃ j : Nat, j ≤ i ∧ i' = .int .i64 j) (fun i => L.length - (intOf i).toNat)
  case atStart => exact ⟨0, by omega, rfl⟩
  case round =>
    obtain ⟨j, hj, rfl⟩ := hrel
    by_cases hlt : j < i
    · have c1 := (row_cells H.out.row j (by omega)).1
      rw [hlo.out j hlt] at c1
      have hn : j < L.length := by omega
      clear hti
      go_wp2
      go_round
      case rel => exact ⟨j + 1, by omega, by go_num⟩
      case measure => simp [intOf]; omega
    · obtain rfl : j = i := by omega
      obtain ⟨c1, c2⟩ := row_cells H.out.row j hi
      have ht0 : (j : Int) < 16 := by omega
      have hj0 : ¬ (j : Int) < 0 := by omega
      obtain ⟨g0, g1⟩ := HG.out j
      have fz := has_free H.out.row
      have HT := Lib.hid hti
      rw [hti] at c1
      clear hti
      generalize hgj : gn L j = g at *
      have HGJ := Lib.hid hgj
      clear hgj
      have wg : IntKind.i64.wrap (g + 1) = g + 1 := IntWalk.i64_in _ (by omega)
      go_wp2_with fail
      refine still_tail 16 (by kernel_rfl) (by kernel_rfl) ?_
      simp only [List.take_succ_cons, List.take_zero, List.drop_succ_cons, List.drop_zero]
      repeat still_step
      refine wpStill_nil ?_
      go_upto_region 8 with fail
      have U : Upd w s (rowO (L.set j (true, g + 1))) _ := (((Upd.refl H.out.row).setCell (j * 2) (.bool true)).setCell (j * 2 + 1) (.int .i64 (g + 1))).drew.to (by rw [rowO, ← row_set (true, g + 1) hi])
      refine upd_wp U ?_
      intro W UW
      clear c c1 c2 fz U
      have hR := H.out.upd UW (by simp)
      have c := hR.tabCell
      have c2 := (row_cells hR.row j (by simpa using hi)).2
      rw [gn_set _ _ _ _ hi] at c2
      simp only [if_true, List.length_set] at c c2
      go_wp2_with fail
      try rw [Exit.noGoto_ret]
      go_ret2
      rw [HGJ.out]
      exact ⟨rfl, UW⟩
end Go.Proofs.Ytabbioclcjnjjaa
