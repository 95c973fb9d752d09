/- One step of a script: popping, and a copy that goes on. Conditions: the blocks that are named hold what is said. -/
import Derived.Test.YtdpeccbdacdkiaaC20Do
namespace Go.Proofs.Ytdpeccbdacdkiaa
open Go.RowKit

theorem nil_or_snoc (L : List (Int × Int)) : L = [] ∨ ∃ M a b, L = M ++ [(a, b)] := by
  rcases List.eq_nil_or_concat L with h | ⟨M, x, h⟩
  · exact .inl h
  · exact .inr ⟨M, x.1, x.2, by rw [h]; simp⟩
set_option maxRecDepth 100000 in
set_option maxHeartbeats 1000000 in
theorem do_pop (w : World) (B c r : Nat) (s : Cs) (v : Value) (x : Bool) (p q : Int) (h : CSt w B c r s v) :
    Calls Try.prog 9 #[.pointer (some ⟨c, 0, none⟩), .pointer (some ⟨r, 0, none⟩), stepV 5 x p q] w (DoPost w B c r) := by
  have H := Lib.hid h
  clear h
  go_enter Try.func9, Try.ntmps9
  go_upto_region 1 with fail
  refine world_wp (fun W => Below w.heap.size w W ∧ W.heap[w.heap.size]? = some (stepO 5 x p q)) ⟨(Below.refl _ _).alloc (Nat.le_refl _) _, heap_alloc_new _ _⟩ ?_
  rintro W ⟨hB, hX⟩
  have hD := H.out.reads hB
  have u0 : Upd2 w c r W := (Upd2.refl w c r).reads hB
  have e0 := has_cell 0 hX rfl
  have e1 := has_cell 1 hX rfl
  have e2 := has_cell 2 hX rfl
  have e3 := has_cell 3 hX rfl
  have hT := hD.top
  rcases nil_or_snoc s.L with hL | ⟨M, a1, a2, hL⟩
  · go_wp2_with fail
    refine (pop_none _ _ s (by exact hD.can) hL).mono ?_; rintro e w2 ⟨rfl, b2⟩
    have hD2 := hD.reads b2
    have hR2 := hD2.ref
    have v2 := u0.reads b2
    have hc2 := hD2.can
    have hB2 := hD2.hB
    go_wp2_with fail
    refine calls_world (fun W => Below w2.heap.size w2 W ∧ W.heap[w2.heap.size]? = some (.cells #[.int .i64 0, .int .i64 0] 30 (0, 0))) ⟨(Below.refl _ _).alloc (Nat.le_refl _) _, heap_alloc_new _ _⟩ ?_
    rintro W3 ⟨b3, hA⟩
    have hR3 := hR2.reads b3
    have hB3 : B ≤ W3.heap.size := Nat.le_trans hB2 b3.size
    refine (rpop_none _ B _ _ _ hR3 hL).mono ?_; rintro e w4 ⟨rfl, b4⟩
    have hR4 := hR3.reads b4
    have hA4 := below_has b4 hA
    have v4 := (v2.reads b3).reads b4
    have hc4 := below_has b4 (below_has b3 hc2)
    have hv' : True := trivial
    have hsz := Nat.le_trans hB3 b4.size
    have hF : CSt w4 B c r s v := ⟨hc4, hR4, hT, hD.lc, hD.lr, hsz⟩
    have HA := Lib.hid hA4
    clear hA hA4
    go_upto_region 22 with fail
    refine world_wp (fun W5 => Below w4.heap.size w4 W5 ∧ W5.heap[w4.heap.size]? = some (.cells #[.int .i64 0, .int .i64 0] 30 (0, 0))) ⟨(Below.refl _ _).alloc (Nat.le_refl _) _, heap_alloc_new _ _⟩ ?_
    rintro W5 ⟨b5, hA5⟩
    have hA6 := below_has b5 HA.out
    have g0 := has_cell 0 hA5 rfl
    have g1 := has_cell 1 hA5 rfl
    have g2 := has_cell 0 hA6 rfl
    have g3 := has_cell 1 hA6 rfl
    have he := eql30 0 0 0 0
    rw [decide_eq_true rfl] at he
    have hF5 := hF.reads b5
    have v5 := v4.reads b5
    clear hF v4 hc4
    go_wp2_with (go_at_call 16; refine (num_c _ _).mono ?_; rintro e w' ⟨rfl, rfl⟩)
    go_ret3
    exact ⟨c, _, _, by simp, hF5, v5, .inl rfl⟩
  · have hM8 : M.length ≤ 8 := by
      have e : s.L.length = M.length + 1 := by rw [hL]; simp
      omega
    go_wp2_with fail
    refine (pop_c _ _ s M a1 a2 (by exact hD.can) hT hL).mono ?_; rintro e w2 ⟨rfl, u2⟩
    have hR2 := hD.ref.far hD.can u2
    have v2 := u0.left u2
    have hc2 := u2.1
    have hB2 : B ≤ w2.heap.size := Nat.le_trans hD.hB u2.size
    go_wp2_with fail
    refine calls_world (fun W => Below w2.heap.size w2 W ∧ W.heap[w2.heap.size]? = some (.cells #[.int .i64 a1, .int .i64 a2] 30 (0, 0))) ⟨(Below.refl _ _).alloc (Nat.le_refl _) _, heap_alloc_new _ _⟩ ?_
    rintro W3 ⟨b3, hA⟩
    have hR3 := hR2.reads b3
    have hB3 : B ≤ W3.heap.size := Nat.le_trans hB2 b3.size
    have hlA := has_lt hA
    have hrl := has_lt hR2.ref
    refine (rpop_c _ B _ _ _ M a1 a2 hR3 hT hL hB3).mono ?_; rintro e w4 ⟨v', rfl, hR4, u4⟩
    have hA4 := u4.other hA (by omega)
    have v4 := (v2.reads b3).right u4
    have hc4 := u4.other (below_has b3 hc2) hD.ne
    have hsz := Nat.le_trans hB3 u4.size
    have hF : CSt w4 B c r { s with L := M } v' := ⟨hc4, hR4, hM8, hD.lc, hD.lr, hsz⟩
    have HA := Lib.hid hA4
    clear hA hA4
    go_upto_region 22 with fail
    refine world_wp (fun W5 => Below w4.heap.size w4 W5 ∧ W5.heap[w4.heap.size]? = some (.cells #[.int .i64 a1, .int .i64 a2] 30 (0, 0))) ⟨(Below.refl _ _).alloc (Nat.le_refl _) _, heap_alloc_new _ _⟩ ?_
    rintro W5 ⟨b5, hA5⟩
    have hA6 := below_has b5 HA.out
    have g0 := has_cell 0 hA5 rfl
    have g1 := has_cell 1 hA5 rfl
    have g2 := has_cell 0 hA6 rfl
    have g3 := has_cell 1 hA6 rfl
    have he := eql30 a1 a1 a2 a2
    rw [decide_eq_true rfl] at he
    have hF5 := hF.reads b5
    have v5 := v4.reads b5
    clear hF v4 hc4
    go_wp2_with (go_at_call 16; refine (num_c _ _).mono ?_; rintro e w' ⟨rfl, rfl⟩)
    go_ret3
    exact ⟨c, _, _, by simp, hF5, v5, .inl rfl⟩
set_option maxRecDepth 100000 in
set_option maxHeartbeats 1000000 in
theorem do_copy (w : World) (B c r : Nat) (s : Cs) (v : Value) (x : Bool) (p q : Int) (h : CSt w B c r s v) :
    Calls Try.prog 9 #[.pointer (some ⟨c, 0, none⟩), .pointer (some ⟨r, 0, none⟩), stepV 7 x p q] w (DoPost w B c r) := by
  have H := Lib.hid h
  clear h
  go_enter Try.func9, Try.ntmps9
  go_upto_region 1 with fail
  refine world_wp (fun W => Below w.heap.size w W ∧ W.heap[w.heap.size]? = some (stepO 7 x p q)) ⟨(Below.refl _ _).alloc (Nat.le_refl _) _, heap_alloc_new _ _⟩ ?_
  rintro W ⟨hB, hX⟩
  have hD := H.out.reads hB
  have u0 : Upd2 w c r W := (Upd2.refl w c r).reads hB
  have e0 := has_cell 0 hX rfl
  have e1 := has_cell 1 hX rfl
  have e2 := has_cell 2 hX rfl
  have e3 := has_cell 3 hX rfl
  have hT := hD.top
  have hcl := has_lt H.out.can
  go_wp2_with fail
  refine (copy_c _ _ _ (by exact hD.can) hT).mono ?_; rintro e w2 ⟨b', rfl, hb', hC', b2⟩
  have hD2 := hD.reads b2
  have v2 := u0.reads b2
  have hbl := has_lt hC'
  have hWs := hB.size
  go_wp2_with fail
  refine (same_c _ _ _ _ _ (by exact hC') hT (by exact hD2.can) hT).mono ?_; rintro e w3 ⟨rfl, b3⟩
  rw [sameC_self]
  have hD3 := hD2.reads b3
  have v3 := v2.reads b3
  have hC3 := below_has b3 hC'
  clear hD2 v2 hC' b3
  go_wp2_with fail
  refine (ask_c _ _ _ (by exact hD3.can) hT).mono ?_; rintro e w4 ⟨rfl, u4⟩
  have hR4 := hD3.ref.far hD3.can u4
  have hC4 := u4.other hC3 (by omega)
  have v4 := v3.left u4
  have hz4 : B ≤ w4.heap.size := Nat.le_trans hD3.hB u4.size
  clear hC3 v3
  go_wp2_with fail
  refine (unwind_c _ _ { s with ak := true } (by exact u4.1) hT).mono ?_; rintro e w5 ⟨rfl, u5⟩
  have hR5 := hR4.far u4.1 u5
  have hC5 := u5.other hC4 (by omega)
  have v5 := v4.left u5
  have hz5 : B ≤ w5.heap.size := Nat.le_trans hz4 u5.size
  clear hR4 hC4 v4
  generalize (if Cs.un { s with ak := true } = true then (7 : Int) else 0) = zz
  rcases nil_or_snoc s.L with hL | ⟨M, a1, a2, hL⟩
  · go_wp2_with fail
    refine (pop_none _ _ { s with ak := true, un := true } (by exact u5.1) hL).mono ?_; rintro e w6 ⟨rfl, b6⟩
    have hc6 := below_has b6 u5.1
    have hR6 := hR5.reads b6
    have hC6 := below_has b6 hC5
    have v6 := v5.reads b6
    have hz6 : B ≤ w6.heap.size := Nat.le_trans hz5 b6.size
    clear hR5 hC5 v5 b6
    go_wp2_with fail
    refine (push_c _ _ { s with ak := true, un := true } 31 99 (by exact hc6) (by show s.L.length < 8; rw [hL]; decide) (by decide) (by decide)).mono ?_; rintro e w7 ⟨rfl, u7⟩
    have hR7 := hR6.far hc6 u7
    have hC7 := u7.other hC6 (by omega)
    have v7 := v6.left u7
    have hF : CSt w7 B b' r s v := ⟨hC7, hR7, hT, by have := hD.hB; omega, hD.lr, Nat.le_trans hz6 u7.size⟩
    clear hR6 hC6 v6
    go_wp2_with fail
    go_ret3
    exact ⟨b', s, v, rfl, hF, v7, .inr (by omega)⟩
  · go_wp2_with fail
    refine (pop_c _ _ { s with ak := true, un := true } M a1 a2 (by exact u5.1) hT hL).mono ?_; rintro e w6 ⟨rfl, u6⟩
    have hR6 := hR5.far u5.1 u6
    have hC6 := u6.other hC5 (by omega)
    have v6 := v5.left u6
    have hz6 : B ≤ w6.heap.size := Nat.le_trans hz5 u6.size
    have hM8 : M.length < 8 := by have : s.L.length = M.length + 1 := by rw [hL]; simp
                                  omega
    clear hR5 hC5 v5
    go_wp2_with fail
    refine (push_c _ _ { s with ak := true, un := true, L := M } 31 99 (by exact u6.1) hM8 (by decide) (by decide)).mono ?_; rintro e w7 ⟨rfl, u7⟩
    have hR7 := hR6.far u6.1 u7
    have hC7 := u7.other hC6 (by omega)
    have v7 := v6.left u7
    have hF : CSt w7 B b' r s v := ⟨hC7, hR7, hT, by have := hD.hB; omega, hD.lr, Nat.le_trans hz6 u7.size⟩
    clear hR6 hC6 v6
    go_wp2_with fail
    go_ret3
    exact ⟨b', s, v, rfl, hF, v7, .inr (by omega)⟩
theorem do_c (w : World) (B c r : Nat) (s : Cs) (v : Value) (kd : Int) (x : Bool) (p q : Int) (h : CSt w B c r s v) :
    Calls Try.prog 9 #[.pointer (some ⟨c, 0, none⟩), .pointer (some ⟨r, 0, none⟩), stepV kd x p q] w (DoPost w B c r) := by
  by_cases h1 : kd = 1
  · subst h1; exact do_ask w B c r s v x p q h
  by_cases h2 : kd = 2
  · subst h2; exact do_en w B c r s v x p q h
  by_cases h3 : kd = 3
  · subst h3; exact do_asy w B c r s v x p q h
  by_cases h4 : kd = 4
  · subst h4; exact do_push w B c r s v x p q h
  by_cases h5 : kd = 5
  · subst h5; exact do_pop w B c r s v x p q h
  by_cases h6 : kd = 6
  · subst h6; exact do_unw w B c r s v x p q h
  by_cases h7 : kd = 7
  · subst h7; exact do_copy w B c r s v x p q h
  exact do_other w B c r s v x p q h kd h1 h2 h3 h4 h5 h6 h7
end Go.Proofs.Ytdpeccbdacdkiaa
