/- One step of the law's two clocks: 'do' answers true, and both show the same behind it. Conditions: the two clocks lie in two blocks and show the same, within bounds. -/
import Derived.Test.YtodcbcbkllnfnaaC08Known
namespace Go.Proofs.Ytodcbcbkllnfnaa
open Go.RowKit

/-- Two clocks, the program's and the document's, that show the same. -/
structure Pair (w : World) (c d : Nat) (r o : Int) : Prop where
  clk : w.heap[c]? = some (clkO true r o)
  ref : w.heap[d]? = some (refO r o)
  ne : c ≠ d
  r0 : 0 ≤ r
  r1 : r ≤ 1099511627776
  o0 : 0 ≤ o
  o1 : o ≤ 1099511627776
/-- What one step leaves. -/
def DoPost (w : World) (c d : Nat) (e : Ending) (w' : World) : Prop :=
  ∃ c' r' o', e = .returned (.tuple #[.pointer (some ⟨c', 0, none⟩), .pointer (some ⟨d, 0, none⟩), .bool true]) ∧ Pair w' c' d r' o' ∧ (c' = c ∨ w.heap.size ≤ c') ∧ Upd2 w c d w'
theorem upF_rng {x : Int} (h0 : 0 ≤ x) : 0 ≤ upF x ∧ upF x ≤ 1099511627776 := by unfold upF; split <;> omega
theorem setR_rng {r k n : Int} (h0 : 0 ≤ r ∧ r ≤ 1099511627776) : 0 ≤ setR r k n ∧ setR r k n ≤ 1099511627776 := by unfold setR; split <;> omega

theorem do_none (w : World) (c d : Nat) (r o kd k n : Int) (p : Pair w c d r o) (h1 : kd ≠ 1) (h2 : kd ≠ 2) (h3 : kd ≠ 3) :
    Calls Try.prog 16 #[.pointer (some ⟨c, 0, none⟩), .pointer (some ⟨d, 0, none⟩), .agg #[.int .i64 kd, .int .i64 k, .int .i64 n]] w (DoPost w c d) := by
  have b1 : (kd == 1) = false := by simpa using h1
  have b2 : (kd == 2) = false := by simpa using h2
  have b3 : (kd == 3) = false := by simpa using h3
  clear h1 h2 h3
  go_enter Try.func16, Try.ntmps16
  go_wp2
  go_ret3
  exact ⟨c, r, o, rfl, ⟨below_alloc_has p.clk, below_alloc_has p.ref, p.ne, p.r0, p.r1, p.o0, p.o1⟩, .inl rfl, (Upd2.refl _ _ _).reads ((Below.refl _ _).alloc (Nat.le_refl _) _)⟩

theorem do_tick (w : World) (c d : Nat) (r o k n : Int) (p : Pair w c d r o) :
    Calls Try.prog 16 #[.pointer (some ⟨c, 0, none⟩), .pointer (some ⟨d, 0, none⟩), .agg #[.int .i64 1, .int .i64 k, .int .i64 n]] w (DoPost w c d) := by
  obtain ⟨hC, hR, ne, r0, r1, o0, o1⟩ := p
  go_enter Try.func16, Try.ntmps16
  go_wp2_with fail
  refine (tick_c _ _ _ _ (below_alloc_has hC) ⟨r0, r1⟩ ⟨o0, o1⟩).mono ?_; rintro e w1 ⟨rfl, hU⟩
  have hR1 := hU.other (below_alloc_has hR) (Ne.symm ne)
  have hC1 := hU.1
  have u1 : Upd2 w c d w1 := ((Upd2.refl _ _ _).reads ((Below.refl _ _).alloc (Nat.le_refl _) _)).left hU
  clear hU hC hR
  go_wp2_with (go_at_call 9; refine (num_c _ _).mono ?_; rintro e w' ⟨rfl, rfl⟩)
  refine (rtick_c _ _ _ _ hR1 ⟨r0, r1⟩ ⟨o0, o1⟩).mono ?_; rintro e w2 ⟨rfl, hU⟩
  have hC2 := hU.other hC1 ne
  have hR2 := hU.1
  have u2 := u1.right hU
  clear hU u1 hC1 hR1
  go_wp2_with fail
  go_ret3
  obtain ⟨a0, a1⟩ := upF_rng r0
  obtain ⟨b0, b1⟩ := upF_rng o0
  exact ⟨c, upF r, upF o, rfl, ⟨hC2, hR2, ne, a0, a1, b0, b1⟩, .inl rfl, u2⟩

theorem do_set (w : World) (c d : Nat) (r o k n : Int) (p : Pair w c d r o) :
    Calls Try.prog 16 #[.pointer (some ⟨c, 0, none⟩), .pointer (some ⟨d, 0, none⟩), .agg #[.int .i64 2, .int .i64 k, .int .i64 n]] w (DoPost w c d) := by
  obtain ⟨hC, hR, ne, r0, r1, o0, o1⟩ := p
  go_enter Try.func16, Try.ntmps16
  go_wp2_with fail
  refine world_wp (fun W => W.heap[c]? = some (clkO true r o) ∧ W.heap[d]? = some (refO r o) ∧ W.heap[w.heap.size]? = some (.cells #[.int .i64 2, .int .i64 k, .int .i64 n] 41 (0, 0)) ∧ Upd2 w c d W ∧ c ≠ w.heap.size ∧ d ≠ w.heap.size) ⟨below_alloc_has hC, below_alloc_has hR, heap_alloc_new _ _, (Upd2.refl _ _ _).reads ((Below.refl _ _).alloc (Nat.le_refl _) _), by have := has_lt hC; omega, by have := has_lt hR; omega⟩ ?_
  rintro W ⟨hC1, hR1, hx, u1, nx, nd⟩
  have x1 := has_cell 1 hx rfl
  have x2 := has_cell 2 hx rfl
  generalize w.heap.size = x at *
  clear hC hR
  go_region_held3 (fun W' => W'.cell? ⟨x, 1, none⟩ = some (.int .i64 k) ∧ W'.cell? ⟨x, 2, none⟩ = some (.int .i64 n)) (first | exact ⟨x1, x2⟩ | exact ⟨by assumption, by assumption⟩)
    (first
      | (go_at_call 9; refine (num_c _ _).mono ?_; rintro e w' ⟨rfl, rfl⟩)
      | (go_at_call 20; refine (set_c _ _ _ _ _ _ (by exact hC1) rfl).mono ?_; rintro e w1 ⟨rfl, hU⟩; have hx1 := hU.other hx (Ne.symm nx); have y1 := has_cell 1 hx1 rfl; have y2 := has_cell 2 hx1 rfl; have hR2 := hU.other hR1 (Ne.symm ne); have hC2 := hU.1; have u2 := u1.drew.left hU)
      | (go_at_call 24; refine (rset_c _ _ _ _ _ _ hR2 rfl).mono ?_; rintro e w2 ⟨rfl, hV⟩; have hx2 := hV.other hx1 (Ne.symm nd); have z1 := has_cell 1 hx2 rfl; have z2 := has_cell 2 hx2 rfl))
  have hC3 := hV.other hC2 ne
  have hR3 := hV.1
  have u3 := u2.right hV
  clear u1 u2 hU hV y1 y2 z1 z2 hx hx1 hx2 x1 x2
  go_wp2_with fail
  go_ret3
  obtain ⟨a0, a1⟩ := setR_rng (k := k) (n := n) ⟨r0, r1⟩
  exact ⟨c, setR r k n, o, rfl, ⟨hC3, hR3, ne, a0, a1, o0, o1⟩, .inl rfl, u3⟩

theorem do_copy (w : World) (c d : Nat) (r o k n : Int) (p : Pair w c d r o) :
    Calls Try.prog 16 #[.pointer (some ⟨c, 0, none⟩), .pointer (some ⟨d, 0, none⟩), .agg #[.int .i64 3, .int .i64 k, .int .i64 n]] w (DoPost w c d) := by
  obtain ⟨hC, hR, ne, r0, r1, o0, o1⟩ := p
  have hB : c < w.heap.size := has_lt hC
  have hBd : d < w.heap.size := has_lt hR
  go_enter Try.func16, Try.ntmps16
  go_wp2_with fail
  refine (copy_c _ _ _ _ (below_alloc_has hC)).mono ?_; rintro e w1 ⟨c', rfl, hc', hN, hb⟩
  have u1 : Upd2 w c d w1 := (((Upd2.refl _ _ _).reads ((Below.refl _ _).alloc (Nat.le_refl _) _))).reads hb
  have hC1 := below_has hb (below_alloc_has hC)
  have hR1 := below_has hb (below_alloc_has hR)
  have hcc : c ≠ c' := by simp at hc'; omega
  have hdd : d ≠ c' := by simp at hc'; omega
  have hlt : w.heap.size ≤ c' := by simp at hc'; omega
  clear hb hc' hC hR
  go_wp2_with fail
  refine (same_c _ _ _ _ _ _ _ hN hC1).mono ?_; rintro e w2 ⟨rfl, hb⟩
  have hC2 := below_has hb hC1
  have hR2 := below_has hb hR1
  have hN2 := below_has hb hN
  have u2 := u1.reads hb
  clear u1 hb hC1 hR1 hN
  go_wp2_with fail
  refine (tick_c _ _ _ _ hC2 ⟨r0, r1⟩ ⟨o0, o1⟩).mono ?_; rintro e w3 ⟨rfl, hU⟩
  have hC3 := hU.1
  have hR3 := hU.other hR2 (Ne.symm ne)
  have hN3 := hU.other hN2 (Ne.symm hcc)
  have u3 := u2.left hU
  clear u2 hU hC2 hR2 hN2
  go_wp2_with fail
  refine (set_c _ _ _ _ _ _ hC3 rfl).mono ?_; rintro e w4 ⟨rfl, hU⟩
  have hR4 := hU.other hR3 (Ne.symm ne)
  have hN4 := hU.other hN3 (Ne.symm hcc)
  have u4 := u3.left hU
  clear u3 hU hC3 hR3 hN3
  go_wp2_with fail
  go_ret3
  exact ⟨c', r, o, by simp, ⟨hN4, hR4, Ne.symm hdd, r0, r1, o0, o1⟩, .inr hlt, u4⟩

theorem do_c (w : World) (c d : Nat) (r o kd k n : Int) (p : Pair w c d r o) :
    Calls Try.prog 16 #[.pointer (some ⟨c, 0, none⟩), .pointer (some ⟨d, 0, none⟩), .agg #[.int .i64 kd, .int .i64 k, .int .i64 n]] w (DoPost w c d) := by
  by_cases h1 : kd = 1
  · subst h1; exact do_tick w c d r o k n p
  · by_cases h2 : kd = 2
    · subst h2; exact do_set w c d r o k n p
    · by_cases h3 : kd = 3
      · subst h3; exact do_copy w c d r o k n p
      · exact do_none w c d r o kd k n p h1 h2 h3

/-- What both show, and tell, is alike. -/
theorem stands_c (w : World) (c d : Nat) (r o kd k n : Int) (p : Pair w c d r o) :
    Calls Try.prog 17 #[.pointer (some ⟨c, 0, none⟩), .pointer (some ⟨d, 0, none⟩), .agg #[.int .i64 kd, .int .i64 k, .int .i64 n]] w fun e w' => e = .returned (.bool true) ∧ Below w.heap.size w w' := by
  obtain ⟨hC, hR, ne, r0, r1, o0, o1⟩ := p
  go_enter Try.func17, Try.ntmps17
  go_wp2_with fail
  refine world_wp (fun W => W.heap[c]? = some (clkO true r o) ∧ W.heap[d]? = some (refO r o) ∧ W.heap[w.heap.size]? = some (.cells #[.int .i64 kd, .int .i64 k, .int .i64 n] 41 (0, 0)) ∧ Below w.heap.size w W) ⟨below_alloc_has hC, below_alloc_has hR, heap_alloc_new _ _, (Below.refl _ _).alloc (Nat.le_refl _) _⟩ ?_
  rintro W ⟨hC1, hR1, hx, hB⟩
  clear hC hR
  have x1 := has_cell 1 hx rfl
  have x2 := has_cell 2 hx rfl
  generalize hsz : w.heap.size = x at *
  have HS := Lib.hid hsz
  clear hsz
  go_loop [7] (fun i => ∃ j : Int, -1 ≤ j ∧ j ≤ 3 ∧ i = .int .i64 j) (fun i => (3 - intOf i).toNat)
  case atStart => exact ⟨-1, by omega, by omega, rfl⟩
  case round =>
    obtain ⟨j, j0, j1, rfl⟩ := hrel
    by_cases hj : j ≤ 2
    · go_wp2_with fail
      refine (now_c _ _ _ _ _ (x := (nowF r o j).1) (e := (nowF r o j).2) hC1 rfl).mono ?_; rintro e w' ⟨rfl, rfl⟩
      go_wp2_with fail
      refine (rnow_c _ _ _ _ _ (x := (nowF r o j).1) (e := (nowF r o j).2) hR1 rfl).mono ?_; rintro e w' ⟨rfl, rfl⟩
      generalize (nowF r o j).1 = y1
      generalize (nowF r o j).2 = y2
      go_wp2_with (go_at_call 9; refine (num_c _ _).mono ?_; rintro e w' ⟨rfl, rfl⟩)
      go_round
      case rel => exact ⟨j + 1, by omega, by omega, by go_num⟩
      case measure => simp [intOf]; omega
    · go_wp2_with fail
      refine (in_c _ _ _ _ _ _ (x := (inF r o k n).1) (e := (inF r o k n).2) hC1 ⟨r0, r1⟩ ⟨o0, o1⟩ rfl).mono ?_; rintro e w' ⟨rfl, rfl⟩
      go_wp2_with fail
      refine (rin_c _ _ _ _ _ _ (x := (inF r o k n).1) (e := (inF r o k n).2) hR1 ⟨r0, r1⟩ ⟨o0, o1⟩ rfl).mono ?_; rintro e w' ⟨rfl, rfl⟩
      generalize (inF r o k n).1 = y1
      generalize (inF r o k n).2 = y2
      go_wp2_with fail
      refine (left_c _ _ _ _ _ _ (x := (leftF r o k n).1) (e := (leftF r o k n).2) hC1 ⟨r0, r1⟩ ⟨o0, o1⟩ rfl).mono ?_; rintro e w' ⟨rfl, rfl⟩
      go_wp2_with fail
      refine (rleft_c _ _ _ _ _ _ (x := (leftF r o k n).1) (e := (leftF r o k n).2) hR1 ⟨r0, r1⟩ ⟨o0, o1⟩ rfl).mono ?_; rintro e w' ⟨rfl, rfl⟩
      generalize (leftF r o k n).1 = y3
      generalize (leftF r o k n).2 = y4
      go_wp2_with fail
      go_quiet ((first | (go_at_call 9; exact quiet_left (num_c _ _)) | (go_at_call 13; exact quiet_left (due_c _ _ _ _ _ _ (by exact hC1) ⟨r0, r1⟩ ⟨o0, o1⟩ rfl)) | (go_at_call 29; exact quiet_left (rdue_c _ _ _ _ _ _ (by exact hR1) ⟨r0, r1⟩ ⟨o0, o1⟩ rfl))))
      go_wp2
      go_ret
      exact ⟨by simp, by rw [HS.out]; exact below_drewN hB _⟩
end Go.Proofs.Ytodcbcbkllnfnaa
