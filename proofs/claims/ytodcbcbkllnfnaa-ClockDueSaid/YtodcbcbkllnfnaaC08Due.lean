/- The walk of ClockDue: it returns true, and turns nothing that was there. No conditions. -/
import Derived.Test.YtodcbcbkllnfnaaC08Known
namespace Go.Proofs.Ytodcbcbkllnfnaa
open Go.RowKit

/-- What a clock that showed x shows behind n ticks. -/
def mnF (x : Int) (n : Nat) : Int := if 1099511627776 < x + n then 1099511627776 else x + n
theorem mnF_zero {x : Int} (h : x ≤ 1099511627776) : mnF x 0 = x := by unfold mnF; split <;> omega
theorem mnF_succ {x : Int} (n : Nat) : upF (mnF x n) = mnF x (n + 1) := by unfold upF mnF; split <;> split <;> (try split) <;> omega
theorem mnF_rng {x : Int} (h : 0 ≤ x) (n : Nat) : 0 ≤ mnF x n ∧ mnF x n ≤ 1099511627776 := by unfold mnF; split <;> omega
theorem mnF_in (y : Int) (n : Nat) (h1 : y ≤ 1099511627776) : inV y n = mnF y n := by unfold inV mnF; split <;> split <;> omega
theorem left_last {y : Int} {i n : Nat} (h : 1099511627776 ≤ y + i) (hn : i < n) : leftV (mnF y i) (mnF y n) = 0 := by
  have e1 : mnF y i = 1099511627776 := by unfold mnF; split <;> omega
  have e2 : mnF y n = 1099511627776 := by unfold mnF; split <;> omega
  rw [e1, e2]; rfl
theorem left_not {y : Int} {i n : Nat} (h : y + i < 1099511627776) (hn : i < n) : leftV (mnF y i) (mnF y n) = mnF y n - y - i ∧ 0 < mnF y n - y - i := by
  have e1 : mnF y i = y + i := by unfold mnF; split <;> omega
  have e3 : y + i < mnF y n ∧ mnF y n ≤ 1099511627776 := by unfold mnF; split <;> omega
  rw [e1]
  generalize mnF y n = E at *
  obtain ⟨a, b⟩ := e3
  refine ⟨?_, by omega⟩
  unfold leftV
  split <;> (try split) <;> omega
theorem left_end {y : Int} (n : Nat) : leftV (mnF y n) (mnF y n) = 0 := by unfold leftV; simp

theorem due_walk_bad (real ticks : Int) (mono : Bool) (w : World) (h : (real < 0 ∨ 1099511627776 < real) ∨ ((0 ≤ real ∧ real ≤ 1099511627776) ∧ (ticks < 1 ∨ 2000 < ticks))) :
    Calls Try.prog 3 #[.int .i64 real, .int .i64 ticks, .bool mono] w fun e w' => e = .returned (.bool true) ∧ Below w.heap.size w w' := by
  rcases h with h | ⟨⟨h0, h1⟩, h⟩
  · go_enter Try.func3, Try.ntmps3
    go_wp2_with fail
    refine (known_c _).mono ?_; rintro e w1 ⟨rfl, hB⟩
    go_wp2_with fail
    refine (new_bad _ _ h).mono ?_; rintro e w' ⟨rfl, rfl⟩
    clear h
    go_wp2_with (go_at_call 9; refine (num_c _ _).mono ?_; rintro e w' ⟨rfl, rfl⟩)
    go_ret
    exact ⟨rfl, hB⟩
  · go_enter Try.func3, Try.ntmps3
    go_wp2_with fail
    refine (known_c _).mono ?_; rintro e w1 ⟨rfl, hB⟩
    go_wp2_with fail
    refine (new_c _ _ h0 h1).mono ?_; rintro e w2 ⟨rfl, _, hB2, _⟩
    by_cases ht : ticks < 1
    · clear h
      go_wp2_with (go_at_call 9; refine (num_c _ _).mono ?_; rintro e w' ⟨rfl, rfl⟩)
      go_ret
      exact ⟨rfl, below_reads hB hB2 hB.size⟩
    · have ht2 : 2000 < ticks := by omega
      clear h
      go_wp2_with (go_at_call 9; refine (num_c _ _).mono ?_; rintro e w' ⟨rfl, rfl⟩)
      go_ret
      exact ⟨rfl, below_reads hB hB2 hB.size⟩

set_option maxRecDepth 100000 in
set_option maxHeartbeats 1000000 in
theorem due_walk_false (real : Int) (n : Nat) (w : World) (h0 : 0 ≤ real) (h1 : real ≤ 1099511627776) (n1 : 1 ≤ n) (n2 : n ≤ 2000) :
    Calls Try.prog 3 #[.int .i64 real, .int .i64 n, .bool false] w fun e w' => e = .returned (.bool true) ∧ Below w.heap.size w w' := by
  go_enter Try.func3, Try.ntmps3
  go_wp2_with fail
  refine (known_c _).mono ?_; rintro e w1 ⟨rfl, hB⟩
  go_wp2_with fail
  refine (new_c _ _ h0 h1).mono ?_; rintro e w2 ⟨rfl, hC0, hB2, _⟩
  have hb : w.heap.size ≤ w1.heap.size := hB.size
  obtain ⟨y, hy⟩ : ∃ y : Int, y = 0 := ⟨0, rfl⟩
  have hC : w2.heap[w1.heap.size]? = some (clkO true real y) := by rw [hy]; exact hC0
  have y0 : 0 ≤ y := by omega
  have y1 : y ≤ 1099511627776 := by omega
  clear hy hC0
  have hB3 := below_reads hB hB2 hB.size
  generalize w1.heap.size = b at *
  clear hB hB2
  go_wp2_with (go_at_call 9; refine (num_c _ _).mono ?_; rintro e w' ⟨rfl, rfl⟩)
  refine (now_c _ _ _ _ _ (x := real) (e := 0) hC rfl).mono ?_; rintro e w' ⟨rfl, rfl⟩
  go_wp2_with (go_at_call 9; refine (num_c _ _).mono ?_; rintro e w' ⟨rfl, rfl⟩)
  refine (in_c _ _ _ _ _ _ (x := mnF real n) (e := 0) hC ⟨h0, h1⟩ ⟨y0, y1⟩ ?hx).mono ?_
  case hx =>
    simp only [inF, nowF, reduceCtorEq, if_true, if_false]
    rw [if_neg (by omega), mnF_in _ _ (by omega)]
  rintro e w' ⟨rfl, rfl⟩
  go_wp2_with (go_at_call 9; refine (num_c _ _).mono ?_; rintro e w' ⟨rfl, rfl⟩)
  go_loopw [14] (fun i wr => ∃ j : Nat, j ≤ n ∧ i = .int .i64 j ∧ wr.heap[b]? = some (clkO true (mnF real j) (mnF y j)) ∧ Below w.heap.size w wr) (fun i _ => n - (intOf i).toNat)
  case atStart => exact ⟨0, by omega, rfl, by rw [mnF_zero h1, mnF_zero y1]; exact hC, hB3⟩
  case round =>
    obtain ⟨j, hj, rfl, hCr, hBr⟩ := hrel
    obtain ⟨r0, r1⟩ := mnF_rng (x := real) h0 j
    obtain ⟨o0, o1⟩ := mnF_rng (x := y) y0 j
    clear hC hB3
    by_cases hlt : j < n
    · by_cases hl : 1099511627776 ≤ real + (j : Int)
      · have hv := left_last hl hlt
        go_wp2_with fail
        refine (left_c _ _ _ _ _ _ (x := 0) (e := 0) hCr ⟨r0, r1⟩ ⟨o0, o1⟩ ?hx).mono ?_
        case hx => simp only [leftF, nowF, reduceCtorEq, if_true, if_false, hv]
        rintro e w' ⟨rfl, rfl⟩
        go_wp2_with (first | (go_at_call 9; refine (num_c _ _).mono ?_; rintro e w' ⟨rfl, rfl⟩) | (go_at_call 13; refine (due_c _ _ _ _ _ _ (x := true) hCr ⟨r0, r1⟩ ⟨o0, o1⟩ (by simp only [dueF, leftF, nowF, reduceCtorEq, if_true, if_false, hv]; rfl)).mono ?_; rintro e w' ⟨rfl, rfl⟩))
        refine (tick_c _ _ _ _ hCr ⟨r0, r1⟩ ⟨o0, o1⟩).mono ?_; rintro e w3 ⟨rfl, hU⟩
        have hC3 := hU.1
        rw [mnF_succ, mnF_succ] at hC3
        have hB4 := hBr.trans (hU.below hb hBr.size)
        clear hU hCr hBr
        go_wp2_with fail
        go_roundw
        case rel => exact ⟨j + 1, by omega, by go_num, hC3, hB4⟩
        case measure => simp [intOf]; omega
      · obtain ⟨hv, hpos⟩ := left_not (Int.not_le.1 hl) hlt
        go_wp2_with fail
        refine (left_c _ _ _ _ _ _ (x := mnF real n - real - (j : Int)) (e := 0) hCr ⟨r0, r1⟩ ⟨o0, o1⟩ ?hx).mono ?_
        case hx => simp only [leftF, nowF, reduceCtorEq, if_true, if_false, hv]
        rintro e w' ⟨rfl, rfl⟩
        obtain ⟨q0, q1⟩ := mnF_rng (x := real) (by omega) n
        go_wp2_with (first | (go_at_call 9; refine (num_c _ _).mono ?_; rintro e w' ⟨rfl, rfl⟩) | (go_at_call 13; refine (due_c _ _ _ _ _ _ (x := false) hCr ⟨r0, r1⟩ ⟨o0, o1⟩ (by simp only [dueF, leftF, nowF, reduceCtorEq, if_true, if_false, hv]; simp; omega)).mono ?_; rintro e w' ⟨rfl, rfl⟩))
        refine (tick_c _ _ _ _ hCr ⟨r0, r1⟩ ⟨o0, o1⟩).mono ?_; rintro e w3 ⟨rfl, hU⟩
        have hC3 := hU.1
        rw [mnF_succ, mnF_succ] at hC3
        have hB4 := hBr.trans (hU.below hb hBr.size)
        clear hU hCr hBr
        go_wp2_with fail
        go_roundw
        case rel => exact ⟨j + 1, by omega, by go_num, hC3, hB4⟩
        case measure => simp [intOf]; omega
    · obtain rfl : j = n := by omega
      go_wp2_with fail
      refine (due_c _ _ _ _ _ _ (x := true) hCr ⟨r0, r1⟩ ⟨o0, o1⟩ ?hx).mono ?_
      case hx => simp only [dueF, leftF, nowF, reduceCtorEq, if_true, if_false, left_end]; rfl
      rintro e w' ⟨rfl, rfl⟩
      go_wp2_with fail
      go_ret
      exact ⟨rfl, hBr⟩

set_option maxRecDepth 100000 in
set_option maxHeartbeats 1000000 in
theorem due_walk_true (real : Int) (n : Nat) (w : World) (h0 : 0 ≤ real) (h1 : real ≤ 1099511627776) (n1 : 1 ≤ n) (n2 : n ≤ 2000) :
    Calls Try.prog 3 #[.int .i64 real, .int .i64 n, .bool true] w fun e w' => e = .returned (.bool true) ∧ Below w.heap.size w w' := by
  go_enter Try.func3, Try.ntmps3
  go_wp2_with fail
  refine (known_c _).mono ?_; rintro e w1 ⟨rfl, hB⟩
  go_wp2_with fail
  refine (new_c _ _ h0 h1).mono ?_; rintro e w2 ⟨rfl, hC0, hB2, _⟩
  have hb : w.heap.size ≤ w1.heap.size := hB.size
  obtain ⟨y, hy⟩ : ∃ y : Int, y = 0 := ⟨0, rfl⟩
  have hC : w2.heap[w1.heap.size]? = some (clkO true real y) := by rw [hy]; exact hC0
  have y0 : 0 ≤ y := by omega
  have y1 : y ≤ 1099511627776 := by omega
  clear hy hC0
  have hB3 := below_reads hB hB2 hB.size
  generalize w1.heap.size = b at *
  clear hB hB2
  go_wp2_with (go_at_call 9; refine (num_c _ _).mono ?_; rintro e w' ⟨rfl, rfl⟩)
  refine (now_c _ _ _ _ _ (x := y) (e := 0) hC rfl).mono ?_; rintro e w' ⟨rfl, rfl⟩
  go_wp2_with (go_at_call 9; refine (num_c _ _).mono ?_; rintro e w' ⟨rfl, rfl⟩)
  refine (in_c _ _ _ _ _ _ (x := mnF y n) (e := 0) hC ⟨h0, h1⟩ ⟨y0, y1⟩ ?hx).mono ?_
  case hx =>
    simp only [inF, nowF, Int.one_ne_zero, if_true, if_false]
    rw [if_neg (by omega), mnF_in _ _ (by omega)]
  rintro e w' ⟨rfl, rfl⟩
  go_wp2_with (go_at_call 9; refine (num_c _ _).mono ?_; rintro e w' ⟨rfl, rfl⟩)
  go_loopw [14] (fun i wr => ∃ j : Nat, j ≤ n ∧ i = .int .i64 j ∧ wr.heap[b]? = some (clkO true (mnF real j) (mnF y j)) ∧ Below w.heap.size w wr) (fun i _ => n - (intOf i).toNat)
  case atStart => exact ⟨0, by omega, rfl, by rw [mnF_zero h1, mnF_zero y1]; exact hC, hB3⟩
  case round =>
    obtain ⟨j, hj, rfl, hCr, hBr⟩ := hrel
    obtain ⟨r0, r1⟩ := mnF_rng (x := real) h0 j
    obtain ⟨o0, o1⟩ := mnF_rng (x := y) y0 j
    clear hC hB3
    by_cases hlt : j < n
    · by_cases hl : 1099511627776 ≤ y + (j : Int)
      · have hv := left_last hl hlt
        go_wp2_with fail
        refine (left_c _ _ _ _ _ _ (x := 0) (e := 0) hCr ⟨r0, r1⟩ ⟨o0, o1⟩ ?hx).mono ?_
        case hx => simp only [leftF, nowF, Int.one_ne_zero, if_true, if_false, hv]
        rintro e w' ⟨rfl, rfl⟩
        go_wp2_with (first | (go_at_call 9; refine (num_c _ _).mono ?_; rintro e w' ⟨rfl, rfl⟩) | (go_at_call 13; refine (due_c _ _ _ _ _ _ (x := true) hCr ⟨r0, r1⟩ ⟨o0, o1⟩ (by simp only [dueF, leftF, nowF, Int.one_ne_zero, if_true, if_false, hv]; rfl)).mono ?_; rintro e w' ⟨rfl, rfl⟩))
        refine (tick_c _ _ _ _ hCr ⟨r0, r1⟩ ⟨o0, o1⟩).mono ?_; rintro e w3 ⟨rfl, hU⟩
        have hC3 := hU.1
        rw [mnF_succ, mnF_succ] at hC3
        have hB4 := hBr.trans (hU.below hb hBr.size)
        clear hU hCr hBr
        go_wp2_with fail
        go_roundw
        case rel => exact ⟨j + 1, by omega, by go_num, hC3, hB4⟩
        case measure => simp [intOf]; omega
      · obtain ⟨hv, hpos⟩ := left_not (Int.not_le.1 hl) hlt
        go_wp2_with fail
        refine (left_c _ _ _ _ _ _ (x := mnF y n - y - (j : Int)) (e := 0) hCr ⟨r0, r1⟩ ⟨o0, o1⟩ ?hx).mono ?_
        case hx => simp only [leftF, nowF, Int.one_ne_zero, if_true, if_false, hv]
        rintro e w' ⟨rfl, rfl⟩
        obtain ⟨q0, q1⟩ := mnF_rng (x := y) (by omega) n
        go_wp2_with (first | (go_at_call 9; refine (num_c _ _).mono ?_; rintro e w' ⟨rfl, rfl⟩) | (go_at_call 13; refine (due_c _ _ _ _ _ _ (x := false) hCr ⟨r0, r1⟩ ⟨o0, o1⟩ (by simp only [dueF, leftF, nowF, Int.one_ne_zero, if_true, if_false, hv]; simp; omega)).mono ?_; rintro e w' ⟨rfl, rfl⟩))
        refine (tick_c _ _ _ _ hCr ⟨r0, r1⟩ ⟨o0, o1⟩).mono ?_; rintro e w3 ⟨rfl, hU⟩
        have hC3 := hU.1
        rw [mnF_succ, mnF_succ] at hC3
        have hB4 := hBr.trans (hU.below hb hBr.size)
        clear hU hCr hBr
        go_wp2_with fail
        go_roundw
        case rel => exact ⟨j + 1, by omega, by go_num, hC3, hB4⟩
        case measure => simp [intOf]; omega
    · obtain rfl : j = n := by omega
      go_wp2_with fail
      refine (due_c _ _ _ _ _ _ (x := true) hCr ⟨r0, r1⟩ ⟨o0, o1⟩ ?hx).mono ?_
      case hx => simp only [dueF, leftF, nowF, Int.one_ne_zero, if_true, if_false, left_end]; rfl
      rintro e w' ⟨rfl, rfl⟩
      go_wp2_with fail
      go_ret
      exact ⟨rfl, hBr⟩

theorem due_walk (real ticks : Int) (mono : Bool) (w : World) : Calls Try.prog 3 #[.int .i64 real, .int .i64 ticks, .bool mono] w fun e w' => e = .returned (.bool true) ∧ Below w.heap.size w w' := by
  by_cases h : (real < 0 ∨ 1099511627776 < real) ∨ ((0 ≤ real ∧ real ≤ 1099511627776) ∧ (ticks < 1 ∨ 2000 < ticks))
  · exact due_walk_bad real ticks mono w h
  · obtain ⟨n, rfl⟩ := Int.eq_ofNat_of_zero_le (a := ticks) (by omega)
    cases mono
    · exact due_walk_false real n w (by omega) (by omega) (by omega) (by omega)
    · exact due_walk_true real n w (by omega) (by omega) (by omega) (by omega)
theorem due_claim (a0 : Int) (_ : (Lit.int .i64 a0).wf = true) (a1 : Int) (_ : (Lit.int .i64 a1).wf = true) (a2 : Bool) (w : World) : Calls Try.prog 3 #[.int .i64 a0, .int .i64 a1, .bool a2] w fun e w' => e = .returned (.bool true) ∧ Below w.heap.size w w' := due_walk a0 a1 a2 w
end Go.Proofs.Ytodcbcbkllnfnaa

