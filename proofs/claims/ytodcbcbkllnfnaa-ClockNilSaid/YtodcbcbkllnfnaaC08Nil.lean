/- The walk of ClockNil: it returns true, and turns nothing that was there. No conditions. -/
import Derived.Test.YtodcbcbkllnfnaaC08Known
namespace Go.Proofs.Ytodcbcbkllnfnaa
open Go.RowKit

set_option maxRecDepth 100000 in
set_option maxHeartbeats 2000000 in
theorem nil_claim (w : World) : Calls Try.prog 6 #[] w fun e w' => e = .returned (.bool true) ∧ Below w.heap.size w w' := by
  go_enter Try.func6, Try.ntmps6
  go_wp2_with fail
  refine (new_c _ _ (by decide) (by decide)).mono ?_; rintro e w1 ⟨rfl, hC, hB, _⟩
  go_wp2_with fail
  refine (tick_c _ _ _ _ hC (by decide) (by decide)).mono ?_; rintro e w2 ⟨rfl, hU⟩
  have hC2 : w2.heap[w.heap.size]? = some (clkO true 1099511627776 1) := hU.1
  have hB2 : Below w.heap.size w w2 := hB.trans (hU.below (Nat.le_refl _) hB.size)
  clear hU hB hC
  go_wp2_with (go_at_call 9; refine (num_c _ _).mono ?_; rintro e w' ⟨rfl, rfl⟩)
  refine (now_c _ _ _ _ _ (x := 1099511627776) (e := 0) hC2 rfl).mono ?_; rintro e w' ⟨rfl, rfl⟩
  go_wp2_with (go_at_call 9; refine (num_c _ _).mono ?_; rintro e w' ⟨rfl, rfl⟩)
  refine (in_c _ _ _ _ _ _ (x := 1099511627776) (e := 0) hC2 (by decide) (by decide) rfl).mono ?_; rintro e w' ⟨rfl, rfl⟩
  go_wp2_with (go_at_call 9; refine (num_c _ _).mono ?_; rintro e w' ⟨rfl, rfl⟩)
  refine (left_c _ _ _ _ _ _ (x := 0) (e := 0) hC2 (by decide) (by decide) rfl).mono ?_; rintro e w' ⟨rfl, rfl⟩
  go_wp2_with (go_at_call 9; refine (num_c _ _).mono ?_; rintro e w' ⟨rfl, rfl⟩)
  refine (left_c _ _ _ _ _ _ (x := 1099511627775) (e := 0) hC2 (by decide) (by decide) rfl).mono ?_; rintro e w' ⟨rfl, rfl⟩
  go_wp2_with (go_at_call 9; refine (num_c _ _).mono ?_; rintro e w' ⟨rfl, rfl⟩)
  refine (in_c _ _ _ _ _ _ (x := 0) (e := 2) hC2 (by decide) (by decide) rfl).mono ?_; rintro e w' ⟨rfl, rfl⟩
  go_wp2_with (go_at_call 9; refine (num_c _ _).mono ?_; rintro e w' ⟨rfl, rfl⟩)
  refine (set_c _ _ _ _ _ _ (e := 2) hC2 rfl).mono ?_; rintro e w3 ⟨rfl, hU⟩
  have hC3 : w3.heap[w.heap.size]? = some (clkO true 1099511627776 1) := hU.1
  have hB3 : Below w.heap.size w w3 := hB2.trans (hU.below (Nat.le_refl _) hB2.size)
  clear hU hC2 hB2
  go_wp2_with (go_at_call 9; refine (num_c _ _).mono ?_; rintro e w' ⟨rfl, rfl⟩)
  refine (set_c _ _ _ _ _ _ (e := 2) hC3 rfl).mono ?_; rintro e w4 ⟨rfl, hU⟩
  have hC4 : w4.heap[w.heap.size]? = some (clkO true 1099511627776 1) := hU.1
  have hB4 : Below w.heap.size w w4 := hB3.trans (hU.below (Nat.le_refl _) hB3.size)
  clear hU hC3 hB3
  go_wp2_with (go_at_call 9; refine (num_c _ _).mono ?_; rintro e w' ⟨rfl, rfl⟩)
  refine (set_c _ _ _ _ _ _ (e := 2) hC4 rfl).mono ?_; rintro e w5 ⟨rfl, hU⟩
  have hC5 : w5.heap[w.heap.size]? = some (clkO true 1099511627776 1) := hU.1
  have hB5 : Below w.heap.size w w5 := hB4.trans (hU.below (Nat.le_refl _) hB4.size)
  clear hU hC4 hB4
  go_wp2_with (go_at_call 9; refine (num_c _ _).mono ?_; rintro e w' ⟨rfl, rfl⟩)
  refine (set_c _ _ _ _ _ _ (e := 2) hC5 rfl).mono ?_; rintro e w6 ⟨rfl, hU⟩
  have hC6 : w6.heap[w.heap.size]? = some (clkO true 1099511627776 1) := hU.1
  have hB6 : Below w.heap.size w w6 := hB5.trans (hU.below (Nat.le_refl _) hB5.size)
  clear hU hC5 hB5
  go_wp2_with (go_at_call 9; refine (num_c _ _).mono ?_; rintro e w' ⟨rfl, rfl⟩)
  refine (left_c _ _ _ _ _ _ (x := 0) (e := 0) hC6 (by decide) (by decide) rfl).mono ?_; rintro e w' ⟨rfl, rfl⟩
  go_wp2_with (go_at_call 9; refine (num_c _ _).mono ?_; rintro e w' ⟨rfl, rfl⟩)
  refine (due_c _ _ _ _ _ _ (x := true) hC6 (by decide) (by decide) rfl).mono ?_; rintro e w' ⟨rfl, rfl⟩
  go_wp2_with (go_at_call 9; refine (num_c _ _).mono ?_; rintro e w' ⟨rfl, rfl⟩)
  refine (due_c _ _ _ _ _ _ (x := false) hC6 (by decide) (by decide) rfl).mono ?_; rintro e w' ⟨rfl, rfl⟩
  go_wp2_with (go_at_call 9; refine (num_c _ _).mono ?_; rintro e w' ⟨rfl, rfl⟩)
  refine (due_c _ _ _ _ _ _ (x := true) hC6 (by decide) (by decide) rfl).mono ?_; rintro e w' ⟨rfl, rfl⟩
  go_wp2_with (go_at_call 9; refine (num_c _ _).mono ?_; rintro e w' ⟨rfl, rfl⟩)
  refine (due_c _ _ _ _ _ _ (x := false) hC6 (by decide) (by decide) rfl).mono ?_; rintro e w' ⟨rfl, rfl⟩
  go_wp2_with (go_at_call 9; refine (num_c _ _).mono ?_; rintro e w' ⟨rfl, rfl⟩)
  refine (nothing_c _ _ Gone.nil none rfl).mono ?_; rintro e w' ⟨rfl, rfl⟩
  go_wp2_with (go_at_call 9; refine (num_c _ _).mono ?_; rintro e w' ⟨rfl, rfl⟩)
  refine calls_world (fun W => W.heap[w6.heap.size]? = some (clkO false 0 0) ∧ Below w6.heap.size w6 W) ⟨heap_alloc_new _ _, (Below.refl _ _).alloc (Nat.le_refl _) _⟩ ?_
  rintro W ⟨hx, hb⟩
  refine (nothing_c _ _ (Gone.zero _ _ _ hx) _ rfl).mono ?_; rintro e w' ⟨rfl, rfl⟩
  have hC7 := below_has hb hC6
  have hB7 := below_reads hB6 hb hB6.size
  clear hx hb hC6 hB6
  go_wp2_with (go_at_call 9; refine (num_c _ _).mono ?_; rintro e w' ⟨rfl, rfl⟩)
  refine (same_one _ _ _ _ _ hC7 Gone.nil).mono ?_; rintro e w' ⟨rfl, rfl⟩
  go_wp2_with (go_at_call 9; refine (num_c _ _).mono ?_; rintro e w' ⟨rfl, rfl⟩)
  refine (known_c _).mono ?_; rintro e w8 ⟨rfl, hb⟩
  have hB8 := below_reads hB7 hb hB7.size
  clear hb hB7 hC7
  go_wp2_with fail
  go_ret
  exact ⟨rfl, hB8⟩
end Go.Proofs.Ytodcbcbkllnfnaa
