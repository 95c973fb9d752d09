/- The chapter's rows hold: 'known' returns true; what is of clocks that are not there: 'nothing' returns true. No conditions. -/
import Derived.Test.YtodcbcbkllnfnaaC08Ref
namespace Go.Proofs.Ytodcbcbkllnfnaa
open Go.RowKit

set_option maxRecDepth 100000 in
set_option maxHeartbeats 1000000 in
theorem known_c (w : World) : Calls Try.prog 7 #[] w fun e w' => e = .returned (.bool true) ∧ Below w.heap.size w w' := by
  go_enter Try.func7, Try.ntmps7
  go_wp2_with fail
  refine (new_bad _ _ (Or.inl (by decide))).mono ?_; rintro e w' ⟨rfl, rfl⟩
  go_wp2_with fail
  refine (new_bad _ _ (Or.inr (by decide))).mono ?_; rintro e w' ⟨rfl, rfl⟩
  go_wp2_with fail
  refine (new_c _ _ (by decide) (by decide)).mono ?_; rintro e w1 ⟨rfl, hC, hB, _⟩
  go_wp2_with fail
  refine (now_c _ _ _ _ _ (x := 5) (e := 0) hC rfl).mono ?_; rintro e w' ⟨rfl, rfl⟩
  go_wp2_with fail
  refine (now_c _ _ _ _ _ (x := 0) (e := 0) hC rfl).mono ?_; rintro e w' ⟨rfl, rfl⟩
  go_wp2_with fail
  refine (now_c _ _ _ _ _ (x := 0) (e := 2) hC rfl).mono ?_; rintro e w' ⟨rfl, rfl⟩
  go_wp2_with fail
  refine (tick_c _ _ _ _ hC (by decide) (by decide)).mono ?_; rintro e w2 ⟨rfl, hU⟩
  have hC2 : w2.heap[w.heap.size]? = some (clkO true 6 1) := hU.1
  have hB2 : Below w.heap.size w w2 := hB.trans (hU.below (Nat.le_refl _) hB.size)
  clear hU hB hC
  go_wp2_with fail
  refine (now_c _ _ _ _ _ (x := 6) (e := 0) hC2 rfl).mono ?_; rintro e w' ⟨rfl, rfl⟩
  go_wp2_with fail
  refine (now_c _ _ _ _ _ (x := 1) (e := 0) hC2 rfl).mono ?_; rintro e w' ⟨rfl, rfl⟩
  go_wp2_with fail
  refine (set_c _ _ _ _ _ _ (e := 7) hC2 rfl).mono ?_; rintro e w3 ⟨rfl, hU⟩
  have hC3 : w3.heap[w.heap.size]? = some (clkO true 6 1) := hU.1
  have hB3 : Below w.heap.size w w3 := hB2.trans (hU.below (Nat.le_refl _) hB2.size)
  clear hU hB2 hC2
  go_wp2_with fail
  refine (set_c _ _ _ _ _ _ (e := 0) hC3 rfl).mono ?_; rintro e w4 ⟨rfl, hU⟩
  have hC4 : w4.heap[w.heap.size]? = some (clkO true 2 1) := hU.1
  have hB4 : Below w.heap.size w w4 := hB3.trans (hU.below (Nat.le_refl _) hB3.size)
  clear hU hB3 hC3
  go_wp2_with fail
  refine (now_c _ _ _ _ _ (x := 2) (e := 0) hC4 rfl).mono ?_; rintro e w' ⟨rfl, rfl⟩
  go_wp2_with fail
  refine (in_c _ _ _ _ _ _ (x := 4) (e := 0) hC4 (by decide) (by decide) rfl).mono ?_; rintro e w' ⟨rfl, rfl⟩
  go_wp2_with fail
  refine (due_c _ _ _ _ _ _ (x := false) hC4 (by decide) (by decide) rfl).mono ?_; rintro e w' ⟨rfl, rfl⟩
  go_wp2_with fail
  refine (left_c _ _ _ _ _ _ (x := 3) (e := 0) hC4 (by decide) (by decide) rfl).mono ?_; rintro e w' ⟨rfl, rfl⟩
  go_wp2_with fail
  refine (in_c _ _ _ _ _ _ (x := 1099511627776) (e := 0) hC4 (by decide) (by decide) rfl).mono ?_; rintro e w' ⟨rfl, rfl⟩
  go_wp2_with (go_at_call 9; refine (num_c _ _).mono ?_; rintro e w' ⟨rfl, rfl⟩)
  go_ret
  exact ⟨rfl, hB4⟩

theorem nothing_c (w : World) (v : Value) (h : Gone w v) (a : Option Addr) (hv : v = .pointer a) : Calls Try.prog 21 #[v] w fun e w' => e = .returned (.bool true) ∧ w = w' := by
  subst hv
  go_enter Try.func21, Try.ntmps21
  go_wp2_with (first | (go_at_call 9; refine (num_c _ _).mono ?_; rintro e w' ⟨rfl, rfl⟩) | (go_at_call 10; refine (now_gone _ _ _ h).mono ?_; rintro e w' ⟨rfl, rfl⟩) | (go_at_call 11; refine (in_gone _ _ _ _ h).mono ?_; rintro e w' ⟨rfl, rfl⟩) | (go_at_call 12; refine (left_gone _ _ _ _ h).mono ?_; rintro e w' ⟨rfl, rfl⟩) | (go_at_call 13; refine (due_gone _ _ _ _ h).mono ?_; rintro e w' ⟨rfl, rfl⟩) | (go_at_call 14; refine (tick_gone _ _ h).mono ?_; rintro e w' ⟨rfl, rfl⟩) | (go_at_call 20; refine (set_gone _ _ _ _ h).mono ?_; rintro e w' ⟨rfl, rfl⟩) | (go_at_call 25; refine (copy_gone _ _ h).mono ?_; rintro e w' ⟨rfl, rfl⟩) | (go_at_call 18; refine (same_gone _ _ _ h Gone.nil).mono ?_; rintro e w' ⟨rfl, rfl⟩))
  go_ret
  exact ⟨rfl, rfl⟩
end Go.Proofs.Ytodcbcbkllnfnaa
