/- The walk of InheritPlays: it returns true, and turns nothing that was there. Conditions: the script is a slice of steps. -/
import Derived.Test.YtkjcchepgpbiiaaC12Stands
import Derived.Test.YtkjcchepgpbiiaaC12Least
namespace Go.Proofs.Ytkjcchepgpbiiaa
open Go.RowKit

set_option maxRecDepth 100000 in
theorem plays_bad (w : World) (x : Int) (a : Option Addr) (len cap : Nat) (lv : Int) (h : x < 1 ∨ 16 < x) :
    Calls Try.prog 4 #[.int .i64 x, .slice a len cap, .int .i64 lv] w fun e w' => e = .returned (.bool true) ∧ Below w.heap.size w w' := by
  have H := Lib.hid h
  clear h
  go_enter Try.func4, Try.ntmps4
  go_wp2_with fail
  refine (new_bad _ _ H.out).mono ?_; rintro e w' ⟨rfl, rfl⟩
  go_wp2_with fail
  refine (rnew_bad _ _ H.out).mono ?_; rintro e w' ⟨rfl, rfl⟩
  go_wp2_with fail
  refine (known_c _).mono ?_; rintro e w1 ⟨rfl, hB⟩
  go_wp2_with fail
  go_ret
  exact ⟨rfl, hB⟩

set_option maxRecDepth 100000 in
set_option maxHeartbeats 2000000 in
theorem plays_c (w : World) (n : Nat) (a : Option Addr) (len cap : Nat) (lv : Int) (h1 : 1 ≤ n) (h2 : n ≤ 16) (hs : IsRows w stepSc a len) :
    Calls Try.prog 4 #[.int .i64 n, .slice a len cap, .int .i64 lv] w fun e w' => e = .returned (.bool true) ∧ Below w.heap.size w w' := by
  have hm := hs.max
  unfold maxLen at hm
  have HS := Lib.hid hs
  clear hs
  go_enter Try.func4, Try.ntmps4
  go_wp2_with fail
  refine (new_c _ n h1 h2).mono ?_; rintro e w1 ⟨rfl, hG, hB, hz⟩
  go_wp2_with fail
  refine (rnew_c _ n h1 h2).mono ?_; rintro e w2 ⟨rfl, hR, hB2, hz2⟩
  have hW := run_new h1 h2 hG hB hR hB2
  obtain ⟨b, hb⟩ : ∃ b, w.heap.size = b := ⟨_, rfl⟩
  obtain ⟨r, hr⟩ : ∃ r, w1.heap.size = r := ⟨_, rfl⟩
  rw [hb, hr] at hW
  rw [hb, hr]
  clear hG hB hR hB2 hz hz2 hr
  have HBB := Lib.hid hb
  clear hb
  by_cases h200 : 200 < len
  · go_wp2_with fail
    refine (known_c _).mono ?_; rintro e w3 ⟨rfl, hb⟩
    have hB := (hW.reads hb).below
    go_wp2_with fail
    go_ret
    exact ⟨rfl, hB⟩
  go_wp2_with fail
  go_loopw [10] (fun i wr => ∃ (s : Gs) (j : Nat), i = .int .i64 j ∧ j ≤ len ∧ RunW w wr b r s) (fun i _ => len - (intOf i).toNat)
  case atStart => exact ⟨_, 0, rfl, Nat.zero_le _, hW⟩
  case round =>
    clear hW
    obtain ⟨s, j, rfl, hj, hW⟩ := hrel
    by_cases hlt : j < len
    · obtain ⟨ba, off, kd, th, nn, rfl, hq⟩ := rows_cells HS.out hlt
      obtain ⟨e0, e1, e2⟩ := hq wr hW.below
      clear hq
      have HK := Lib.hid hlt
      go_wp2_with fail
      refine (does_c wr b r s kd th nn hW.p).mono ?_; rintro e w5 ⟨rfl, hp5, u5⟩
      have hW5 := hW.step hp5 u5
      clear hW e0 e1 e2 hp5 u5
      go_wp2_with fail
      refine (stands_c w5 b r _ lv hW5.p).mono ?_; rintro e w6 ⟨rfl, hb6⟩
      have hW6 := hW5.reads hb6
      clear hW5 hb6
      go_wp2_with fail
      go_roundw
      case rel => exact ⟨_, j + 1, by go_num, HK.out, hW6⟩
      case measure => have := HK.out; simp [intOf]; omega
    · go_wp2_with fail
      refine (known_c _).mono ?_; rintro e w7 ⟨rfl, hb⟩
      have hB := (hW.reads hb).below
      go_wp2_with fail
      go_ret
      exact ⟨rfl, hB⟩

theorem plays_claim (w : World) (x : Int) (_ : (Lit.int .i64 x).wf = true) (a : Option Addr) (len cap : Nat) (hs : IsRows w stepSc a len) (lv : Int) (_ : (Lit.int .i64 lv).wf = true) :
    Calls Try.prog 4 #[.int .i64 x, .slice a len cap, .int .i64 lv] w fun e w' => e = .returned (.bool true) ∧ Below w.heap.size w w' := by
  by_cases h : 1 ≤ x ∧ x ≤ 16
  · obtain ⟨n, rfl⟩ : ∃ n : Nat, x = n := ⟨x.toNat, by omega⟩
    exact plays_c w n a len cap lv (by omega) (by omega) hs
  · exact plays_bad w x a len cap lv (by omega)
end Go.Proofs.Ytkjcchepgpbiiaa
