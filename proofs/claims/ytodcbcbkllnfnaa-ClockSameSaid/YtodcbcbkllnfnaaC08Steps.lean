/- The walk of ClockSteps: it returns true, and turns nothing that was there. Conditions: the script is a slice of steps. -/
import Derived.Test.YtodcbcbkllnfnaaC08Do
import Derived.Test.YtodcbcbkllnfnaaLift
namespace Go.Proofs.Ytodcbcbkllnfnaa
open Go.RowKit

abbrev stepSc : List Sc := [.i .i64, .i .i64, .i .i64]
theorem step_fit {cs : List Value} (h : FitW stepSc cs) : ∃ kd k n : Int, cs = [.int .i64 kd, .int .i64 k, .int .i64 n] := by
  have hl : cs.length = 3 := h.len
  match cs, hl with
  | [x, y, z], _ =>
    obtain ⟨⟨a, ha, _⟩, ⟨b, hb, _⟩, ⟨c, hc, _⟩, _⟩ := h
    exact ⟨a, b, c, by rw [ha, hb, hc]⟩

theorem steps_bad (x : Int) (a : Option Addr) (len cap : Nat) (w : World) (h : x < 0 ∨ 1099511627776 < x) :
    Calls Try.prog 4 #[.int .i64 x, .slice a len cap] w fun e w' => e = .returned (.bool true) ∧ Below w.heap.size w w' := by
  go_enter Try.func4, Try.ntmps4
  go_wp2_with fail
  refine (new_bad _ _ h).mono ?_; rintro e w' ⟨rfl, rfl⟩
  go_wp2_with fail
  refine (rnew_bad _ _ h).mono ?_; rintro e w' ⟨rfl, rfl⟩
  clear h
  go_wp2_with (go_at_call 9; refine (num_c _ _).mono ?_; rintro e w' ⟨rfl, rfl⟩)
  refine (known_c _).mono ?_; rintro e w1 ⟨rfl, hB⟩
  go_wp2_with fail
  go_ret
  exact ⟨rfl, hB⟩

set_option maxRecDepth 100000 in
theorem steps_c (x : Int) (a : Option Addr) (len cap : Nat) (w : World) (h0 : 0 ≤ x) (h1 : x ≤ 1099511627776) (hs : IsRows w stepSc a len) (hm : len ≤ maxLen) :
    Calls Try.prog 4 #[.int .i64 x, .slice a len cap] w fun e w' => e = .returned (.bool true) ∧ Below w.heap.size w w' := by
  unfold maxLen at hm
  go_enter Try.func4, Try.ntmps4
  go_wp2_with fail
  refine (new_c _ _ h0 h1).mono ?_; rintro e w1 ⟨rfl, hC, hB, hz⟩
  go_wp2_with fail
  refine (rnew_c _ _ h0 h1).mono ?_; rintro e w2 ⟨rfl, hR, hB2, hz2⟩
  have hp : Pair w2 w.heap.size w1.heap.size x 0 := ⟨below_has hB2 hC, hR, by omega, h0, h1, by omega, by omega⟩
  have hB3 := below_reads hB hB2 hB.size
  have hd : w.heap.size ≤ w1.heap.size := hB.size
  generalize w1.heap.size = d at *
  clear hB hB2 hC hR hz hz2
  go_wp2_with (go_at_call 9; refine (num_c _ _).mono ?_; rintro e w' ⟨rfl, rfl⟩)
  go_loopw [5, 7, 8] (fun c r i wr => ∃ (cb : Nat) (rr oo : Int) (j : Nat), c = .pointer (some ⟨cb, 0, none⟩) ∧ r = .pointer (some ⟨d, 0, none⟩) ∧ i = .int .i64 j ∧ j ≤ len ∧ Pair wr cb d rr oo ∧ w.heap.size ≤ cb ∧ Below w.heap.size w wr) (fun _ _ i _ => len - (intOf i).toNat)
  case atStart => exact ⟨_, _, _, 0, rfl, rfl, rfl, by omega, hp, Nat.le_refl _, hB3⟩
  case round =>
    obtain ⟨cb, rr, oo, j, rfl, rfl, rfl, hj, hpr, hcb, hBr⟩ := hrel
    clear hp hB3
    by_cases hlt : j < len
    · by_cases h3 : j < 300
      · rcases hs with hs | ⟨b, off, rfl, _, hb, hs⟩
        · omega
        · obtain ⟨cs, hf, hc⟩ := hs j hlt
          obtain ⟨kd, k, n, rfl⟩ := step_fit hf
          have hbb : b < w.heap.size := hb (by omega)
          have e0 : wr.cell? ⟨b, off + j * 3, none⟩ = some (.int .i64 kd) := (hBr.cell (p := ⟨b, _, none⟩) hbb).trans (hc 0 (by decide))
          have e1 : wr.cell? ⟨b, off + j * 3 + 1, none⟩ = some (.int .i64 k) := (hBr.cell (p := ⟨b, _, none⟩) hbb).trans (hc 1 (by decide))
          have e2 : wr.cell? ⟨b, off + j * 3 + 2, none⟩ = some (.int .i64 n) := (hBr.cell (p := ⟨b, _, none⟩) hbb).trans (hc 2 (by decide))
          have q : ∀ W, Below w.heap.size w W → W.cell? ⟨b, off + j * 3, none⟩ = some (.int .i64 kd) ∧ W.cell? ⟨b, off + j * 3 + 1, none⟩ = some (.int .i64 k) ∧ W.cell? ⟨b, off + j * 3 + 2, none⟩ = some (.int .i64 n) := fun W hW =>
            ⟨(hW.cell (p := ⟨b, _, none⟩) hbb).trans (hc 0 (by decide)), (hW.cell (p := ⟨b, _, none⟩) hbb).trans (hc 1 (by decide)), (hW.cell (p := ⟨b, _, none⟩) hbb).trans (hc 2 (by decide))⟩
          have Q := Lib.hid q
          obtain ⟨e0, e1, e2⟩ := q wr hBr
          clear hc hf hs hb q
          go_wp2_with fail
          refine (do_c _ _ _ _ _ _ _ _ hpr).mono ?_; rintro e w3 ⟨c', r', o', rfl, hp', hcc, u⟩
          have hB4 := hBr.trans (u.below hcb hd hBr.size)
          have hc' : w.heap.size ≤ c' := by have := hBr.size; omega
          obtain ⟨g0, g1, g2⟩ := Q.out w3 hB4
          clear e0 e1 e2 u hcc hpr hBr hcb
          go_wp2_with fail
          refine (stands_c _ _ _ _ _ _ _ _ hp').mono ?_; rintro e w4 ⟨rfl, hb⟩
          have hp2 : Pair w4 c' d r' o' := ⟨below_has hb hp'.clk, below_has hb hp'.ref, hp'.ne, hp'.r0, hp'.r1, hp'.o0, hp'.o1⟩
          have hB5 := below_reads hB4 hb hB4.size
          clear g0 g1 g2 hb hp' hB4
          go_wp2_with fail
          go_roundw
          case rel => exact ⟨c', r', o', j + 1, rfl, rfl, by go_num, by omega, hp2, hc', hB5⟩
          case measure => simp [intOf]; omega
      · go_wp2_with fail
        refine (known_c _).mono ?_; rintro e w1 ⟨rfl, hb⟩
        go_wp2_with fail
        go_ret
        exact ⟨rfl, below_reads hBr hb hBr.size⟩
    · go_wp2_with fail
      refine (known_c _).mono ?_; rintro e w1 ⟨rfl, hb⟩
      go_wp2_with fail
      go_ret
      exact ⟨rfl, below_reads hBr hb hBr.size⟩

theorem steps_claim (w : World) (x : Int) (_ : (Lit.int .i64 x).wf = true) (a : Option Addr) (len cap : Nat) (hs : IsRows w stepSc a len) :
    Calls Try.prog 4 #[.int .i64 x, .slice a len cap] w fun e w' => e = .returned (.bool true) ∧ Below w.heap.size w w' := by
  by_cases h : x < 0 ∨ 1099511627776 < x
  · exact steps_bad x a len cap w h
  · exact steps_c x a len cap w (by omega) (by omega) hs hs.max
end Go.Proofs.Ytodcbcbkllnfnaa
