/- The walk of KeysSteps: it returns true, and turns nothing that was there. Conditions: the script is a slice of steps. -/
import Derived.Test.YtcchebjeohdkfaaC21St
import Derived.Test.YtcchebjeohdkfaaLift
namespace Go.Proofs.Ytcchebjeohdkfaa
open Go.RowKit

abbrev stepSc : List Sc := [.i .i64, .i .i64, .i .i64, .i .i64, .i .i64]
theorem step_fit {cs : List Value} (h : FitW stepSc cs) : ∃ kd n y t v : Int, cs = [.int .i64 kd, .int .i64 n, .int .i64 y, .int .i64 t, .int .i64 v] := by
  have hl : cs.length = 5 := h.len
  match cs, hl with
  | [x1, x2, x3, x4, x5], _ =>
    obtain ⟨⟨a, ha, _⟩, ⟨b, hb, _⟩, ⟨c, hc, _⟩, ⟨d, hd, _⟩, ⟨e, he, _⟩, _⟩ := h
    exact ⟨a, b, c, d, e, by rw [ha, hb, hc, hd, he]⟩
theorem rows_cells {w : World} {a : Option Addr} {len : Nat} (h : IsRows w stepSc a len) {j : Nat} (hj : j < len) :
    ∃ b off kd n y t v, a = some ⟨b, off, none⟩ ∧ ∀ W, Below w.heap.size w W → W.cell? ⟨b, off + j * 5, none⟩ = some (.int .i64 kd) ∧ W.cell? ⟨b, off + j * 5 + 1, none⟩ = some (.int .i64 n) ∧ W.cell? ⟨b, off + j * 5 + 2, none⟩ = some (.int .i64 y) ∧ W.cell? ⟨b, off + j * 5 + 3, none⟩ = some (.int .i64 t) ∧ W.cell? ⟨b, off + j * 5 + 4, none⟩ = some (.int .i64 v) := by
  rcases h with h | ⟨b, off, rfl, _, hb, h⟩
  · omega
  · obtain ⟨cs, hf, hc⟩ := h j hj
    obtain ⟨kd, n, y, t, v, rfl⟩ := step_fit hf
    have hbb : b < w.heap.size := hb (by omega)
    exact ⟨b, off, kd, n, y, t, v, rfl, fun W hW => ⟨(hW.cell (p := ⟨b, _, none⟩) hbb).trans (hc 0 (by decide)), (hW.cell (p := ⟨b, _, none⟩) hbb).trans (hc 1 (by decide)), (hW.cell (p := ⟨b, _, none⟩) hbb).trans (hc 2 (by decide)), (hW.cell (p := ⟨b, _, none⟩) hbb).trans (hc 3 (by decide)), (hW.cell (p := ⟨b, _, none⟩) hbb).trans (hc 4 (by decide))⟩⟩
/-- The program's keys and the document's, made by the law itself. -/
structure RunK (w W : World) (b r g : Nat) (s : Ks) : Prop where
  p : KP W b r g s
  below : Below w.heap.size w W
  lo : w.heap.size ≤ b ∧ w.heap.size ≤ r ∧ w.heap.size ≤ g
theorem RunK.reads {w W W' : World} {b r g : Nat} {s : Ks} (h : RunK w W b r g s) (u : Below W.heap.size W W') : RunK w W' b r g s := ⟨h.p.reads u, below_reads h.below u h.below.size, h.lo⟩
theorem RunK.step {w W W' : World} {b b' r g : Nat} {s s' : Ks} (h : RunK w W b r g s) (k : KP W' b' r g s') (hb : b' = b ∨ W.heap.size ≤ b') (hB : ∀ B, B ≤ b → B ≤ r → B ≤ g → B ≤ W.heap.size → Below B W W') : RunK w W' b' r g s' :=
  ⟨k, h.below.trans (hB _ h.lo.1 h.lo.2.1 h.lo.2.2 h.below.size), ⟨by rcases hb with rfl | hb; exact h.lo.1; exact Nat.le_trans h.below.size hb, h.lo.2⟩⟩

set_option maxRecDepth 100000 in
theorem steps_bad (w : World) (x : Int) (a : Option Addr) (len cap : Nat) (h : x < 1 ∨ 8 < x) :
    Calls Try.prog 5 #[.int .i64 x, .slice a len cap] w fun e w' => e = .returned (.bool true) ∧ Below w.heap.size w w' := by
  have H := Lib.hid h
  clear h
  go_enter Try.func5, Try.ntmps5
  go_wp2_with (first
    | (go_at_call 8; refine (new_bad _ _ H.out).mono ?_; rintro e w' ⟨rfl, rfl⟩)
    | (go_at_call 22; refine (rnew_bad _ _ H.out).mono ?_; rintro e w' ⟨rfl, rfl⟩)
    | (go_at_call 9; refine (num_c _ _).mono ?_; rintro e w' ⟨rfl, rfl⟩)
    | (go_at_call 7; refine (known_c _).mono ?_; rintro e w1 ⟨rfl, hB⟩))
  go_ret
  exact ⟨by simp, hB⟩

set_option maxRecDepth 100000 in
set_option maxHeartbeats 2000000 in
theorem steps_c (w : World) (n : Nat) (a : Option Addr) (len cap : Nat) (h1 : 1 ≤ n) (h2 : n ≤ 8) (hs : IsRows w stepSc a len) :
    Calls Try.prog 5 #[.int .i64 n, .slice a len cap] w fun e w' => e = .returned (.bool true) ∧ Below w.heap.size w w' := by
  have hm := hs.max
  unfold maxLen at hm
  have HS := Lib.hid hs
  clear hs
  go_enter Try.func5, Try.ntmps5
  go_wp2_with fail
  refine (new_c _ n h1 h2).mono ?_; rintro e w1 ⟨rfl, hG, hB, hz⟩
  go_wp2_with fail
  refine (rnew_c _ n h1 h2).mono ?_; rintro e w2 ⟨r, rfl, hr, hR, hB2⟩
  have hW : RunK w w2 w.heap.size r w1.heap.size (newK n) := ⟨⟨below_has hB2 hG, hR, newK_ok h1 h2⟩, below_reads hB hB2 hB.size, ⟨Nat.le_refl _, by have := hB.size; omega, hB.size⟩⟩
  obtain ⟨b, hb⟩ : ∃ b, w.heap.size = b := ⟨_, rfl⟩
  obtain ⟨g, hg⟩ : ∃ g, w1.heap.size = g := ⟨_, rfl⟩
  rw [hb, hg] at hW
  rw [hb]
  clear hG hB hR hB2 hz hr hg
  have HBB := Lib.hid hb
  clear hb
  go_wp2_with (go_at_call 9; refine (num_c _ _).mono ?_; rintro e w' ⟨rfl, rfl⟩)
  go_loopw [5, 7, 8] (fun k rr i wr => ∃ (b' : Nat) (s : Ks) (j : Nat), k = .pointer (some ⟨b', 0, none⟩) ∧ rr = .pointer (some ⟨r, 0, none⟩) ∧ i = .int .i64 j ∧ j ≤ len ∧ RunK w wr b' r g s) (fun _ _ i _ => len - (intOf i).toNat)
  case atStart => exact ⟨_, _, 0, rfl, rfl, rfl, Nat.zero_le _, hW⟩
  case round =>
    clear hW
    obtain ⟨b', s, j, rfl, rfl, rfl, hj, hW⟩ := hrel
    by_cases hlt : j < len
    · by_cases h150 : j < 150
      · obtain ⟨ba, off, kd, nn, y, t, v, rfl, hq⟩ := rows_cells HS.out hlt
        obtain ⟨e0, e1, e2, e3, e4⟩ := hq wr hW.below
        clear hq
        have HK := Lib.hid hlt
        go_wp2_with fail
        refine (do_c wr b' r g s kd nn y t v hW.p).mono ?_; rintro e w5 ⟨b2, s2, rfl, k2, hb2, hB2⟩
        have hW5 := hW.step k2 hb2 hB2
        clear hW e0 e1 e2 e3 e4 k2 hb2 hB2
        go_wp2_with fail
        refine (stands_c w5 b2 r g s2 hW5.p).mono ?_; rintro e w6 ⟨rfl, hb6⟩
        have hW6 := hW5.reads hb6
        clear hW5 hb6
        go_wp2_with fail
        go_roundw
        case rel => exact ⟨b2, s2, j + 1, rfl, rfl, by go_num, HK.out, hW6⟩
        case measure => have := HK.out; simp [intOf]; omega
      · have h150' : ¬ (j : Int) < 150 := by omega
        go_wp2_with fail
        refine (known_c _).mono ?_; rintro e w7 ⟨rfl, hb⟩
        have hB := (hW.reads hb).below
        go_wp2_with fail
        go_ret
        exact ⟨rfl, hB⟩
    · go_wp2_with fail
      refine (known_c _).mono ?_; rintro e w7 ⟨rfl, hb⟩
      have hB := (hW.reads hb).below
      go_wp2_with fail
      go_ret
      exact ⟨rfl, hB⟩
theorem steps_claim (w : World) (x : Int) (_ : (Lit.int .i64 x).wf = true) (a : Option Addr) (len cap : Nat) (hs : IsRows w stepSc a len) :
    Calls Try.prog 5 #[.int .i64 x, .slice a len cap] w fun e w' => e = .returned (.bool true) ∧ Below w.heap.size w w' := by
  by_cases h : 1 ≤ x ∧ x ≤ 8
  · obtain ⟨n, rfl⟩ : ∃ n : Nat, x = n := ⟨x.toNat, by omega⟩
    exact steps_c w n a len cap (by omega) (by omega) hs
  · exact steps_bad w x a len cap (by omega)
end Go.Proofs.Ytcchebjeohdkfaa
