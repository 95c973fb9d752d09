/- A script's steps, as the walks read them. Conditions: the script is a slice of steps. -/
import Derived.Test.YtabbioclcjnjjaaC04NeverParts
import Derived.Test.YtabbioclcjnjjaaLift
namespace Go.Proofs.Ytabbioclcjnjjaa
open Go.RowKit

abbrev stepSc : List Sc := [.i .i64, .i .i64, .b, .i .i64]
theorem step_fit {cs : List Value} (h : FitW stepSc cs) : ∃ (kd n : Int) (odd : Bool) (hh : Int), cs = [.int .i64 kd, .int .i64 n, .bool odd, .int .i64 hh] ∧ (-9223372036854775808 ≤ n ∧ n ≤ 9223372036854775807) := by
  have hl : cs.length = 4 := h.len
  match cs, hl with
  | [x, y, z, u], _ =>
    obtain ⟨⟨a, ha, _⟩, ⟨b, hb, wb⟩, ⟨c, hc⟩, ⟨d, hd, _⟩, _⟩ := h
    refine ⟨a, b, c, d, by rw [ha, hb, hc, hd], ?_⟩
    exact bounds_i64 wb
theorem rows_cells {w : World} {a : Option Addr} {len j : Nat} (hs : IsRows w stepSc a len) (hj : j < len) : ∃ (b off : Nat) (kd n : Int) (odd : Bool) (hh : Int), a = some ⟨b, off, none⟩ ∧ (-9223372036854775808 ≤ n ∧ n ≤ 9223372036854775807) ∧
    ∀ W, Below w.heap.size w W → W.cell? ⟨b, off + j * 4, none⟩ = some (.int .i64 kd) ∧ W.cell? ⟨b, off + j * 4 + 1, none⟩ = some (.int .i64 n) ∧ W.cell? ⟨b, off + j * 4 + 2, none⟩ = some (.bool odd) ∧ W.cell? ⟨b, off + j * 4 + 3, none⟩ = some (.int .i64 hh) := by
  rcases hs with hs | ⟨b, off, rfl, _, hb, hs⟩
  · omega
  · obtain ⟨cs, hf, hc⟩ := hs j hj
    obtain ⟨kd, n, odd, hh, rfl, hn⟩ := step_fit hf
    have hbb : b < w.heap.size := hb (by omega)
    exact ⟨b, off, kd, n, odd, hh, rfl, hn, fun W hW => ⟨(hW.cell (p := ⟨b, _, none⟩) hbb).trans (hc 0 (by decide)), (hW.cell (p := ⟨b, _, none⟩) hbb).trans (hc 1 (by decide)), (hW.cell (p := ⟨b, _, none⟩) hbb).trans (hc 2 (by decide)), (hW.cell (p := ⟨b, _, none⟩) hbb).trans (hc 3 (by decide))⟩⟩

end Go.Proofs.Ytabbioclcjnjjaa
