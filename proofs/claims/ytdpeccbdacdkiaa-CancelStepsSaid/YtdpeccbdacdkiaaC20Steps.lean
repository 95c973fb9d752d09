/- The walk of CancelSteps: it returns true, and turns nothing that was there. Conditions: the script is a slice of steps. -/
import Derived.Test.YtdpeccbdacdkiaaC20Stands
import Derived.Test.YtdpeccbdacdkiaaC20Same
namespace Go.Proofs.Ytdpeccbdacdkiaa
open Go.RowKit

set_option maxRecDepth 100000 in
set_option maxHeartbeats 2000000 in
theorem steps_walk (w : World) (a : Option Addr) (len cap : Nat) (hs : IsRows w stepSc a len) (leave : Int) :
    Calls Try.prog 5 #[.slice a len cap, .int .i64 leave] w fun e w' => e = .returned (.bool true) ∧ Below w.heap.size w w' := by
  have hm := hs.max
  unfold maxLen at hm
  have HS := Lib.hid hs
  clear hs
  go_enter Try.func5, Try.ntmps5
  go_wp2_with fail
  refine (new_c _).mono ?_; rintro e w1 ⟨rfl, hC1, b1, z1⟩
  go_wp2_with fail
  refine (rnew_c _).mono ?_; rintro e w2 ⟨rfl, hR1, b2, z2⟩
  have hB : Below w.heap.size w w2 := b1.trans (b2.mono (by omega))
  have hD : CSt w2 w.heap.size w.heap.size w1.heap.size newS (.slice none 0 0) :=
    ⟨below_has b2 hC1, ⟨hR1, World.ownsRow_nil _ _ _ _, fun _ => rfl⟩, by decide, Nat.le_refl _, by omega, by omega⟩
  obtain ⟨r, hr⟩ : ∃ r, w1.heap.size = r := ⟨_, rfl⟩
  rw [hr] at hD
  rw [hr]
  clear hC1 hR1 b1 b2 z1 z2 hr
  go_wp2_with fail
  go_loopw [5, 6, 7] (fun x p i wr => ∃ (c : Nat) (s : Cs) (v : Value) (j : Nat), x = .pointer (some ⟨c, 0, none⟩) ∧ p = .pointer (some ⟨r, 0, none⟩) ∧ i = .int .i64 j ∧ j ≤ len ∧ CSt wr w.heap.size c r s v ∧ Below w.heap.size w wr) (fun _ _ i _ => len - (intOf i).toNat)
  case atStart => exact ⟨w.heap.size, newS, _, 0, rfl, rfl, rfl, by omega, hD, hB⟩
  case round =>
    clear hD hB
    obtain ⟨c, s, v, j, rfl, rfl, rfl, hj, hD, hB⟩ := hrel
    by_cases hgo : j < len ∧ j < 200
    · obtain ⟨g1, g2⟩ := hgo
      obtain ⟨b, off, kd, on, p, q, rfl, hq⟩ := rows_cells HS.out g1
      obtain ⟨e0, e1, e2, e3⟩ := hq wr hB
      clear hq
      go_wp2_with fail
      refine (do_c wr _ c r s v kd on p q hD).mono ?_
      rintro e w5 ⟨c', s', v', rfl, hD5, u, _⟩
      have hB5 : Below w.heap.size w w5 := hB.trans (u.below hD.lc hD.lr hD.hB)
      clear hD hB u e0 e1 e2 e3
      go_wp2_with fail
      refine (stands_c _ _ _ _ _ _ leave hD5).mono ?_; rintro e w8 ⟨rfl, hb⟩
      have hD8 := hD5.reads hb
      have hB8 := below_reads hB5 hb hB5.size
      clear hD5 hB5 hb
      go_wp2_with fail
      go_roundw
      case rel => exact ⟨c', s', v', j + 1, rfl, rfl, by go_num, by omega, hD8, hB8⟩
      case measure => simp [intOf]; omega
    · rcases out2 hgo with g1 | ⟨g1, g2⟩
      all_goals
        clear hgo hD
        go_wp2_with fail
        refine (known_c _).mono ?_; rintro e w9 ⟨rfl, hb⟩
        have hB9 := below_reads hB hb hB.size
        go_wp2_with fail
        go_ret
        exact ⟨rfl, hB9⟩
theorem steps_claim (w : World) (a : Option Addr) (len cap : Nat) (hs : IsRows w stepSc a len) (leave : Int) (_ : (Lit.int .i64 leave).wf = true) :
    Calls Try.prog 5 #[.slice a len cap, .int .i64 leave] w fun e w' => e = .returned (.bool true) ∧ Below w.heap.size w w' := steps_walk w a len cap hs leave
end Go.Proofs.Ytdpeccbdacdkiaa
