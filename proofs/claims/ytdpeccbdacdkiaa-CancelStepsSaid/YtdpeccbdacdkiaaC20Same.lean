/- The walk of CancelSame: it returns true, and turns nothing that was there. Conditions: the scripts are slices of steps. -/
import Derived.Test.YtdpeccbdacdkiaaC20Known
import Derived.Test.YtdpeccbdacdkiaaLift
namespace Go.Proofs.Ytdpeccbdacdkiaa
open Go.RowKit

abbrev stepSc : List Sc := [.i .i64, .b, .i .i64, .i .i64]
theorem step_fit {cs : List Value} (h : FitW stepSc cs) : ∃ (kd : Int) (on : Bool) (p q : Int), cs = [.int .i64 kd, .bool on, .int .i64 p, .int .i64 q] := by
  have hl : cs.length = 4 := h.len
  match cs, hl with
  | [x, y, z, u], _ =>
    obtain ⟨⟨a, ha, _⟩, ⟨b, hb⟩, ⟨c, hc, _⟩, ⟨d, hd, _⟩, _⟩ := h
    exact ⟨a, b, c, d, by rw [ha, hb, hc, hd]⟩
theorem rows_cells {w : World} {a : Option Addr} {len j : Nat} (hs : IsRows w stepSc a len) (hj : j < len) : ∃ (b off : Nat) (kd : Int) (on : Bool) (p q : Int), a = some ⟨b, off, none⟩ ∧
    ∀ W, Below w.heap.size w W → W.cell? ⟨b, off + j * 4, none⟩ = some (.int .i64 kd) ∧ W.cell? ⟨b, off + j * 4 + 1, none⟩ = some (.bool on) ∧ W.cell? ⟨b, off + j * 4 + 2, none⟩ = some (.int .i64 p) ∧ W.cell? ⟨b, off + j * 4 + 3, none⟩ = some (.int .i64 q) := by
  rcases hs with hs | ⟨b, off, rfl, _, hb, hs⟩
  · omega
  · obtain ⟨cs, hf, hc⟩ := hs j hj
    obtain ⟨kd, on, p, q, rfl⟩ := step_fit hf
    have hbb : b < w.heap.size := hb (by omega)
    exact ⟨b, off, kd, on, p, q, rfl, fun W hW => ⟨(hW.cell (p := ⟨b, _, none⟩) hbb).trans (hc 0 (by decide)), (hW.cell (p := ⟨b, _, none⟩) hbb).trans (hc 1 (by decide)), (hW.cell (p := ⟨b, _, none⟩) hbb).trans (hc 2 (by decide)), (hW.cell (p := ⟨b, _, none⟩) hbb).trans (hc 3 (by decide))⟩⟩
theorem own_upd2 {w w' : World} {base b c k : Nat} {e : TypeId} {v : Value} {m : Nat} {xs : List Value} (h : w.ownsRow base e k v m xs) (u : Upd2 w b c w') (h1 : v.ownBlock ≠ some b) (h2 : v.ownBlock ≠ some c) : w'.ownsRow base e k v m xs := by
  refine ⟨h.1, ?_⟩
  rcases h.2 with h | ⟨g, cap, cur, rfl, hb, hg, r⟩
  · exact .inl h
  · exact .inr ⟨g, cap, cur, rfl, hb, u.other hg (fun e => h1 (by rw [← e]; rfl)) (fun e => h2 (by rw [← e]; rfl)), r⟩
theorem CSt.other {w w' : World} {B B2 c r c2 r2 : Nat} {s s2 : Cs} {v v2 : Value} (h : CSt w B c r s v) (k : CSt w B2 c2 r2 s2 v2) (u : Upd2 w c2 r2 w') (n1 : c ≠ c2) (n2 : r ≠ r2) : CSt w' B c r s v :=
  ⟨u.other h.can n1 (type_ne h.can k.ref.ref (by decide)), ⟨u.other h.ref.ref (type_ne h.ref.ref k.can (by decide)) n2, own_upd2 h.ref.own u (own_far h.ref.own k.can (by decide)) (own_far h.ref.own k.ref.ref (by decide)), h.ref.nil⟩, h.top, h.lc, h.lr, Nat.le_trans h.hB u.size⟩
/-- Two sides that stand apart. -/
def Two (w : World) (B c r c2 r2 : Nat) : Prop := ∃ s v s2 v2, CSt w B c r s v ∧ CSt w B c2 r2 s2 v2 ∧ c ≠ c2 ∧ r ≠ r2
theorem Two.symm {w : World} {B c r c2 r2 : Nat} (h : Two w B c r c2 r2) : Two w B c2 r2 c r := by
  obtain ⟨s, v, s2, v2, h1, h2, n1, n2⟩ := h
  exact ⟨s2, v2, s, v, h2, h1, Ne.symm n1, Ne.symm n2⟩
theorem do_two (w : World) (B c r c2 r2 : Nat) (kd : Int) (x : Bool) (p q : Int) (h : Two w B c r c2 r2) :
    Calls Try.prog 9 #[.pointer (some ⟨c, 0, none⟩), .pointer (some ⟨r, 0, none⟩), stepV kd x p q] w fun e w' => ∃ c', e = .returned (.tuple #[.pointer (some ⟨c', 0, none⟩), .pointer (some ⟨r, 0, none⟩), .bool true]) ∧ Two w' B c' r c2 r2 ∧ Below B w w' := by
  obtain ⟨s, v, s2, v2, h1, h2, n1, n2⟩ := h
  refine (do_c w B c r s v kd x p q h1).mono ?_
  rintro e w' ⟨c', s', v', rfl, hs', u, hc'⟩
  have l2 := has_lt h2.can
  refine ⟨c', rfl, ⟨s', v', s2, v2, hs', h2.other h1 u (Ne.symm n1) (Ne.symm n2), ?_, n2⟩, u.below h1.lc h1.lr h1.hB⟩
  rcases hc' with rfl | hc'
  · exact n1
  · omega
theorem out2 {len j n : Nat} (h : ¬ (j < len ∧ j < n)) : len ≤ j ∨ (j < len ∧ n ≤ j) := by omega

set_option maxRecDepth 100000 in
set_option maxHeartbeats 2000000 in
theorem same_walk (w : World) (a : Option Addr) (len cap : Nat) (hs : IsRows w stepSc a len) (a' : Option Addr) (len' cap' : Nat) (hs' : IsRows w stepSc a' len') :
    Calls Try.prog 3 #[.slice a len cap, .slice a' len' cap'] w fun e w' => e = .returned (.bool true) ∧ Below w.heap.size w w' := by
  have hm := hs.max
  have hm' := hs'.max
  unfold maxLen at hm hm'
  have HS := Lib.hid hs
  have HS' := Lib.hid hs'
  clear hs hs'
  go_enter Try.func3, Try.ntmps3
  go_wp2_with fail
  refine (new_c _).mono ?_; rintro e w1 ⟨rfl, hC1, b1, z1⟩
  go_wp2_with fail
  refine (new_c _).mono ?_; rintro e w2 ⟨rfl, hC2, b2, z2⟩
  go_wp2_with fail
  refine (rnew_c _).mono ?_; rintro e w3 ⟨rfl, hR1, b3, z3⟩
  go_wp2_with fail
  refine (rnew_c _).mono ?_; rintro e w4 ⟨rfl, hR2, b4, z4⟩
  have hTw : Two w4 w.heap.size w.heap.size w2.heap.size w1.heap.size w3.heap.size :=
    ⟨newS, .slice none 0 0, newS, .slice none 0 0, ⟨below_has b4 (below_has b3 (below_has b2 hC1)), ⟨below_has b4 hR1, World.ownsRow_nil _ _ _ _, fun _ => rfl⟩, by decide, Nat.le_refl _, by omega, by omega⟩,
      ⟨below_has b4 (below_has b3 hC2), ⟨hR2, World.ownsRow_nil _ _ _ _, fun _ => rfl⟩, by decide, by omega, by omega, by omega⟩, by omega, by omega⟩
  have hB4 : Below w.heap.size w w4 := ((b1.trans (b2.mono (by omega))).trans (b3.mono (by omega))).trans (b4.mono (by omega))
  obtain ⟨rr, hrr⟩ : ∃ rr, w2.heap.size = rr := ⟨_, rfl⟩
  obtain ⟨rs, hrs⟩ : ∃ rs, w3.heap.size = rs := ⟨_, rfl⟩
  rw [hrr, hrs] at hTw
  rw [hrr, hrs]
  have hsz : w.heap.size ≤ w4.heap.size := hB4.size
  clear hC1 hC2 hR1 hR2 b1 b2 b3 b4 z1 z2 z3 z4 hrr hrs
  go_wp2_with fail
  go_loopw [5, 7, 9, 10] (fun x p ok i wr => ∃ (c j : Nat), x = .pointer (some ⟨c, 0, none⟩) ∧ p = .pointer (some ⟨rr, 0, none⟩) ∧ ok = .bool true ∧ i = .int .i64 j ∧ j ≤ len ∧ j ≤ 60 ∧ Two wr w.heap.size c rr w1.heap.size rs ∧ Below w.heap.size w wr) (fun _ _ _ i _ => len - (intOf i).toNat)
  case atStart => exact ⟨w.heap.size, 0, rfl, rfl, rfl, rfl, by omega, by omega, hTw, hB4⟩
  case round =>
    clear hTw hB4 hsz
    obtain ⟨c, j, rfl, rfl, rfl, rfl, hj, hj6, hT, hBr⟩ := hrel
    by_cases hgo : j < len ∧ j < 60
    · obtain ⟨g1, g2⟩ := hgo
      obtain ⟨b, off, kd, on, p, q, rfl, hq⟩ := rows_cells HS.out g1
      obtain ⟨e0, e1, e2, e3⟩ := hq wr hBr
      clear hq
      go_wp2_with fail
      refine (do_two wr _ c rr _ rs kd on p q hT).mono ?_; rintro e w5 ⟨c', rfl, hT5, hB⟩
      have hB5 := hBr.trans hB
      clear hT hB hBr e0 e1 e2 e3
      go_wp2_with fail
      go_roundw
      case rel => exact ⟨c', j + 1, rfl, rfl, rfl, by go_num, by omega, by omega, hT5, hB5⟩
      case measure => simp [intOf]; omega
    · rcases out2 hgo with g1 | ⟨g1, g2⟩
      all_goals
        clear hgo
        go_wp2_with fail
        go_loopw [6, 8, 9, 11] (fun x p ok i wr => ∃ (d j' : Nat), x = .pointer (some ⟨d, 0, none⟩) ∧ p = .pointer (some ⟨rs, 0, none⟩) ∧ ok = .bool true ∧ i = .int .i64 j' ∧ j' ≤ len' ∧ j' ≤ 60 ∧ Two wr w.heap.size d rs c rr ∧ Below w.heap.size w wr) (fun _ _ _ i _ => len' - (intOf i).toNat)
        case atStart => exact ⟨w1.heap.size, 0, rfl, rfl, rfl, rfl, by omega, by omega, hT.symm, hBr⟩
        case round =>
          clear hT hBr
          obtain ⟨d, j', rfl, rfl, rfl, rfl, hj', hj6', hT, hBr⟩ := hrel
          by_cases hgo : j' < len' ∧ j' < 60
          · obtain ⟨g4, g5⟩ := hgo
            obtain ⟨b, off, kd, on, p, q, rfl, hq⟩ := rows_cells HS'.out g4
            obtain ⟨e0, e1, e2, e3⟩ := hq _ hBr
            clear hq
            go_wp2_with fail
            refine (do_two _ _ d rs c rr kd on p q hT).mono ?_; rintro e w5 ⟨d', rfl, hT5, hB⟩
            have hB5 := hBr.trans hB
            clear hT hB hBr e0 e1 e2 e3
            go_wp2_with fail
            go_roundw
            case rel => exact ⟨d', j' + 1, rfl, rfl, rfl, by go_num, by omega, by omega, hT5, hB5⟩
            case measure => simp [intOf]; omega
          · rcases out2 hgo with g4 | ⟨g4, g5⟩
            all_goals
              clear hgo
              obtain ⟨s2, v2, s, v, hS2, hS, n1, n2⟩ := hT
              go_wp2_with fail
              refine (same_c _ _ _ s s2 (by exact hS.can) hS.top (by exact hS2.can) hS2.top).mono ?_; rintro e w6 ⟨rfl, hb⟩
              have hS6 := hS.reads hb
              have hS26 := hS2.reads hb
              have hB6 := below_reads hBr hb hBr.size
              clear hb hS hS2 hBr
              go_wp2_with fail
              refine (rsame_c _ _ _ _ s s2 v v2 (by exact hS6.ref) hS6.top (by exact hS26.ref) hS26.top).mono ?_; rintro e w7 ⟨rfl, hb⟩
              have hS7 := hS6.reads hb
              have hB7 := below_reads hB6 hb hB6.size
              clear hb hS6 hS26 hB6
              generalize sameC s s2 = qq
              go_wp2_with fail
              refine (same_c _ _ _ s s (by exact hS7.can) hS7.top (by exact hS7.can) hS7.top).mono ?_; rintro e w8 ⟨rfl, hb⟩
              rw [sameC_self]
              have hB8 := below_reads hB7 hb hB7.size
              clear hb hS7 hB7
              go_wp2_with fail
              refine (known_c _).mono ?_; rintro e w9 ⟨rfl, hb⟩
              have hB9 := below_reads hB8 hb hB8.size
              clear hb hB8
              go_wp2_with fail
              go_ret
              exact ⟨by simp, hB9⟩
end Go.Proofs.Ytdpeccbdacdkiaa
