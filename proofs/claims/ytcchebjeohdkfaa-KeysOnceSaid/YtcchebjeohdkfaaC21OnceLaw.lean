/- The walk of KeysOnce: it returns true, and turns nothing that was there. Conditions: the script is a slice of asks. -/
import Derived.Test.YtcchebjeohdkfaaC21Known
import Derived.Test.YtcchebjeohdkfaaLift
namespace Go.Proofs.Ytcchebjeohdkfaa
open Go.RowKit

abbrev askSc : List Sc := [.i .i64, .i .i64, .b]
theorem ask_fit {cs : List Value} (h : FitW askSc cs) : ∃ (kd t : Int) (d : Bool), cs = [.int .i64 kd, .int .i64 t, .bool d] := by
  have hl : cs.length = 3 := h.len
  match cs, hl with
  | [x, y, z], _ =>
    obtain ⟨⟨a, ha, _⟩, ⟨b, hb, _⟩, ⟨c, hc⟩, _⟩ := h
    exact ⟨a, b, c, by rw [ha, hb, hc]⟩
theorem ask_cells {w : World} {a : Option Addr} {len : Nat} (h : IsRows w askSc a len) {j : Nat} (hj : j < len) :
    ∃ b off kd t d, a = some ⟨b, off, none⟩ ∧ ∀ W, Below w.heap.size w W → W.cell? ⟨b, off + j * 3, none⟩ = some (.int .i64 kd) ∧ W.cell? ⟨b, off + j * 3 + 1, none⟩ = some (.int .i64 t) ∧ W.cell? ⟨b, off + j * 3 + 2, none⟩ = some (.bool d) := by
  rcases h with h | ⟨b, off, rfl, _, hb, h⟩
  · omega
  · obtain ⟨cs, hf, hc⟩ := h j hj
    obtain ⟨kd, t, d, rfl⟩ := ask_fit hf
    have hbb : b < w.heap.size := hb (by omega)
    exact ⟨b, off, kd, t, d, rfl, fun W hW => ⟨(hW.cell (p := ⟨b, _, none⟩) hbb).trans (hc 0 (by decide)), (hW.cell (p := ⟨b, _, none⟩) hbb).trans (hc 1 (by decide)), (hW.cell (p := ⟨b, _, none⟩) hbb).trans (hc 2 (by decide))⟩⟩
/-- Both controls stand the same. -/
structure OcW (w W : World) (b r : Nat) (x : Oc) : Prop where
  prog : W.heap[b]? = some (ocO x)
  doc : W.heap[r]? = some (ocR x)
  below : Below w.heap.size w W
  lb : w.heap.size ≤ b
  lr : w.heap.size ≤ r
theorem OcW.ne {w W : World} {b r : Nat} {x : Oc} (h : OcW w W b r x) : b ≠ r := by
  rintro rfl
  have := h.prog.symm.trans h.doc
  injection this with e
  injection e with _ e _
  exact absurd e (by decide)
theorem OcW.reads {w W W' : World} {b r : Nat} {x : Oc} (h : OcW w W b r x) (u : Below W.heap.size W W') : OcW w W' b r x := ⟨below_has u h.prog, below_has u h.doc, below_reads h.below u h.below.size, h.lb, h.lr⟩
theorem OcW.both {w W W1 W2 : World} {b r : Nat} {x y : Oc} (h : OcW w W b r x) (u : Upd W b (ocO y) W1) (v : Upd W1 r (ocR y) W2) : OcW w W2 b r y :=
  ⟨v.other u.1 h.ne, v.1, (h.below.trans (u.below h.lb h.below.size)).trans (v.below h.lr (Nat.le_trans h.below.size u.size)), h.lb, h.lr⟩
theorem OcW.both' {w W W1 W2 : World} {b r : Nat} {x y : Oc} (h : OcW w W b r x) (v : Upd W r (ocR y) W1) (u : Upd W1 b (ocO y) W2) : OcW w W2 b r y :=
  ⟨u.1, u.other v.1 (Ne.symm h.ne), (h.below.trans (v.below h.lr h.below.size)).trans (u.below h.lb (Nat.le_trans h.below.size v.size)), h.lb, h.lr⟩
theorem ask_done {o : Oc} (h : (o.st == 2) = true) (t : Int) (he : askE o t = 0) : askS o t = 2 := by
  unfold askS
  rw [if_pos he]
  simpa using h

theorem upd_undrew {w w' : World} {b : Nat} {o : Obj} (u : Upd w.drew b o w') : Upd w b o w' := ⟨u.1, u.2.os, u.2.tape, u.2.output, u.2.size, u.2.block⟩

set_option maxRecDepth 100000 in
set_option maxHeartbeats 4000000 in
theorem once_walk (w : World) (a : Option Addr) (len cap : Nat) (hs : IsRows w askSc a len) :
    Calls Try.prog 4 #[.slice a len cap] w fun e w' => e = .returned (.bool true) ∧ Below w.heap.size w w' := by
  have hm := hs.max
  unfold maxLen at hm
  have HS := Lib.hid hs
  clear hs
  go_enter Try.func4, Try.ntmps4
  go_upto_region 2 with (go_at_call 15; refine (newo_c w).mono ?_; rintro e w1 ⟨rfl, hO, hB⟩)
  refine world_wp (fun W => OcW w W w.heap.size w1.heap.size ⟨0, 0⟩) ⟨below_alloc_has hO, heap_alloc_new _ _, hB.alloc hB.size _, Nat.le_refl _, hB.size⟩ ?_
  intro W hW
  obtain ⟨b, hb⟩ : ∃ b, w.heap.size = b := ⟨_, rfl⟩
  obtain ⟨r, hr⟩ : ∃ r, w1.heap.size = r := ⟨_, rfl⟩
  rw [hr] at hW ⊢
  have hW' : OcW w W b r ⟨0, 0⟩ := by rw [← hb]; exact hW
  rw [hb]
  clear hO hB hr hb hW
  go_wp2_with fail
  go_loopw [3, 5, 6] (fun p d i wr => ∃ (b : Nat) (x : Oc) (j : Nat) (q : Bool), p = .pointer (some ⟨b, 0, none⟩) ∧ d = .bool q ∧ q = (x.st == 2) ∧ i = .int .i64 j ∧ j ≤ len ∧ OcW w wr b r x) (fun _ _ i _ => len - (intOf i).toNat)
  case atStart => exact ⟨b, ⟨0, 0⟩, 0, false, rfl, rfl, rfl, rfl, Nat.zero_le _, hW'⟩
  case round =>
    clear hW'
    obtain ⟨b, x, j, q, rfl, rfl, hq0, rfl, hj, hW⟩ := hrel
    have HQ := Lib.hid hq0
    clear hq0
    by_cases hgo : j < len ∧ j < 200
    · obtain ⟨g1, g2⟩ := hgo
      obtain ⟨ba, off, kd, t, d, rfl, hq⟩ := ask_cells HS.out g1
      obtain ⟨e0, e1, e2⟩ := hq wr hW.below
      clear hq
      have HK := Lib.hid g1
      go_upto_region 9 with fail
      refine world_wp (fun W => OcW w W b r x ∧ W.heap[wr.heap.size]? = some (.cells #[.int .i64 kd, .int .i64 t, .bool d] 50 (0, 0)) ∧ b ≠ wr.heap.size ∧ r ≠ wr.heap.size) ⟨hW.reads ((Below.refl _ _).alloc (Nat.le_refl _) _), heap_alloc_new _ _, by have := has_lt hW.prog; omega, by have := has_lt hW.doc; omega⟩ ?_
      clear e0 e1 e2 hW
      rintro W1 ⟨hW1, hX, nb, nr⟩
      have x0 := has_cell 0 hX rfl
      have x1 := has_cell 1 hX rfl
      have x2 := has_cell 2 hX rfl
      go_upto_block 2 with fail
      go_cut [3] (fun s3 wx => ∃ (b' : Nat) (x' : Oc), s3 = .pointer (some ⟨b', 0, none⟩) ∧ OcW w wx b' r x')
      case first =>
        by_cases k1 : kd = 1
        · subst k1
          go_wp2_with fail
          refine (ask_c W1 b x t hW1.prog).mono ?_; rintro e w3 ⟨rfl, u⟩
          have y1 := has_cell 1 (u.other hX (Ne.symm nb)) rfl
          have hr3 := u.other hW1.doc (Ne.symm hW1.ne)
          go_wp2_with fail
          refine (rask_c w3 r x t hr3).mono ?_; rintro e w4 ⟨rfl, v⟩
          have hW4 := hW1.both u v
          clear u v hr3 y1 x0 x1 x2
          obtain ⟨z, hz⟩ : ∃ z, askE x t = z := ⟨_, rfl⟩
          obtain ⟨y, hy⟩ : ∃ y, askS x t = y := ⟨_, rfl⟩
          rw [hz, hy]
          have HZ := Lib.hid hz
          have HY := Lib.hid hy
          have H4 := Lib.hid hW4
          clear hz hy hW4
          cases q with
          | false =>
            go_wp2_with (go_at_call 9; refine (num_c _ _).mono ?_; rintro e w' ⟨rfl, rfl⟩)
            go_meet
            exact ⟨b, _, rfl, H4.out⟩
          | true =>
            by_cases hz0 : z = 0
            · subst hz0
              obtain rfl : y = 2 := by rw [← HY.out]; exact ask_done HQ.out.symm t HZ.out
              go_wp2_with (go_at_call 9; refine (num_c _ _).mono ?_; rintro e w' ⟨rfl, rfl⟩)
              go_meet
              exact ⟨b, _, rfl, H4.out⟩
            · have hne : (z == 0) = false := by simpa using hz0
              clear hz0
              go_wp2_with (go_at_call 9; refine (num_c _ _).mono ?_; rintro e w' ⟨rfl, rfl⟩)
              go_meet
              exact ⟨b, _, rfl, H4.out⟩
        · by_cases k2 : kd = 2
          · subst k2
            clear k1
            go_wp2_with fail
            go_region_held3 (fun W' => W'.cell? ⟨wr.heap.size, 1, none⟩ = some (.int .i64 t) ∧ W'.cell? ⟨wr.heap.size, 2, none⟩ = some (.bool d)) (first | exact ⟨x1, x2⟩ | exact ⟨by assumption, by assumption⟩)
              (first
                | (go_at_call 9; refine (num_c _ _).mono ?_; rintro e w' ⟨rfl, rfl⟩)
                | (go_at_call 18; refine (end_c _ b x t d (by exact hW1.prog)).mono ?_; rintro e w3 ⟨rfl, u⟩; have hX3 := (upd_undrew u).other hX (Ne.symm nb); have y1 := has_cell 1 hX3 rfl; have y2 := has_cell 2 hX3 rfl; have hr3 := (upd_undrew u).other hW1.doc (Ne.symm hW1.ne))
                | (go_at_call 19; refine (rend_c _ r x t d hr3).mono ?_; rintro e w4 ⟨rfl, v⟩; have hX4 := v.other hX3 (Ne.symm nr); have z1 := has_cell 1 hX4 rfl; have z2 := has_cell 2 hX4 rfl))
            have hW4 := hW1.both (upd_undrew u) v
            clear u v hX3 hX4 hr3 y1 y2 z1 z2 x0 x1 x2
            generalize endE x t = z
            go_wp2_with fail
            go_meet
            exact ⟨b, _, rfl, hW4⟩
          · by_cases k3 : kd = 3
            · subst k3
              clear k1 k2
              go_wp2_with fail
              refine (ocopy_c W1 b x hW1.prog).mono ?_; rintro e w3 ⟨c, rfl, hc, hC, hb⟩
              have hW3 := hW1.reads hb
              have hbl := has_lt hW1.prog
              have hrl := has_lt hW1.doc
              go_wp2_with fail
              refine (ask_c w3 b x 7 hW3.prog).mono ?_; rintro e w4 ⟨rfl, u⟩
              go_wp2_with fail
              refine (end_c w4 b _ 7 true u.1).mono ?_; rintro e w5 ⟨rfl, u2⟩
              have U := u.trans u2
              have hC5 := U.other hC (by omega)
              have hr5 := U.other hW3.doc (Ne.symm hW3.ne)
              have hB5 := hW3.below.trans (U.below hW3.lb hW3.below.size)
              have hlb := Nat.le_trans hW1.below.size hc
              have hlr := hW1.lr
              clear u u2 U hC hb hW3
              go_wp2_with fail
              go_meet
              exact ⟨c, x, rfl, hC5, hr5, hB5, hlb, hlr⟩
            · have b1 : (kd == 1) = false := by simpa using k1
              have b2 : (kd == 2) = false := by simpa using k2
              have b3 : (kd == 3) = false := by simpa using k3
              clear k1 k2 k3
              go_wp2_with fail
              go_meet
              exact ⟨b, x, rfl, hW1⟩
      case rest =>
        obtain ⟨b', x', rfl, hW5⟩ := hcut
        clear hW1 hX x0 x1 x2 nb nr HQ
        go_wp2_with fail
        refine (at_c _ b' x' hW5.prog).mono ?_; rintro e w6 ⟨rfl, hb⟩
        have hW6 := hW5.reads hb
        have r0 := has_cell 0 hW6.doc rfl
        have r1 := has_cell 1 hW6.doc rfl
        have H6 := Lib.hid hW6
        clear hW5 hW6 hb
        generalize hst : x'.st = y at r0 ⊢
        generalize x'.who = y2 at r1 ⊢
        have HST := Lib.hid hst
        clear hst
        go_wp2_with fail
        go_roundw
        case rel => exact ⟨b', x', j + 1, _, rfl, rfl, by rw [HST.out], by go_num, HK.out, H6.out⟩
        case measure => have := HK.out; simp [intOf]; omega
    · have hB := hW.below
      by_cases g1 : j < len
      · have g2 : ¬ j < 200 := fun h => hgo ⟨g1, h⟩
        clear hgo hW
        go_wp2_with fail
        refine (known_c _).mono ?_; rintro e w9 ⟨rfl, hb⟩
        have hB9 := below_reads hB hb hB.size
        go_wp2_with fail
        go_ret
        exact ⟨rfl, hB9⟩
      · clear hgo hW
        go_wp2_with fail
        refine (known_c _).mono ?_; rintro e w9 ⟨rfl, hb⟩
        have hB9 := below_reads hB hb hB.size
        go_wp2_with fail
        go_ret
        exact ⟨rfl, hB9⟩
end Go.Proofs.Ytcchebjeohdkfaa
