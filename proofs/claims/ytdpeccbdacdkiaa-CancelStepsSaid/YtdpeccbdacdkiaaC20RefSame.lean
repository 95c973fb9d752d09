/- Same of the document's cancellations, and Acts, over the translation of this seat. Conditions: the blocks that are named hold what is said. -/
import Derived.Test.YtdpeccbdacdkiaaC20Ref2
namespace Go.Proofs.Ytdpeccbdacdkiaa
open Go.RowKit

theorem flat30 : flatAt Try.prog 3 30 = some [Sc.i .i64, Sc.i .i64] := by kernel_rfl
theorem agg30 : aggT Try.prog 30 = true := by kernel_rfl
theorem neq30 (a b x y : Int) (w : World) : (binOp .neq 30 (.agg #[.int .i64 a, .int .i64 x]) (.agg #[.int .i64 b, .int .i64 y])).run Try.prog w = .ok (.bool (!decide ((a, x) = (b, y)))) w := by
  rw [run_neq_flat w 3 flat30 (by decide) agg30 (xs := #[.int .i64 a, .int .i64 x]) (ys := #[.int .i64 b, .int .i64 y]) ⟨⟨a, rfl⟩, ⟨x, rfl⟩, trivial⟩ ⟨⟨b, rfl⟩, ⟨y, rfl⟩, trivial⟩]
  congr 3
  rw [Bool.eq_iff_iff]
  simp [eqs, eqv]
theorem eql30 (a b x y : Int) (w : World) : (binOp .eql 30 (.agg #[.int .i64 a, .int .i64 x]) (.agg #[.int .i64 b, .int .i64 y])).run Try.prog w = .ok (.bool (decide ((a, x) = (b, y)))) w := by
  rw [run_eql_flat w 3 flat30 (by decide) agg30 (xs := #[.int .i64 a, .int .i64 x]) (ys := #[.int .i64 b, .int .i64 y]) ⟨⟨a, rfl⟩, ⟨x, rfl⟩, trivial⟩ ⟨⟨b, rfl⟩, ⟨y, rfl⟩, trivial⟩]
  congr 2
  rw [Bool.eq_iff_iff]
  simp [eqs, eqv]
theorem RRef.drewN {w : World} {B r : Nat} {s : Cs} {v : Value} (h : RRef w B r s v) (n : Nat) : RRef (w.drewN n) B r s v := ⟨h.ref, own_below (w' := w.drewN n) h.own (below_drewN (Below.refl _ _) n), h.nil⟩
theorem take_snoc {L M : List (Int × Int)} {j : Nat} (h : L.take j = M.take j) (hL : j < L.length) (hM : j < M.length) (e : (at0 L j, at1 L j) = (at0 M j, at1 M j)) : L.take (j + 1) = M.take (j + 1) := by
  rw [List.take_add_one, List.take_add_one, h]
  congr 1
  unfold at0 at1 at e
  simp only [List.getD_eq_getElem?_getD, List.getElem?_eq_getElem hL, List.getElem?_eq_getElem hM, Option.getD_some] at e
  rw [List.getElem?_eq_getElem hL, List.getElem?_eq_getElem hM]
  have e' : L[j] = M[j] := by simpa [Prod.ext_iff] using e
  rw [e']
theorem racts_c (w : World) (B r : Nat) (s : Cs) (v : Value) (p : Bool) (h : RRef w B r s v) : Calls Try.prog 39 #[.pointer (some ⟨r, 0, none⟩), .bool p] w fun e w' => e = .returned (.bool (actsF s p)) ∧ w = w' := by
  have hr := h.ref
  clear h
  obtain ⟨ak, on, ay, un, L⟩ := s
  have c0 := has_cell 0 hr rfl
  have c1 := has_cell 1 hr rfl
  have c2 := has_cell 2 hr rfl
  have c3 := has_cell 3 hr rfl
  clear hr
  unfold actsF
  cases ak <;> cases on <;> cases ay <;> cases un <;> cases p <;> (dsimp only [Bool.not_true, Bool.not_false] at *; go_enter Try.func39, Try.ntmps39; go_wp2; go_ret; exact ⟨rfl, rfl⟩)

set_option maxRecDepth 100000 in
set_option maxHeartbeats 1000000 in
theorem rsame_c (w : World) (B r r' : Nat) (s t : Cs) (v v' : Value) (h : RRef w B r s v) (hl : s.L.length ≤ 8) (h' : RRef w B r' t v') (hl' : t.L.length ≤ 8) :
    Calls Try.prog 11 #[.pointer (some ⟨r, 0, none⟩), .pointer (some ⟨r', 0, none⟩)] w fun e w' => e = .returned (.bool (sameC s t)) ∧ Below w.heap.size w w' := by
  obtain ⟨a, cap, rfl, _⟩ := own_row h.own h.nil
  obtain ⟨a', cap', rfl, _⟩ := own_row h'.own h'.nil
  have hr := h.ref
  have hr' := h'.ref
  have H := Lib.hid h
  have H' := Lib.hid h'
  clear h h'
  obtain ⟨ak, on, ay, un, L⟩ := s
  obtain ⟨ak', on', ay', un', M⟩ := t
  dsimp only at *
  have c0 := has_cell 0 hr rfl
  have c1 := has_cell 1 hr rfl
  have c2 := has_cell 2 hr rfl
  have c3 := has_cell 3 hr rfl
  have c4 := has_cell 4 hr rfl
  have d0 := has_cell 0 hr' rfl
  have d1 := has_cell 1 hr' rfl
  have d2 := has_cell 2 hr' rfl
  have d3 := has_cell 3 hr' rfl
  have d4 := has_cell 4 hr' rfl
  clear hr hr'
  unfold sameC
  dsimp only
  by_cases k1 : ak = ak'
  case neg =>
    have k0 : (ak == ak') = false := by simpa using k1
    have k2 : (ak == ak') = false := by simpa using k1
    have k3 : (ak != ak') = true := by simpa using k1
    rw [k0]
    clear k1
    go_enter Try.func11, Try.ntmps11
    go_wp2_with fail
    go_quiet (fail)
    go_wp2_with fail
    go_ret
    exact ⟨by simp, below_drewN (Below.refl _ _) _⟩
  subst k1
  by_cases k1 : on = on'
  case neg =>
    have k0 : (on == on') = false := by simpa using k1
    have k2 : ((!on) == (!on')) = false := by simpa using k1
    have k3 : ((!on) != (!on')) = true := by simpa using k1
    rw [k0]
    clear k1
    go_enter Try.func11, Try.ntmps11
    go_wp2_with fail
    go_quiet (fail)
    go_wp2_with fail
    go_ret
    exact ⟨by simp, below_drewN (Below.refl _ _) _⟩
  subst k1
  by_cases k1 : ay = ay'
  case neg =>
    have k0 : (ay == ay') = false := by simpa using k1
    have k2 : (ay == ay') = false := by simpa using k1
    have k3 : (ay != ay') = true := by simpa using k1
    rw [k0]
    clear k1
    go_enter Try.func11, Try.ntmps11
    go_wp2_with fail
    go_quiet (fail)
    go_wp2_with fail
    go_ret
    exact ⟨by simp, below_drewN (Below.refl _ _) _⟩
  subst k1
  by_cases k1 : un = un'
  case neg =>
    have k0 : (un == un') = false := by simpa using k1
    have k2 : (un == un') = false := by simpa using k1
    have k3 : (un != un') = true := by simpa using k1
    rw [k0]
    clear k1
    go_enter Try.func11, Try.ntmps11
    go_wp2_with fail
    go_quiet (fail)
    go_wp2_with fail
    go_ret
    exact ⟨by simp, below_drewN (Below.refl _ _) _⟩
  subst k1
  by_cases hlm : L.length = M.length
  · have hM8 : M.length ≤ 1000 := by omega
    have hL8 : L.length ≤ 1000 := by omega
    rw [← hlm] at d4
    have HLM := Lib.hid hlm
    clear hlm
    go_enter Try.func11, Try.ntmps11
    go_wp2_with fail
    go_quiet (fail)
    go_wp2_with fail
    go_loopw [5] (fun i wx => ∃ j : Nat, i = .int .i64 j ∧ j ≤ L.length ∧ L.take j = M.take j ∧ RRef wx B r ⟨ak, on, ay, un, L⟩ (.slice a L.length cap) ∧ RRef wx B r' ⟨ak, on, ay, un, M⟩ (.slice a' M.length cap') ∧ Below w.heap.size w wx) (fun i _ => L.length - (intOf i).toNat)
    case atStart => exact ⟨0, rfl, by omega, rfl, H.out.drewN _, H'.out.drewN _, below_drewN (Below.refl _ _) _⟩
    case round =>
      obtain ⟨j, rfl, hj, ht, hA, hB, hb⟩ := hrel
      clear c0 c1 c2 c3 c4 d0 d1 d2 d3 d4 H H'
      have c4 := has_cell 4 hA.ref rfl
      have d4 := has_cell 4 hB.ref rfl
      rw [← HLM.out] at d4
      have HA := Lib.hid hA
      have HB := Lib.hid hB
      clear hA hB
      by_cases hlt : j < L.length
      · obtain ⟨b1, c1, e1, k1⟩ := own_row HA.out.own HA.out.nil
        injection e1 with e1 _ e2
        subst e1
        subst e2
        obtain ⟨g, rfl, _, _, _, kc⟩ := k1 (by show 0 < L.length; omega)
        obtain ⟨b2, c2, e3, k2⟩ := own_row HB.out.own HB.out.nil
        injection e3 with e3 _ e4
        subst e3
        subst e4
        obtain ⟨g', rfl, _, _, _, kd⟩ := k2 (by show 0 < M.length; have := HLM.out; omega)
        obtain ⟨x1, x2⟩ := kc j hlt
        obtain ⟨y1, y2⟩ := kd j (by show j < M.length; have := HLM.out; omega)
        dsimp only at x1 x2 y1 y2
        have hne := neq30 (at0 L j) (at0 M j) (at1 L j) (at1 M j)
        have HT := Lib.hid ht
        have HL := Lib.hid hlt
        have hji : (j : Int) < (L.length : Int) := by omega
        clear ht k1 k2 kc kd
        by_cases he : (at0 L j, at1 L j) = (at0 M j, at1 M j)
        · have HE := Lib.hid he
          rw [decide_eq_true he] at hne
          clear he
          go_wp2_with fail
          go_quiet (fail)
          go_wp2_with fail
          go_roundw
          case rel => exact ⟨j + 1, by go_num, by have := HL.out; omega, take_snoc HT.out HL.out (by have := HL.out; have := HLM.out; omega) HE.out, HA.out.drewN _, HB.out.drewN _, below_drewN hb _⟩
          case measure => have := HL.out; simp [intOf]; omega
        · have HE := Lib.hid he
          rw [decide_eq_false he] at hne
          clear he
          go_wp2_with fail
          go_quiet (fail)
          go_wp2_with fail
          try rw [Exit.noGoto_ret]
          go_ret
          have hd : decide (L = M) = false := decide_eq_false (by rintro rfl; exact HE.out rfl)
          rw [hd]
          exact ⟨by simp, below_drewN hb _⟩
      · obtain rfl : j = L.length := by omega
        go_wp2_with fail
        try rw [Exit.noGoto_ret]
        go_ret
        rw [List.take_length] at ht
        have e : L = M := ht.trans (by rw [HLM.out, List.take_length])
        rw [decide_eq_true e]
        exact ⟨by simp, hb⟩
  · have hb' : ((L.length : Int) == (M.length : Int)) = false := by rw [beq_eq_false_iff_ne]; omega
    have hb2 : ((L.length : Int) != (M.length : Int)) = true := by simpa using hb'
    have hd : decide (L = M) = false := by simp only [decide_eq_false_iff_not]; intro h; exact hlm (by rw [h])
    rw [hd]
    clear hd hlm
    go_enter Try.func11, Try.ntmps11
    go_wp2_with fail
    go_quiet (fail)
    go_wp2_with fail
    go_ret
    exact ⟨by simp, below_drewN (Below.refl _ _) _⟩
end Go.Proofs.Ytdpeccbdacdkiaa
