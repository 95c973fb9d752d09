/- The document's All and Ring, over the translation of this seat. Conditions: the blocks that are named hold what is said. -/
import Derived.Test.YtkjcchepgpbiiaaC12Known
namespace Go.Proofs.Ytkjcchepgpbiiaa
open Go.RowKit

theorem rring_c (w : World) (b : Nat) (s : Gs) (t : Nat) (h : w.heap[b]? = some (rO s)) (ok : GOk s) (ht : t < s.n) : Calls Try.prog 28 #[.pointer (some ⟨b, 0, none⟩), .int .i64 t] w fun e w' => ∃ v : Value, e = .returned v ∧ OwnL w' w.heap.size v (ringV (ringF s.n s.wt t)) ∧ Below w.heap.size w w' := by
  have n2 := ok.n2
  obtain ⟨r, hr⟩ : ∃ r, r = ringF s.n s.wt t := ⟨_, rfl⟩
  have hr2 := hr.trans (ring_one_more ok.fine ht).symm
  rw [← hr]
  clear hr
  go_enter Try.func28, Try.ntmps28
  go_wp2_with fail
  have HT := Lib.hid ht
  clear ht
  go_loopw [5, 6] (fun v i wr => ∃ (acc : List Nat) (a : Nat), i = .int .i64 a ∧ a < s.n ∧ acc.length ≤ s.n + 1 ∧ OwnL wr w.heap.size v (nL acc) ∧ r = ringGo s.wt t (s.n + 1 - acc.length) a acc ∧ Below w.heap.size w wr) (fun v _ _ => s.n + 1 - lenV v)
  case atStart => exact ⟨[], t, rfl, HT.out, Nat.zero_le _, own_nil _ _, hr2, Below.refl _ _⟩
  case round =>
    have hRR := Lib.hid hr2
    clear hr2
    obtain ⟨acc, a, rfl, ha, hacc, hO, hR, hB⟩ := hrel
    have hG := below_has hB h
    have c0 := (r_cells hG).1
    obtain ⟨ad, cap, rfl, _⟩ := own_reads hO
    have hlen := nL_length acc
    rw [hlen] at hO ⊢
    by_cases hlt : acc.length ≤ s.n
    · obtain ⟨f, hf⟩ : ∃ f, s.n + 1 - acc.length = f + 1 := ⟨s.n - acc.length, by omega⟩
      rw [hf, ringGo_step] at hR
      have hO1 := own_below hO ((Below.refl wr.heap.size wr).alloc (Nat.le_refl _) (.cells #[.int .i64 a] 3))
      have hl16 : acc.length ≤ 16 := by omega
      have hlti : (acc.length : Int) ≤ s.n := by omega
      have HL := Lib.hid hlen
      have HF := Lib.hid hf
      have HLT := Lib.hid hlt
      have HA := Lib.hid ha
      clear hf hlen ha
      go_upto_region 5 with (refine app_int (base := w.heap.size) rfl (.tmp 15) (.tmp 17) rfl _ (nL acc) rfl hO1 wr.heap.size rfl (a : Int) (has_cell 0 (heap_alloc_new _ _) rfl) (by rw [HL.out]; omega) (by have := hB.size; simp; omega) ?_; intro v2 W2 hO2 hG2)
      have hB2 := hB.trans ((((Below.refl wr.heap.size wr).alloc (Nat.le_refl _) (.cells #[.int .i64 a] 3)).mono hB.size).trans (below_of_grown hO1 hG2 (Nat.le_refl _) (by have := hB.size; simp; omega)))
      rw [← nL_one] at hO2
      clear c0 hG hO hO1 hG2 hB
      have hGk := below_has hB2 h
      have ha16 : a < 16 := by have := HA.out; omega
      have cw := ((r_cells hGk).2 a ha16).2.2
      have hai : (a : Int) < 16 := by omega
      have hwb := ok.wt a ha16
      clear hGk
      by_cases hneg : s.wt a < 0
      · rw [show s.wt a = -1 by omega] at cw
        rw [nxt_none hneg] at hR
        replace hR : r = none := hR
        subst hR
        have hne : ((-1 : Int) == (t : Int)) = false := by rw [beq_eq_false_iff_ne]; omega
        clear hneg hwb
        go_wp2_with fail
        go_ret
        exact ⟨_, rfl, own_nil _ _, hB2⟩
      · obtain ⟨v, hv⟩ : ∃ v : Nat, s.wt a = v := ⟨(s.wt a).toNat, by omega⟩
        rw [nxt_some hv] at hR
        have hvn : v < s.n := by omega
        have hvi : (v : Int) < 16 := by omega
        rw [hv] at cw
        have HV := Lib.hid hvn
        clear hneg hwb hv hvn
        by_cases hvt : v = t
        · subst hvt
          replace hR : r = some (acc ++ [a]) := by simpa using hR
          subst hR
          go_wp2_with fail
          go_ret
          exact ⟨_, rfl, hO2, hB2⟩
        · have hR' : r = ringGo s.wt t f v (acc ++ [a]) := by simpa [hvt] using hR
          have hne : ((v : Int) == (t : Int)) = false := by rw [beq_eq_false_iff_ne]; omega
          have hv0 : ¬ (v : Int) < 0 := by omega
          have HR := Lib.hid hR'
          have HO := Lib.hid hO2
          clear hR hR' hvt hO2
          go_wp2_with fail
          go_roundw
          case rel => exact ⟨acc ++ [a], v, rfl, HV.out, by rw [List.length_append]; have := HLT.out; simp; omega, HO.out, by rw [HR.out]; congr 1; have := HF.out; simp; omega, hB2⟩
          case measure =>
            obtain ⟨ad', cap', rfl, _⟩ := own_reads HO.out
            have := HLT.out
            simp [lenV, nL_length]
            omega
    · have hgt : ¬ (acc.length : Int) ≤ s.n := by omega
      replace hR : r = none := by rw [hR, show s.n + 1 - acc.length = 0 by omega]; rfl
      subst hR
      clear hO
      go_wp2_with fail
      go_ret
      exact ⟨_, rfl, own_nil _ _, hB⟩

/-! All. -/
def rowO (l : Nat → Int) (n : Nat) : Obj := .cells (rowI l n).toArray 3 (0, 0)
theorem row_cells {w : World} {g n : Nat} {l : Nat → Int} (h : w.heap[g]? = some (rowO l n)) (i : Nat) (hi : i < n) : w.cell? ⟨g, i, none⟩ = some (.int .i64 (l i)) := has_cell i h (by simpa using rowI_get l hi)
theorem row_set (l : Nat → Int) (x : Int) {i n : Nat} (hi : i < n) : (rowI l n).toArray.setIfInBounds i (.int .i64 x) = (rowI (upd l i x) n).toArray := by
  rw [List.setIfInBounds_toArray, rowI_set l x hi, upd_at]
theorem made_ints (n : Nat) : (madeCells (Value.int .i64 0).cells n).toList = rowI (fun _ => 0) n := by
  rw [rowI_const]
  induction n with
  | zero => simp [madeCells]
  | succ n ih =>
    simp only [madeCells, Value.cells, Array.toList_map, Array.toList_range] at ih ⊢
    rw [List.range_succ, List.map_append, ih, List.replicate_succ']
    simp [Nat.mod_one]
theorem rowI_map (l : Nat → Int) : ∀ n, rowI l n = (outL l n).map (.int .i64)
  | 0 => rfl
  | n + 1 => by
    have := rowI_map l n
    unfold rowI outL at this ⊢
    rw [rowsF, this, List.range_succ, List.map_append, List.map_append]
    rfl
theorem own_of_row {w : World} {B g n : Nat} {l : Nat → Int} (h : w.heap[g]? = some (rowO l n)) (hB : B ≤ g) (hn : n ≤ 1000) : OwnL w B (.slice (some ⟨g, 0, none⟩) n n) (outL l n) := by
  have hl : (rowI l n).length = n := rowI_length l n
  refine ⟨by simp [outL_length], .inr ⟨g, n, (rowI l n).toArray, by rw [outL_length], hB, h, by rw [outL_length]; exact Nat.le_refl _, by unfold maxLen; omega, by simp [hl], ?_⟩⟩
  rw [outL_length, Nat.mul_one, ← rowI_map]
  exact List.take_of_length_le (by rw [hl]; exact Nat.le_refl _)
/-- The world within the document's All. -/
structure RAllW (w W : World) (b g : Nat) (s : Gs) (l : Nat → Int) : Prop where
  below : Below w.heap.size w W
  ref : W.heap[b]? = some (rO s)
  row : W.heap[g]? = some (rowO l s.n)
  lt : w.heap.size ≤ g
theorem RAllW.drewN {w W : World} {b g : Nat} {s : Gs} {l : Nat → Int} (h : RAllW w W b g s l) (m : Nat) : RAllW w (W.drewN m) b g s l := ⟨below_drewN h.below m, h.ref, h.row, h.lt⟩
theorem RAllW.set {w W : World} {b g : Nat} {s : Gs} {l : Nat → Int} (h : RAllW w W b g s l) (hb : b < w.heap.size) {i : Nat} (hi : i < s.n) (x : Int) : RAllW w (W.setCell ⟨g, i, none⟩ (.int .i64 x)) b g s (upd l i x) := by
  have u := ((Upd.refl h.row).setCell i (.int .i64 x)).to (o' := rowO (upd l i x) s.n) (by rw [row_set _ _ hi]; rfl)
  have := h.lt
  exact ⟨h.below.trans (u.below h.lt h.below.size), u.other h.ref (by omega), u.1, h.lt⟩
def boolN (v : Value) : Nat := match v with
  | .bool true => 1
  | _ => 0
theorem row_out {w : World} {g n : Nat} {l : Nat → Int} (h : w.heap[g]? = some (rowO l n)) : gap n (outOf w g) = gap n l := gap_same (fun t ht => by
  unfold outOf
  rw [row_cells h t ht])

set_option maxRecDepth 100000 in
set_option maxHeartbeats 2000000 in
theorem rall_c (w : World) (b : Nat) (s : Gs) (h : w.heap[b]? = some (rO s)) (ok : GOk s) : Calls Try.prog 27 #[.pointer (some ⟨b, 0, none⟩)] w fun e w' => ∃ (v : Value) (out : Nat → Int), e = .returned v ∧ OwnL w' w.heap.size v (outL out s.n) ∧ Least s.n s.own s.wt out ∧ Below w.heap.size w w' := by
  have hbw := has_lt h
  have n1 := ok.n1
  have n2 := ok.n2
  have hown31 : ∀ t, t < s.n → s.own t ≤ 31 := fun t ht => by
    have h1 := ok.ba t (by omega)
    have h2 := ok.ce t (by omega)
    unfold Gs.own
    omega
  have c0 := (r_cells h).1
  obtain ⟨i3, hi, hz0, hz1, hz2⟩ := info_parts info3
  go_enter Try.func27, Try.ntmps27
  go_upto_region 2 with (refine wpList_make_full _ rfl (.tmp 11) (.tmp 11) 33 rfl w.heap.size 3 i3 _ 1 Try.underlying33 hi hz0 hz1 .i64 .i64 s.n s.n s.n rfl rfl rfl rfl (by rw [hz2]; omega) (by unfold maxLen; omega) (Nat.le_refl _) ?_; intro W hO hG)
  have hrow : W.heap[w.heap.size]? = some (rowO (fun _ => 0) s.n) := by
    rcases hO.2 with ⟨e, _⟩ | ⟨g, cap, cur, e, _, hg, hn, _, hs, ht⟩
    · cases e
    · injection e with e1 e2 e3
      injection e1 with e1
      injection e1 with e1
      subst e1 e3
      rw [hg, rowO]
      congr 2
      rw [List.take_of_length_le (by simp [hs])] at ht
      rw [Nat.mul_one, made_ints] at ht
      exact Array.toList_inj.1 (by simpa using ht)
  have hb1 : Below w.heap.size w W := ⟨hG.os, hG.tape, hG.output, hG.size, fun k hk => hG.block k hk (by simp)⟩
  obtain ⟨g, hg⟩ : ∃ g, g = w.heap.size := ⟨_, rfl⟩
  rw [← hg] at hrow
  have hR : RAllW w W b g s (fun _ => 0) := ⟨hb1, below_has hb1 h, hrow, Nat.le_of_eq hg.symm⟩
  rw [← hg]
  have HG := Lib.hid hg
  clear hO hG hrow hb1 hg c0
  go_wp2_with fail
  go_loopw [4] (fun i wr => ∃ (t : Nat) (l : Nat → Int), i = .int .i64 t ∧ t ≤ s.n ∧ RAllW w wr b g s l ∧ ∀ k, k < t → l k = s.own k) (fun i _ => s.n - (intOf i).toNat)
  case atStart => exact ⟨0, _, rfl, Nat.zero_le _, hR, fun k hk => absurd hk (Nat.not_lt_zero _)⟩
  case round =>
    clear hR
    obtain ⟨t, l, rfl, ht, hR, hI⟩ := hrel
    have c0 := (r_cells hR.ref).1
    by_cases hlt : t < s.n
    · have ht16 : t < 16 := by omega
      obtain ⟨cb, cc, _⟩ := (r_cells hR.ref).2 t ht16
      have cl := row_cells hR.row t hlt
      have fz := has_free hR.row
      have hti : (t : Int) < 16 := by omega
      have htn : (t : Int) < s.n := by omega
      have hR2 := hR.set hbw hlt (s.own t)
      have HI := Lib.hid hI
      have HK := Lib.hid hlt
      have HR := Lib.hid hR
      have hnext : ∀ k, k < t + 1 → upd l t (s.own t) k = s.own k := fun k hk => by
        unfold upd
        by_cases e : k = t
        · rw [if_pos e, e]
        · rw [if_neg e]
          exact HI.out k (by omega)
      have HN := Lib.hid hnext
      clear hI hlt hR hnext
      by_cases hmx : s.ba t < s.ce t
      · have hm : s.own t = s.ce t := Int.max_eq_right (Int.le_of_lt hmx)
        rw [hm] at hR2 HN
        go_wp2_with fail
        refine still_tail 16 (by kernel_rfl) (by kernel_rfl) ?_
        simp only [List.take_succ_cons, List.take_zero, List.drop_succ_cons, List.drop_zero]
        repeat still_step
        refine wpStill_nil ?_
        go_upto_region 4 with fail
        refine world_wp (fun W => RAllW w W b g s (upd l t (s.ce t))) ((HR.out.drewN 1).set hbw HK.out _) ?_
        clear hR2 c0 cb cc cl fz
        intro W2 hR2
        go_wp2_with fail
        go_roundw
        case rel => exact ⟨t + 1, _, by go_num, HK.out, hR2, HN.out⟩
        case measure => have := HK.out; simp [intOf]; omega
      · have hm : s.own t = s.ba t := Int.max_eq_left (Int.not_lt.1 hmx)
        rw [hm] at hR2 HN
        go_wp2_with fail
        refine still_tail 16 (by kernel_rfl) (by kernel_rfl) ?_
        simp only [List.take_succ_cons, List.take_zero, List.drop_succ_cons, List.drop_zero]
        repeat still_step
        refine wpStill_nil ?_
        go_upto_region 4 with fail
        refine world_wp (fun W => RAllW w W b g s (upd l t (s.ba t))) ((HR.out.drewN 1).set hbw HK.out _) ?_
        clear hR2 c0 cb cc cl fz
        intro W2 hR2
        go_wp2_with fail
        go_roundw
        case rel => exact ⟨t + 1, _, by go_num, HK.out, hR2, HN.out⟩
        case measure => have := HK.out; simp [intOf]; omega
    · obtain rfl : t = s.n := by omega
      have hP : Pass s.n s.own s.wt l := ⟨low_same low_own (fun t ht => hI t ht), fun s hs => Int.le_of_eq (hI s hs).symm⟩
      clear hI c0 hlt ht
      have c0 := (r_cells hR.ref).1
      go_wp2_with fail
      clear c0
      go_loopw [5] (fun c wx => ∃ (y : Bool) (l : Nat → Int), c = .bool y ∧ RAllW w wx b g s l ∧ Pass s.n s.own s.wt l ∧ (y = false → Edges s.wt l s.n)) (fun c wx => 2 * gap s.n (outOf wx g) + boolN c)
      case atStart => exact ⟨true, l, rfl, hR, hP, fun h => by cases h⟩
      case round =>
        clear hR hP
        obtain ⟨y, l, rfl, hR, hP, hE⟩ := hrel
        have HE := Lib.hid hE
        clear hE
        cases y with
        | false =>
          have hL := pass_end hP (HE.out rfl)
          clear HE hP
          go_wp2_with fail
          go_ret
          exact ⟨_, l, rfl, own_of_row hR.row hR.lt (by omega), hL, hR.below⟩
        | true =>
          obtain ⟨G0, hG0⟩ : ∃ G0, G0 = gap s.n l := ⟨_, rfl⟩
          have HG0 := Lib.hid hG0
          have HR0 := Lib.hid hR
          clear HE hG0
          go_wp2_with fail
          go_loopw [5, 6] (fun c i wx => ∃ (z : Bool) (t : Nat) (l' : Nat → Int), c = .bool z ∧ i = .int .i64 t ∧ t ≤ s.n ∧ RAllW w wx b g s l' ∧ Pass s.n s.own s.wt l' ∧ (z = false → Edges s.wt l' t ∧ gap s.n l' = G0) ∧ (z = true → gap s.n l' < G0)) (fun _ i _ => s.n - (intOf i).toNat)
          case atStart => exact ⟨false, 0, l, rfl, rfl, Nat.zero_le _, hR, hP, fun _ => ⟨edges_zero _ _, HG0.out.symm⟩, fun h => by cases h⟩
          case round =>
            clear hR hP
            obtain ⟨z, t, l', rfl, rfl, ht, hR, hP, hF, hT⟩ := hrel
            have HF := Lib.hid hF
            have HTT := Lib.hid hT
            clear hF hT
            have c0 := (r_cells hR.ref).1
            by_cases hlt : t < s.n
            · have ht16 : t < 16 := by omega
              have cw := ((r_cells hR.ref).2 t ht16).2.2
              have cl := row_cells hR.row t hlt
              have hti : (t : Int) < 16 := by omega
              have htn : (t : Int) < s.n := by omega
              have hwb := ok.wt t ht16
              have HK := Lib.hid hlt
              have HP := Lib.hid hP
              have HR := Lib.hid hR
              have fz := has_free hR.row
              by_cases hneg : s.wt t < 0
              · have hd : decide (0 ≤ s.wt t) = false := by rw [decide_eq_false_iff_not]; omega
                have hnx : nxt s.wt t = none := nxt_none hneg
                have HNX := Lib.hid hnx
                clear hlt hwb hneg hP hR hnx fz
                go_wp2_with fail
                go_quiet (fail)
                go_wp2_with fail
                go_roundw
                case rel => exact ⟨z, t + 1, l', rfl, by go_num, HK.out, HR.out.drewN _, HP.out, fun h => ⟨edges_next (HF.out h).1 (fun v hv => by rw [HNX.out] at hv; cases hv), (HF.out h).2⟩, HTT.out⟩
                case measure => have := HK.out; simp [intOf]; omega
              · obtain ⟨v, hv⟩ : ∃ v : Nat, s.wt t = v := ⟨(s.wt t).toNat, by omega⟩
                have hnx := nxt_some hv
                rw [hv] at cw
                have hvn : v < s.n := by omega
                have hvi : (v : Int) < 16 := by omega
                have hvn' : (v : Int) < s.n := by omega
                have cv := row_cells hR.row v hvn
                have HNX := Lib.hid hnx
                have HV := Lib.hid hvn
                by_cases hup : l' v < l' t
                · have hd : decide (l' v < l' t) = true := decide_eq_true hup
                  have h31 := low_top hP.low hown31 t hlt
                  have hg := gap_raise hup h31 hvn
                  have hP2 := pass_raise hP hlt hnx hup
                  have HG2 := Lib.hid hg
                  have HP2 := Lib.hid hP2
                  clear hlt hwb hneg hP hR hnx hvn hup hv h31 hg hP2
                  go_wp2_with fail
                  go_quiet (fail)
                  go_upto_region 15 with fail
                  refine world_wp (fun W => RAllW w W b g s (upd l' v (l' t))) ((HR.out.drewN nq).set hbw HV.out _) ?_
                  clear cw cl cv fz c0
                  intro W3 hR3
                  go_wp2_with fail
                  go_roundw
                  case rel =>
                    refine ⟨true, t + 1, _, rfl, by go_num, HK.out, hR3, HP2.out, (fun h => by cases h), fun _ => ?_⟩
                    have := HG2.out
                    cases z with
                    | false => have := (HF.out rfl).2; omega
                    | true => have := HTT.out rfl; omega
                  case measure => have := HK.out; simp [intOf]; omega
                · have hd : decide (l' v < l' t) = false := decide_eq_false hup
                  have HUP := Lib.hid hup
                  clear hlt hwb hneg hP hR hnx hvn hup hv fz
                  go_wp2_with fail
                  go_quiet (fail)
                  go_wp2_with fail
                  go_roundw
                  case rel => exact ⟨z, t + 1, l', rfl, by go_num, HK.out, HR.out.drewN _, HP.out, fun h => ⟨edges_next (HF.out h).1 (fun u hu => by rw [HNX.out] at hu; cases hu; have := HUP.out; omega), (HF.out h).2⟩, HTT.out⟩
                  case measure => have := HK.out; simp [intOf]; omega
            · obtain rfl : t = s.n := by omega
              go_wp2_with fail
              go_roundw
              case rel => exact ⟨z, l', rfl, hR, hP, fun h => (HF.out h).1⟩
              case measure =>
                have e1 := row_out hR.row
                have e2 := row_out HR0.out.row
                rw [e1, e2, ← HG0.out]
                cases z with
                | false => have := (HF.out rfl).2; simp [boolN]; omega
                | true => have := HTT.out rfl; simp [boolN]; omega
end Go.Proofs.Ytkjcchepgpbiiaa
