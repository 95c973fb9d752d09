/- The document's Next, over the translation of this seat. Conditions: the blocks that are named hold what is said. -/
import Derived.Test.YtcchebjeohdkfaaC21R2
import Derived.BigRegion
namespace Go.Proofs.Ytcchebjeohdkfaa
open Go.RowKit

/-- Within the document's Next: the thread's end stands so. -/
structure RNextW (w W : World) (b g : Nat) (s : Ks) (t : Nat) (e : En) : Prop where
  r : RK W b g { s with e := put s.e t e }
  u : Upd2 w b g W
  res : W.heap[w.heap.size]? = some (.cells #[.int .i64 0, .int .i64 0] 37 (0, 0))
theorem RNextW.drewN {w W : World} {b g : Nat} {s : Ks} {t : Nat} {e : En} (h : RNextW w W b g s t e) (m : Nat) : RNextW w (W.drewN m) b g s t e := ⟨h.r.drewN m, ⟨h.u.os, h.u.tape, h.u.output, h.u.size, h.u.block⟩, h.res⟩
theorem RNextW.end_ {w W : World} {b g : Nat} {s : Ks} {t : Nat} {e : En} (h : RNextW w W b g s t e) (ht : t < 16) : W.cell? ⟨b, 1 + t * 4, none⟩ = some (.int .i64 e.round) ∧ W.cell? ⟨b, 1 + t * 4 + 1, none⟩ = some (.int .i64 e.at_) ∧ W.cell? ⟨b, 1 + t * 4 + 2, none⟩ = some (.bool e.some_) ∧ W.cell? ⟨b, 1 + t * 4 + 3, none⟩ = some (.bool e.over) := by
  have := (rk_cells h.r).2.2 t ht
  simpa only [put_self] using this
theorem RNextW.set {w W : World} {b g : Nat} {s : Ks} {t : Nat} {e : En} (h : RNextW w W b g s t e) (hb : b < w.heap.size) (ht : t < 16) {j : Nat} (hj : j < 4) (v : Value) (e' : En) (he : endC e' = (endC e).set j v) : RNextW w (W.setCell ⟨b, 1 + t * 4 + j, none⟩ v) b g s t e' := by
  have u := (Upd.refl h.r.kb).setCell (1 + t * 4 + j) v
  rw [rs_sete _ g ht hj e' v (by simp only [put_self]; exact he)] at u
  have hr := h.r.end_ u
  simp only [put_put] at hr
  exact ⟨hr, h.u.left u, u.other h.res (by omega)⟩
theorem RNextW.m1 {w W : World} {b g : Nat} {s : Ks} {t : Nat} {e : En} (h : RNextW w W b g s t e) (ht : t < 16) : natAt W b (1 + t * 4) = e.round ∧ natAt W b (1 + t * 4 + 1) = e.at_ ∧ boolAt W b (1 + t * 4 + 3) = e.over := by
  obtain ⟨h0, h1, h2, h3⟩ := h.end_ ht
  unfold natAt boolAt
  rw [h0, h1, h3]
  exact ⟨by simp, by simp, rfl⟩
/-- The value is taken, something was handed. -/
theorem RNextW.take {w W : World} {b g : Nat} {s : Ks} {t i : Nat} {e : En} (h : RNextW w W b g s t e) (hb : b < w.heap.size) (hg : g < w.heap.size) (ht : t < 16) (hi : i < s.n) :
    RK ((W.setCell ⟨g, i * 18 + 2 + t, none⟩ (.int .i64 0)).setCell ⟨b, 1 + t * 4 + 2, none⟩ (.bool true)) b g { s with k := put s.k i { s.k i with v := put (s.k i).v t 0 }, e := put s.e t { e with some_ := true } } ∧
    Upd2 w b g ((W.setCell ⟨g, i * 18 + 2 + t, none⟩ (.int .i64 0)).setCell ⟨b, 1 + t * 4 + 2, none⟩ (.bool true)) ∧
    ∀ {k : Nat} {o : Obj}, w.heap.size ≤ k → W.heap[k]? = some o → ((W.setCell ⟨g, i * 18 + 2 + t, none⟩ (.int .i64 0)).setCell ⟨b, 1 + t * 4 + 2, none⟩ (.bool true)).heap[k]? = some o := by
  have u := (Upd.refl h.r.kg).setCell (i * 18 + 2 + t) (.int .i64 0)
  rw [rl_val { s with e := put s.e t e } hi ht] at u
  have hr := h.r.key u
  have u2 := (Upd.refl hr.kb).setCell (1 + t * 4 + 2) (.bool true)
  rw [rs_sete _ g ht (by decide) { e with some_ := true } _ (by simp only [put_self]; rfl)] at u2
  have hr2 := hr.end_ u2
  simp only [put_put] at hr2
  exact ⟨hr2, (h.u.right u).left u2, fun hk ho => u2.other (u.other ho (by omega)) (by omega)⟩

theorem rnext_bad (w : World) (b : Nat) (t : Int) (ht : thF t = false) :
    Calls Try.prog 43 #[.pointer (some ⟨b, 0, none⟩), .int .i64 t] w fun e w' => e = .returned (nextV (0, 0, false)) ∧ Below w.heap.size w w' := by
  by_cases h0 : t < 0
  · clear ht
    go_enter Try.func43, Try.ntmps43
    go_upto_region 1 with fail
    refine world_wp (fun W => Below w.heap.size w W ∧ W.heap[w.heap.size]? = some (.cells #[.int .i64 0, .int .i64 0] 37 (0, 0))) ⟨(Below.refl _ _).alloc (Nat.le_refl _) _, heap_alloc_new _ _⟩ ?_
    rintro W ⟨hB, hX⟩
    have x0 := has_cell 0 hX rfl
    have x1 := has_cell 1 hX rfl
    have fx := has_free hX
    have X := ((Upd.refl hX).setCell 0 (.int .i64 0)).setCell 1 (.int .i64 0)
    have q0 := has_cell 0 X.1 rfl
    have q1 := has_cell 1 X.1 rfl
    have hb := hB.trans (X.below (Nat.le_refl _) hB.size)
    clear X hX hB
    go_wp2_with fail
    refine bodyPost_ret (v := nextV (0, 0, false)) ?_ rfl ⟨rfl, hb⟩
    simp [results, Try.f43, go_sem, q0, q1, nextV]
  · have h1 : 16 ≤ t := by
      simp [thF] at ht
      omega
    clear ht
    go_enter Try.func43, Try.ntmps43
    go_upto_region 1 with fail
    refine world_wp (fun W => Below w.heap.size w W ∧ W.heap[w.heap.size]? = some (.cells #[.int .i64 0, .int .i64 0] 37 (0, 0))) ⟨(Below.refl _ _).alloc (Nat.le_refl _) _, heap_alloc_new _ _⟩ ?_
    rintro W ⟨hB, hX⟩
    have x0 := has_cell 0 hX rfl
    have x1 := has_cell 1 hX rfl
    have fx := has_free hX
    have X := ((Upd.refl hX).setCell 0 (.int .i64 0)).setCell 1 (.int .i64 0)
    have q0 := has_cell 0 X.1 rfl
    have q1 := has_cell 1 X.1 rfl
    have hb := hB.trans (X.below (Nat.le_refl _) hB.size)
    clear X hX hB
    go_wp2_with fail
    refine bodyPost_ret (v := nextV (0, 0, false)) ?_ rfl ⟨rfl, hb⟩
    simp [results, Try.f43, go_sem, q0, q1, nextV]

set_option maxRecDepth 100000 in
set_option maxHeartbeats 4000000 in
theorem rnext_c (w : World) (b g : Nat) (s : Ks) (t : Nat) (h : RK w b g s) (ok : KOk s) (ht : t < 16) :
    Calls Try.prog 43 #[.pointer (some ⟨b, 0, none⟩), .int .i64 t] w fun e w' => e = .returned (nextV (nextD s t)) ∧ RK w' b g (nextS s t) ∧ Upd2 w b g w' := by
  have n2 := ok.n2
  have hti : (t : Int) < 16 := by omega
  have hbl := has_lt h.kb
  have hgl := has_lt h.kg
  have hok := ok.e t
  obtain ⟨D, hD⟩ : ∃ D, D = nextD s t := ⟨_, rfl⟩
  obtain ⟨S, hS⟩ : ∃ S, S = nextS s t := ⟨_, rfl⟩
  obtain ⟨K, hK⟩ : ∃ K, K = nextK s t := ⟨_, rfl⟩
  rw [← hD, ← hS]
  have HD := Lib.hid hD
  have HS := Lib.hid hS
  have HKK := Lib.hid hK
  clear hD hS hK
  go_enter Try.func43, Try.ntmps43
  go_upto_region 1 with fail
  refine world_wp (fun W => Below w.heap.size w W ∧ W.heap[w.heap.size]? = some (.cells #[.int .i64 0, .int .i64 0] 37 (0, 0))) ⟨(Below.refl _ _).alloc (Nat.le_refl _) _, heap_alloc_new _ _⟩ ?_
  rintro W ⟨hB, hX⟩
  have hk0 := h.reads hB
  obtain ⟨r, a, sm, ov, he⟩ : ∃ r a sm ov, s.e t = ⟨r, a, sm, ov⟩ := ⟨_, _, _, _, rfl⟩
  have hW0 : RNextW w W b g s t ⟨r, a, sm, ov⟩ := ⟨by rw [← he, put_same]; exact hk0, (Upd2.refl _ _ _).reads hB, hX⟩
  rw [he] at hok
  have HE := Lib.hid he
  go_upto_region 4 with fail
  obtain ⟨R, hR⟩ : ∃ R, R = max r 1 := ⟨_, rfl⟩
  have hKe : K = nextF s.n (liveF s t) ⟨R, a, sm, ov⟩ := by rw [HKK.out, nextK, HE.out, hR]
  have HKE := Lib.hid hKe
  obtain ⟨d0, d1, d2, d3⟩ := hW0.end_ ht
  have fz := has_free hW0.r.kb
  have hW1 := hW0.set hbl ht (j := 0) (by decide) (.int .i64 (R : Nat)) ⟨R, a, sm, ov⟩ rfl
  rw [Nat.add_zero] at hW1
  have H1 := Lib.hid hW1
  have H0 := Lib.hid hW0
  have HR := Lib.hid hR
  clear hKe he hk0 hX hB hW1 hW0 hR
  have hr4 := hok.1
  have ha8 := hok.2
  dsimp only at hr4 ha8
  obtain ⟨z, hz⟩ : ∃ z, ((r : Int) == 0) = z := ⟨_, rfl⟩
  go_upto_if 29 with fail
  go_cut [] (fun wx => RNextW w wx b g s t ⟨R, a, sm, ov⟩)
  case first =>
    cases z with
    | true =>
      have hr0 : r = 0 := by simpa using hz
      subst hr0
      obtain rfl : R = 1 := by have := HR.out; omega
      have h1 := H1.out
      go_wp2_with fail
      go_meet
      exact h1
    | false =>
      have hr0 : r ≠ 0 := by
        rintro rfl
        cases hz
      obtain rfl : R = r := by have := HR.out; omega
      have h1 := H0.out
      clear hr0
      go_wp2_with fail
      go_meet
      exact h1
  case rest =>
    have hW1 : RNextW w wc b g s t ⟨R, a, sm, ov⟩ := hcut
    clear hcut d0 d1 d2 d3 fz H1 H0 hz
    have hR4 : R ≤ 4 := by have := HR.out; omega
    have hKR := HKE.out
    clear hr4 hok
    go_wp2_with fail
    go_loopw [7, 8] (fun _ _ wr => ∃ e1 : En, RNextW w wr b g s t e1 ∧ K = nextF s.n (liveF s t) e1 ∧ e1.round ≤ 4 ∧ e1.at_ ≤ 8) (fun _ _ wr => if boolAt wr b (1 + t * 4 + 3) = true then 0 else 5 - natAt wr b (1 + t * 4))
    case atStart => exact ⟨_, hW1, hKR, hR4, ha8⟩
    case round =>
      clear hW1 hKR hR4 ha8 HE HKE HR
      obtain ⟨⟨r1, a1, s1, o1⟩, hW1, hK1, hr1, ha1⟩ := hrel
      obtain ⟨d0, d1, d2, d3⟩ := hW1.end_ ht
      have fz := has_free hW1.r.kb
      have c0 := (rk_cells hW1.r).1
      dsimp only at c0
      cases o1 with
      | true =>
        rw [next_over] at hK1
        have hKn := hK1
        have HWN := hW1
        clear d0 d1 d2 fz c0 hW1 hK1
        obtain ⟨hs, hd⟩ := next_none (s := s) (t := t) (HKK.out.symm.trans hKn)
        rw [← HS.out] at hs
        rw [← HD.out] at hd
        subst hs hd
        have x0 := has_cell 0 HWN.res rfl
        have x1 := has_cell 1 HWN.res rfl
        have fx := has_free HWN.res
        have X := ((Upd.refl HWN.res).setCell 0 (.int .i64 0)).setCell 1 (.int .i64 0)
        have q0 := has_cell 0 X.1 rfl
        have q1 := has_cell 1 X.1 rfl
        have uw : RK _ b g _ ∧ Upd2 w b g _ := ⟨⟨X.other HWN.r.kb (by omega), X.other HWN.r.kg (by omega)⟩, HWN.u.newer X (Nat.le_refl _)⟩
        have UW := Lib.hid uw
        clear X HWN hKn HS HD HKK uw
        go_wp2_with fail
        try simp only [Exit.noGoto]
        refine bodyPost_ret (v := nextV (0, 0, false)) ?_ rfl ⟨rfl, UW.out⟩
        simp [results, Try.f43, go_sem, q0, q1, nextV]
      | false =>
        have HK1 := Lib.hid hK1
        have HW1 := Lib.hid hW1
        clear hK1
        go_wp2_with fail
        go_loopw [7, 8] (fun _ _ wx => ∃ a2 : Nat, RNextW w wx b g s t ⟨r1, a2, s1, false⟩ ∧ K = nextF s.n (liveF s t) ⟨r1, a2, s1, false⟩ ∧ a2 ≤ 8) (fun _ _ wx => 8 - natAt wx b (1 + t * 4 + 1))
        case atStart => exact ⟨a1, hW1, HK1.out, ha1⟩
        case round =>
          clear hW1 d0 d1 d2 d3 fz c0 HK1
          obtain ⟨a2, hW2, hK2, ha2⟩ := hrel
          obtain ⟨d0, d1, d2, d3⟩ := hW2.end_ ht
          have fz := has_free hW2.r.kb
          have c0 := (rk_cells hW2.r).1
          dsimp only at c0
          have HW2 := Lib.hid hW2
          by_cases hlt : a2 < s.n
          · have ha8 : a2 < 8 := by omega
            have hltn : (a2 : Int) < s.n := by omega
            have HK := Lib.hid (show a2 + 1 ≤ 8 from ha8)
            have HLT := Lib.hid hlt
            go_wp2_with fail
            go_quiet (fail)
            go_upto_region 9 with fail
            refine world_wp (fun W => RNextW w W b g s t ⟨r1, a2, s1, false⟩) (by first | exact hW2.drewN _ | exact (hW2.drewN _).drewN _) ?_
            clear d0 d1 d2 d3 fz c0 hW2
            intro W3 hW3
            obtain ⟨d0, d1, d2, d3⟩ := hW3.end_ ht
            have fz := has_free hW3.r.kb
            have hW4 := hW3.set hbl ht (j := 1) (by decide) (.int .i64 ((a2 : Int) + 1)) ⟨r1, a2 + 1, s1, false⟩ (by simp [endC])
            go_upto_region 10 with fail
            refine world_wp (fun W => RNextW w W b g s t ⟨r1, a2 + 1, s1, false⟩) hW4 ?_
            clear d0 d1 d2 d3 fz hW3 hW4
            intro W4 hW4
            have c0 := (rk_cells hW4.r).1
            dsimp only at c0
            obtain ⟨k0, k1, k2⟩ := (rk_cells hW4.r).2.1 a2 hlt
            have k3 := k2 t ht
            have HW4 := Lib.hid hW4
            dsimp only at k0 k1 k3
            clear k2
            cases hm : (s.k a2).is with
            | false =>
              rw [hm] at k0
              rw [next_skip hlt (by simp [liveF, hm])] at hK2
              have hK3 := Lib.hid hK2
              clear hK2 hlt hm hW4
              go_wp2_with fail
              go_roundw
              case rel => exact ⟨a2 + 1, HW4.out, hK3.out, HK.out⟩
              case measure =>
                have e1 := (HW2.out.m1 ht).2.1
                have e2 := (HW4.out.m1 ht).2.1
                dsimp only at e1 e2
                rw [e1, e2]
                have := HK.out
                omega
            | true =>
              rw [hm] at k0
              by_cases hd : 0 ≤ (s.k a2).d
              · by_cases hv : (s.k a2).v t = 0
                · rw [hv] at k3
                  rw [next_skip hlt (by simp [liveF, hm, hv])] at hK2
                  have hK3 := Lib.hid hK2
                  clear hK2 hlt hm hv hW4
                  go_wp2_with fail
                  go_roundw
                  case rel => exact ⟨a2 + 1, HW4.out, hK3.out, HK.out⟩
                  case measure =>
                    have e1 := (HW2.out.m1 ht).2.1
                    have e2 := (HW4.out.m1 ht).2.1
                    dsimp only at e1 e2
                    rw [e1, e2]
                    have := HK.out
                    omega
                · have hne : ((s.k a2).v t != 0) = true := by simpa using hv
                  have hlv : liveF s t a2 = true := by simp [liveF, hm, hd, hv]
                  rw [next_here hlt hlv] at hK2
                  obtain ⟨hs, hdd⟩ := next_one (s := s) (t := t) (HKK.out.symm.trans hK2)
                  rw [← HS.out] at hs
                  rw [← HD.out] at hdd
                  subst hs hdd
                  clear hlv hK2 hm hv HW2 HS HD HKK
                  obtain ⟨d, hdv⟩ : ∃ d, d = (s.k a2).d := ⟨_, rfl⟩
                  obtain ⟨v, hvv⟩ : ∃ v, v = (s.k a2).v t := ⟨_, rfl⟩
                  go_upto_region 11 with fail
                  rw [← hdv] at k1 hd
                  rw [← hvv] at k3 hne
                  rw [← hdv, ← hvv]
                  have hba := (Below.refl W4.heap.size W4).alloc (Nat.le_refl _) (.cells #[.int .i64 0, .int .i64 0] 37)
                  have hbW := has_lt hW4.r.kb
                  have hgW := has_lt hW4.r.kg
                  have c0' := (hba.cell (p := ⟨b, 0, none⟩) hbW).trans c0
                  have k1' := (hba.cell (p := ⟨g, a2 * 18 + 1, none⟩) hgW).trans k1
                  have k3' := (hba.cell (p := ⟨g, a2 * 18 + 2 + t, none⟩) hgW).trans k3
                  have HDV := Lib.hid hdv
                  have HVV := Lib.hid hvv
                  clear hlt hW4 hd hne hdv hvv hba
                  go_region
                  go_upto_region 12 with fail
                  obtain ⟨xb, hxb⟩ : ∃ xb, W4.heap.size = xb := ⟨_, rfl⟩
                  have hxw : w.heap.size < xb := by rw [← hxb]; exact has_lt HW4.out.res
                  have hX5 : (W4.alloc (.cells #[.int .i64 d, .int .i64 v] 37)).drew.heap[xb]? = some (.cells #[.int .i64 d, .int .i64 v] 37 (0, 0)) := by rw [← hxb]; exact heap_alloc_new _ _
                  have hW5 : RNextW w (W4.alloc (.cells #[.int .i64 d, .int .i64 v] 37)).drew b g s t ⟨r1, a2 + 1, s1, false⟩ :=
                    ⟨(HW4.out.r.reads ((Below.refl _ _).alloc (Nat.le_refl _) _)).drewN 1, (HW4.out.u.reads ((Below.refl _ _).alloc (Nat.le_refl _) _)).drew, below_alloc_has HW4.out.res⟩
                  rw [hxb]
                  refine world_wp (fun W => RNextW w W b g s t ⟨r1, a2 + 1, s1, false⟩ ∧ W.heap[xb]? = some (.cells #[.int .i64 d, .int .i64 v] 37 (0, 0))) ⟨hW5, hX5⟩ ?_
                  clear c0 k0 k1 k3 hbW hgW c0' k1' k3' hX5 hW5 hxb
                  rintro W5 ⟨hW5, hX5⟩
                  have c0 := (rk_cells hW5.r).1
                  have k3 := ((rk_cells hW5.r).2.1 a2 HLT.out).2.2 t ht
                  dsimp only at c0 k3
                  obtain ⟨d0, d1, d2, d3⟩ := hW5.end_ ht
                  have fz := has_free hW5.r.kb
                  have fg := has_free hW5.r.kg
                  have hbg := hW5.r.ne
                  have hT := hW5.take hbl hgl ht HLT.out
                  have HT := Lib.hid hT
                  have HX5 := Lib.hid hX5
                  have HRES := Lib.hid hW5.res
                  clear hT hW5 hX5
                  go_upto_region 14 with fail
                  obtain ⟨hT1, hT2, hT3⟩ := HT.out
                  refine world_wp (fun W => RK W b g { s with k := put s.k a2 { s.k a2 with v := put (s.k a2).v t 0 }, e := put s.e t ⟨r1, a2 + 1, true, false⟩ } ∧ Upd2 w b g W ∧ W.heap[xb]? = some (.cells #[.int .i64 d, .int .i64 v] 37 (0, 0)) ∧ W.heap[w.heap.size]? = some (.cells #[.int .i64 0, .int .i64 0] 37 (0, 0))) ⟨hT1, hT2, hT3 (Nat.le_of_lt hxw) HX5.out, hT3 (Nat.le_refl _) HRES.out⟩ ?_
                  clear hT1 hT2 hT3 HT c0 k3 d0 d1 d2 d3 fz fg hbg
                  rintro W6 ⟨hR6, hU6, hX6, hS6⟩
                  have y0 := has_cell 0 hX6 rfl
                  have y1 := has_cell 1 hX6 rfl
                  have x0 := has_cell 0 hS6 rfl
                  have x1 := has_cell 1 hS6 rfl
                  have fx := has_free hS6
                  have X := ((Upd.refl hS6).setCell 0 (.int .i64 d)).setCell 1 (.int .i64 v)
                  have q0 := has_cell 0 X.1 rfl
                  have q1 := has_cell 1 X.1 rfl
                  have uw : RK _ b g _ ∧ Upd2 w b g _ := ⟨⟨X.other hR6.kb (by omega), X.other hR6.kg (by omega)⟩, hU6.newer X (Nat.le_refl _)⟩
                  have UW := Lib.hid uw
                  clear X uw hR6 hU6 hX6 hS6
                  go_wp2_with fail
                  try simp only [Exit.noGoto]
                  refine bodyPost_ret (v := nextV (d, v, true)) ?_ rfl ⟨by rw [HDV.out, HVV.out], UW.out⟩
                  simp [results, Try.f43, go_sem, q0, q1, nextV]
              · have hde : decide (0 ≤ (s.k a2).d) = false := decide_eq_false hd
                rw [next_skip hlt (by simp [liveF, hm, hd])] at hK2
                have hK3 := Lib.hid hK2
                clear hK2 hlt hm hd hW4
                go_wp2_with fail
                go_roundw
                case rel => exact ⟨a2 + 1, HW4.out, hK3.out, HK.out⟩
                case measure =>
                  have e1 := (HW2.out.m1 ht).2.1
                  have e2 := (HW4.out.m1 ht).2.1
                  dsimp only at e1 e2
                  rw [e1, e2]
                  have := HK.out
                  omega
          · have hge : s.n ≤ a2 := by omega
            have hlf : ¬ (a2 : Int) < s.n := by omega
            by_cases hen : s1 = false ∨ r1 = 4
            · rw [next_end hge hen] at hK2
              have hW5 := hW2.set hbl ht (j := 3) (by decide) (.bool true) ⟨r1, a2, s1, true⟩ rfl
              have H5 := Lib.hid hW5
              have HKN := Lib.hid hK2
              have HEN := Lib.hid hen
              have HN := Lib.hid (hW2.drewN 1)
              obtain ⟨zz, hzz⟩ : ∃ zz, ((r1 : Int) == 4) = zz := ⟨_, rfl⟩
              clear hK2 hen hW5 hlt
              go_wp2_with fail
              go_quiet (fail)
              go_upto_region 15 with fail
              refine world_wp (fun W => RNextW w W b g s t ⟨r1, a2, s1, false⟩) (hW2.drewN nq) ?_
              clear hW2 H5 d0 d1 d2 d3 fz c0 HN
              intro W5 hW5
              obtain ⟨d0, d1, d2, d3⟩ := hW5.end_ ht
              have fz := has_free hW5.r.kb
              have H6 := Lib.hid (hW5.set hbl ht (j := 3) (by decide) (.bool true) ⟨r1, a2, s1, true⟩ rfl)
              cases s1 with
              | false =>
                clear hW5
                go_wp2_with fail
                go_roundw
                case rel => exact ⟨⟨r1, a2, false, true⟩, H6.out, by rw [next_over]; exact HKN.out, by assumption, by omega⟩
                case measure =>
                  obtain ⟨e1, _, e2⟩ := HW1.out.m1 ht
                  obtain ⟨e3, _, e4⟩ := H6.out.m1 ht
                  dsimp only at e1 e2 e3 e4
                  rw [e1, e2, e3, e4]
                  simp
                  try omega
              | true =>
                obtain rfl : r1 = 4 := by simpa using HEN.out
                clear hW5
                go_wp2_with fail
                go_roundw
                case rel => exact ⟨⟨4, a2, true, true⟩, H6.out, by rw [next_over]; exact HKN.out, by assumption, by omega⟩
                case measure =>
                  obtain ⟨e1, _, e2⟩ := HW1.out.m1 ht
                  obtain ⟨e3, _, e4⟩ := H6.out.m1 ht
                  dsimp only at e1 e2 e3 e4
                  rw [e1, e2, e3, e4]
                  simp
                  try omega
            · obtain rfl : s1 = true := by
                cases s1 with
                | true => rfl
                | false => exact absurd (.inl rfl) hen
              have hr : r1 ≠ 4 := fun e => hen (.inr e)
              rw [next_round hge rfl hr] at hK2
              have hne : ((r1 : Int) == 4) = false := by rw [beq_eq_false_iff_ne]; omega
              have HR5 := Lib.hid (show r1 + 1 ≤ 4 by omega)
              have HKN := Lib.hid hK2
              clear hen hr hK2 hlt
              go_wp2_with fail
              go_quiet (fail)
              go_upto_region 17 with fail
              refine world_wp (fun W => RNextW w W b g s t ⟨r1, a2, true, false⟩) (hW2.drewN nq) ?_
              clear hW2 d0 d1 d2 d3 fz c0
              intro W5 hW5
              obtain ⟨d0, d1, d2, d3⟩ := hW5.end_ ht
              have fz := has_free hW5.r.kb
              have hA := hW5.set hbl ht (j := 0) (by decide) (.int .i64 ((r1 : Int) + 1)) ⟨r1 + 1, a2, true, false⟩ (by simp [endC])
              rw [Nat.add_zero] at hA
              have hW6 := (hA.set hbl ht (j := 1) (by decide) (.int .i64 0) ⟨r1 + 1, 0, true, false⟩ rfl).set hbl ht (j := 2) (by decide) (.bool false) ⟨r1 + 1, 0, false, false⟩ rfl
              have H6 := Lib.hid hW6
              clear hW5 hA hW6
              go_wp2_with fail
              go_roundw
              case rel => exact ⟨⟨r1 + 1, 0, false, false⟩, H6.out, HKN.out, HR5.out, Nat.zero_le _⟩
              case measure =>
                obtain ⟨e1, _, e2⟩ := HW1.out.m1 ht
                obtain ⟨e3, _, e4⟩ := H6.out.m1 ht
                dsimp only at e1 e2 e3 e4
                rw [e1, e2, e3, e4]
                have := HR5.out
                simp only [Bool.false_eq_true, if_false]
                omega
end Go.Proofs.Ytcchebjeohdkfaa
