/- Next of keys, over the translation of this seat. Conditions: the blocks that are named hold what is said. -/
import Derived.Test.YtcchebjeohdkfaaC21K3
namespace Go.Proofs.Ytcchebjeohdkfaa
open Go.RowKit

def liveF (s : Ks) (t : Nat) : Nat → Bool := fun i => (s.k i).is && decide (0 ≤ (s.k i).d) && ((s.k i).v t != 0)
def nextK (s : Ks) (t : Nat) : En × Option Nat := nextF s.n (liveF s t) ⟨max (s.e t).round 1, (s.e t).at_, (s.e t).some_, (s.e t).over⟩
def nextS (s : Ks) (t : Nat) : Ks := match (nextK s t).2 with
  | some i => { s with k := put s.k i { s.k i with v := put (s.k i).v t 0 }, e := put s.e t (nextK s t).1 }
  | none => { s with e := put s.e t (nextK s t).1 }
def nextD (s : Ks) (t : Nat) : Int × Int × Bool := match (nextK s t).2 with
  | some i => ((s.k i).d, (s.k i).v t, true)
  | none => (0, 0, false)
def nextV (x : Int × Int × Bool) : Value := .tuple #[.agg #[.int .i64 x.1, .int .i64 x.2.1], .bool x.2.2]
def natAt (w : World) (b o : Nat) : Nat := match w.cell? ⟨b, o, none⟩ with
  | some (.int _ x) => x.toNat
  | _ => 0
def boolAt (w : World) (b o : Nat) : Bool := match w.cell? ⟨b, o, none⟩ with
  | some (.bool y) => y
  | _ => false
/-- Within Next: the thread's end stands so. -/
structure NextW (w W : World) (b : Nat) (s : Ks) (t : Nat) (e : En) : Prop where
  u : Upd w b (kO { s with e := put s.e t e }) W
  res : W.heap[w.heap.size]? = some (.cells #[.int .i64 0, .int .i64 0] 37 (0, 0))
theorem NextW.drewN {w W : World} {b : Nat} {s : Ks} {t : Nat} {e : En} (h : NextW w W b s t e) (m : Nat) : NextW w (W.drewN m) b s t e := ⟨h.u.drewN m, h.res⟩
theorem NextW.end_ {w W : World} {b : Nat} {s : Ks} {t : Nat} {e : En} (h : NextW w W b s t e) (ht : t < 16) : W.cell? ⟨b, 145 + t * 4, none⟩ = some (.int .i64 e.round) ∧ W.cell? ⟨b, 145 + t * 4 + 1, none⟩ = some (.int .i64 e.at_) ∧ W.cell? ⟨b, 145 + t * 4 + 2, none⟩ = some (.bool e.some_) ∧ W.cell? ⟨b, 145 + t * 4 + 3, none⟩ = some (.bool e.over) := by
  have := (k_cells h.u.1).2.2 t ht
  simpa only [put_self] using this
theorem put_same {α : Type} (f : Nat → α) (i : Nat) : put f i (f i) = f := by
  funext j
  unfold put
  split
  · rename_i e; rw [e]
  · rfl
theorem put_put {α : Type} (f : Nat → α) (i : Nat) (x y : α) : put (put f i x) i y = put f i y := by
  funext j
  unfold put
  split <;> rfl
/-- One cell of the end turns. -/
theorem NextW.set {w W : World} {b : Nat} {s : Ks} {t : Nat} {e : En} (h : NextW w W b s t e) (hb : b < w.heap.size) (ht : t < 16) {j : Nat} (hj : j < 4) (v : Value) (e' : En) (he : endC e' = (endC e).set j v) : NextW w (W.setCell ⟨b, 145 + t * 4 + j, none⟩ v) b s t e' := by
  have u := (Upd.refl h.u.1).setCell (145 + t * 4 + j) v
  rw [ks_sete _ ht hj e' v (by simp only [put_self]; exact he)] at u
  simp only [put_put] at u
  exact ⟨h.u.trans u, u.other h.res (by omega)⟩
theorem NextW.all {w W W' : World} {b : Nat} {s : Ks} {t : Nat} {e e' : En} (h : NextW w W b s t e) (hb : b < w.heap.size) (u : Upd W b (kO { { s with e := put s.e t e } with e := put (put s.e t e) t e' }) W') : NextW w W' b s t e' := by
  simp only [put_put] at u
  exact ⟨h.u.trans u, u.other h.res (by omega)⟩
theorem NextW.m1 {w W : World} {b : Nat} {s : Ks} {t : Nat} {e : En} (h : NextW w W b s t e) (ht : t < 16) : natAt W b (145 + t * 4) = e.round ∧ natAt W b (145 + t * 4 + 1) = e.at_ ∧ boolAt W b (145 + t * 4 + 3) = e.over := by
  obtain ⟨h0, h1, h2, h3⟩ := h.end_ ht
  unfold natAt boolAt
  rw [h0, h1, h3]
  exact ⟨by simp, by simp, rfl⟩
theorem next_none {s : Ks} {t : Nat} {e : En} (h : nextK s t = (e, none)) : nextS s t = { s with e := put s.e t e } ∧ nextD s t = (0, 0, false) := by
  unfold nextS nextD
  rw [h]
  exact ⟨rfl, rfl⟩
theorem next_one {s : Ks} {t i : Nat} {e : En} (h : nextK s t = (e, some i)) : nextS s t = { s with k := put s.k i { s.k i with v := put (s.k i).v t 0 }, e := put s.e t e } ∧ nextD s t = ((s.k i).d, (s.k i).v t, true) := by
  unfold nextS nextD
  rw [h]
  exact ⟨rfl, rfl⟩

set_option maxRecDepth 100000 in
set_option maxHeartbeats 4000000 in
theorem next_c (w : World) (b : Nat) (s : Ks) (t : Nat) (h : w.heap[b]? = some (kO s)) (ok : KOk s) (ht : t < 16) :
    Calls Try.prog 13 #[.pointer (some ⟨b, 0, none⟩), .int .i64 t] w fun e w' => e = .returned (nextV (nextD s t)) ∧ Upd w b (kO (nextS s t)) w' := by
  have n2 := ok.n2
  have hth := thF_nat ht
  have hti : (t : Int) < 16 := by omega
  have hbl := has_lt h
  have hok := ok.e t
  obtain ⟨D, hD⟩ : ∃ D, D = nextD s t := ⟨_, rfl⟩
  obtain ⟨S, hS⟩ : ∃ S, S = nextS s t := ⟨_, rfl⟩
  obtain ⟨K, hK⟩ : ∃ K, K = nextK s t := ⟨_, rfl⟩
  rw [← hD, ← hS]
  have HD := Lib.hid hD
  have HS := Lib.hid hS
  have HKK := Lib.hid hK
  clear hD hS hK
  go_enter Try.func13, Try.ntmps13
  go_upto_region 1 with fail
  refine world_wp (fun W => Below w.heap.size w W ∧ W.heap[w.heap.size]? = some (.cells #[.int .i64 0, .int .i64 0] 37 (0, 0))) ⟨(Below.refl _ _).alloc (Nat.le_refl _) _, heap_alloc_new _ _⟩ ?_
  rintro W ⟨hB, hX⟩
  have hk0 := below_has hB h
  obtain ⟨r, a, sm, ov, he⟩ : ∃ r a sm ov, s.e t = ⟨r, a, sm, ov⟩ := ⟨_, _, _, _, rfl⟩
  have hW0 : NextW w W b s t ⟨r, a, sm, ov⟩ := ⟨Upd.after hB (Upd.refl (by rw [← he, put_same]; exact hk0)), hX⟩
  rw [he] at hok
  have HE := Lib.hid he
  go_step3
  go_upto_region 4 with (first | (go_at_call 30; refine (there_c _ _ _ hk0 ok).mono ?_; rintro e w' ⟨rfl, rfl⟩) | (go_at_call 34; refine (thread_c _ _ hth).mono ?_; rintro e w' ⟨rfl, rfl⟩))
  obtain ⟨R, hR⟩ : ∃ R, R = max r 1 := ⟨_, rfl⟩
  have hKe : K = nextF s.n (liveF s t) ⟨R, a, sm, ov⟩ := by rw [HKK.out, nextK, HE.out, hR]
  have HKE := Lib.hid hKe
  obtain ⟨d0, d1, d2, d3⟩ := hW0.end_ ht
  have fz := has_free hW0.u.1
  have hW1 := hW0.set hbl ht (j := 0) (by decide) (.int .i64 (R : Nat)) ⟨R, a, sm, ov⟩ rfl
  rw [Nat.add_zero] at hW1
  have H1 := Lib.hid hW1
  have HR := Lib.hid hR
  clear hKe he hk0 hX hB hW1 hW0 hR
  have hr4 := hok.1
  have ha8 := hok.2
  go_cut [] (fun wx => NextW w wx b s t ⟨R, a, sm, ov⟩)
  case first =>
    have h1 := H1.out
    by_cases hr0 : r < 1
    · obtain rfl : R = 1 := by have := HR.out; omega
      obtain rfl : r = 0 := by omega
      clear hr0
      go_wp2_with fail
      go_meet
      exact h1
    · obtain rfl : R = r := by have := HR.out; omega
      have hr1 : ¬ (R : Int) < 1 := by omega
      clear hr0
      go_wp2_with fail
      go_meet
      exact h1
  case rest =>
    have hW1 : NextW w wc b s t ⟨R, a, sm, ov⟩ := hcut
    clear hcut d0 d1 d2 d3 fz H1
    have hR4 : R ≤ 4 := by have := HR.out; omega
    have hKR := HKE.out
    clear hr4 hok
    go_wp2_with fail
    go_step3
    go_wp2_with fail
    go_loopw [7] (fun _ wr => ∃ e1 : En, NextW w wr b s t e1 ∧ K = nextF s.n (liveF s t) e1 ∧ e1.round ≤ 4 ∧ e1.at_ ≤ 8) (fun _ wr => if boolAt wr b (145 + t * 4 + 3) = true then 0 else 5 - natAt wr b (145 + t * 4))
    case atStart => exact ⟨_, hW1, hKR, hR4, ha8⟩
    case round =>
      clear hW1 hKR hR4 ha8 HE HKE HR
      obtain ⟨⟨r1, a1, s1, o1⟩, hW1, hK1, hr1, ha1⟩ := hrel
      obtain ⟨d0, d1, d2, d3⟩ := hW1.end_ ht
      have fz := has_free hW1.u.1
      have c0 := (k_cells hW1.u.1).1
      cases o1 with
      | true =>
        rw [next_over] at hK1
        have HK1 := Lib.hid hK1
        clear hK1
        have hKn := HK1.out
        have HWN := hW1
        clear d0 d1 d2 fz c0 hW1
        go_upto_region 16 with fail
        obtain ⟨hs, hd⟩ := next_none (s := s) (t := t) (HKK.out.symm.trans hKn)
        rw [← HS.out] at hs
        rw [← HD.out] at hd
        subst hs hd
        have x0 := has_cell 0 HWN.res rfl
        have x1 := has_cell 1 HWN.res rfl
        have fx := has_free HWN.res
        have X := ((Upd.refl HWN.res).setCell 0 (.int .i64 0)).setCell 1 (.int .i64 0)
        have q0 := has_cell 0 X.1 rfl
        have q1 := has_cell 1 X.1 rfl
        have uw := (HWN.u.setNew (p := ⟨w.heap.size, 0, none⟩) (Nat.le_refl _) (by show b ≠ w.heap.size; omega) (.int .i64 0)).setNew (p := ⟨w.heap.size, 1, none⟩) (Nat.le_refl _) (by show b ≠ w.heap.size; omega) (.int .i64 0)
        clear X HWN hKn HS HD HKK
        go_wp2_with fail
        try simp only [Exit.noGoto]
        refine bodyPost_ret (v := nextV (0, 0, false)) ?_ rfl ⟨rfl, uw⟩
        simp [results, Try.f13, go_sem, q0, q1, nextV]
      | false =>
        have HK1 := Lib.hid hK1
        have HW1 := Lib.hid hW1
        clear hK1
        go_wp2_with fail
        go_loopw [7] (fun _ wx => ∃ a2 : Nat, NextW w wx b s t ⟨r1, a2, s1, false⟩ ∧ K = nextF s.n (liveF s t) ⟨r1, a2, s1, false⟩ ∧ a2 ≤ 8) (fun _ wx => 8 - natAt wx b (145 + t * 4 + 1))
        case atStart => exact ⟨a1, hW1, HK1.out, ha1⟩
        case round =>
          clear hW1 d0 d1 d2 d3 fz c0 HK1
          obtain ⟨a2, hW2, hK2, ha2⟩ := hrel
          obtain ⟨d0, d1, d2, d3⟩ := hW2.end_ ht
          have fz := has_free hW2.u.1
          have c0 := (k_cells hW2.u.1).1
          have HW2 := Lib.hid hW2
          by_cases hlt : a2 < s.n
          · have ha8 : a2 < 8 := by omega
            have hai : (a2 : Int) < 8 := by omega
            have hltn : (a2 : Int) < s.n := by omega
            have HK := Lib.hid (show a2 + 1 ≤ 8 from ha8)
            go_wp2_with fail
            go_quiet (fail)
            go_wp2_with fail
            go_quiet (fail)
            go_upto_region 8 with fail
            refine world_wp (fun W => NextW w W b s t ⟨r1, a2, s1, false⟩) (by first | exact hW2.drewN _ | exact (hW2.drewN _).drewN _) ?_
            clear d0 d1 d2 d3 fz c0 hW2
            intro W3 hW3
            obtain ⟨d0, d1, d2, d3⟩ := hW3.end_ ht
            have fz := has_free hW3.u.1
            have hW4 := hW3.set hbl ht (j := 1) (by decide) (.int .i64 ((a2 : Int) + 1)) ⟨r1, a2 + 1, s1, false⟩ (by simp [endC])
            go_upto_region 9 with fail
            refine world_wp (fun W => NextW w W b s t ⟨r1, a2 + 1, s1, false⟩) hW4 ?_
            clear d0 d1 d2 d3 fz hW3 hW4
            intro W4 hW4
            obtain ⟨k0, k1, k2⟩ := (k_cells hW4.u.1).2.1 a2 ha8
            have k3 := k2 t ht
            obtain ⟨_, _, d2, _⟩ := hW4.end_ ht
            have fz := has_free hW4.u.1
            have HW4 := Lib.hid hW4
            dsimp only at k0 k1 k3
            clear k2
            cases hm : (s.k a2).is with
            | false =>
              rw [hm] at k0
              rw [next_skip hlt (by simp [liveF, hm])] at hK2
              have hK3 := Lib.hid hK2
              clear hK2 hlt hm hW4
              go_wp2_with fail
              go_roundw
              case rel => exact ⟨a2 + 1, HW4.out, hK3.out, HK.out⟩
              case measure =>
                have e1 := (HW2.out.m1 ht).2.1
                have e2 := (HW4.out.m1 ht).2.1
                dsimp only at e1 e2
                rw [e1, e2]
                have := HK.out
                omega
            | true =>
              rw [hm] at k0
              by_cases hd : 0 ≤ (s.k a2).d
              · by_cases hv : (s.k a2).v t = 0
                · rw [hv] at k3
                  rw [next_skip hlt (by simp [liveF, hm, hv])] at hK2
                  have hK3 := Lib.hid hK2
                  clear hK2 hlt hm hv hW4
                  go_wp2_with fail
                  go_roundw
                  case rel => exact ⟨a2 + 1, HW4.out, hK3.out, HK.out⟩
                  case measure =>
                    have e1 := (HW2.out.m1 ht).2.1
                    have e2 := (HW4.out.m1 ht).2.1
                    dsimp only at e1 e2
                    rw [e1, e2]
                    have := HK.out
                    omega
                · have hne : ((s.k a2).v t != 0) = true := by simpa using hv
                  have hde : decide (0 ≤ (s.k a2).d) = true := decide_eq_true hd
                  have hlv : liveF s t a2 = true := by simp [liveF, hm, hd, hv]
                  rw [next_here hlt hlv] at hK2
                  obtain ⟨hs, hdd⟩ := next_one (s := s) (t := t) (HKK.out.symm.trans hK2)
                  rw [← HS.out] at hs
                  rw [← HD.out] at hdd
                  subst hs hdd
                  have u1 := (Upd.refl hW4.u.1).setCell (1 + a2 * 18 + 2 + t) (.int .i64 0)
                  rw [upd_key _ ha8 ht] at u1
                  have u2 := u1.setCell (145 + t * 4 + 2) (.bool true)
                  rw [ks_sete _ ht (by decide) ⟨r1, a2 + 1, true, false⟩ _ (by simp only [put_self]; rfl)] at u2
                  simp only [put_put] at u2
                  have U := hW4.u.trans u2
                  have hres := u2.other hW4.res (by omega)
                  have HU := Lib.hid U
                  have HRES := Lib.hid hres
                  clear u1 u2 U hres hW4 hlv hK2 hlt hm hv hd HW2 HW4 HS HD HKK
                  go_upto_region 12 with fail
                  refine world_wp (fun W => Upd w b (kO { s with k := put s.k a2 { s.k a2 with v := put (s.k a2).v t 0 }, e := put s.e t ⟨r1, a2 + 1, true, false⟩ }) W ∧ W.heap[w.heap.size]? = some (.cells #[.int .i64 0, .int .i64 0] 37 (0, 0))) ⟨HU.out, HRES.out⟩ ?_
                  clear k0 k1 k3 fz d2 HU HRES
                  rintro W5 ⟨u5, h5⟩
                  have k1 := ((k_cells u5.1).2.1 a2 ha8).2.1
                  simp only [put_self] at k1
                  have x0 := has_cell 0 h5 rfl
                  have x1 := has_cell 1 h5 rfl
                  have fx := has_free h5
                  have X := ((Upd.refl h5).setCell 0 (.int .i64 (s.k a2).d)).setCell 1 (.int .i64 ((s.k a2).v t))
                  have q0 := has_cell 0 X.1 rfl
                  have q1 := has_cell 1 X.1 rfl
                  have uw := (u5.setNew (p := ⟨w.heap.size, 0, none⟩) (Nat.le_refl _) (by show b ≠ w.heap.size; omega) (.int .i64 (s.k a2).d)).setNew (p := ⟨w.heap.size, 1, none⟩) (Nat.le_refl _) (by show b ≠ w.heap.size; omega) (.int .i64 ((s.k a2).v t))
                  clear X u5 h5
                  go_wp2_with fail
                  refine bodyPost_ret (v := nextV ((s.k a2).d, (s.k a2).v t, true)) ?_ rfl ⟨rfl, uw⟩
                  simp [results, Try.f13, go_sem, q0, q1, nextV]
              · have hde : decide (0 ≤ (s.k a2).d) = false := decide_eq_false hd
                rw [next_skip hlt (by simp [liveF, hm, hd])] at hK2
                have hK3 := Lib.hid hK2
                clear hK2 hlt hm hd hW4
                go_wp2_with fail
                go_roundw
                case rel => exact ⟨a2 + 1, HW4.out, hK3.out, HK.out⟩
                case measure =>
                  have e1 := (HW2.out.m1 ht).2.1
                  have e2 := (HW4.out.m1 ht).2.1
                  dsimp only at e1 e2
                  rw [e1, e2]
                  have := HK.out
                  omega
          · have hge : s.n ≤ a2 := by omega
            have hlf : ¬ (a2 : Int) < s.n := by omega
            by_cases hen : s1 = false ∨ r1 = 4
            · rw [next_end hge hen] at hK2
              have hW5 := hW2.set hbl ht (j := 3) (by decide) (.bool true) ⟨r1, a2, s1, true⟩ rfl
              have H5 := Lib.hid hW5
              have HKN := Lib.hid hK2
              have HEN := Lib.hid hen
              clear hK2 hen hW5 hW2 hlt HW2 HW1
              cases s1 with
              | false =>
                go_wp2_with fail
                go_quiet (fail)
                go_upto_region 16 with fail
                refine world_wp (fun W => NextW w W b s t ⟨r1, a2, false, true⟩) (by exact H5.out.drewN _) ?_
                intro W6 HWN
                have hKn := HKN.out
                obtain ⟨hs, hd⟩ := next_none (s := s) (t := t) (HKK.out.symm.trans hKn)
                rw [← HS.out] at hs
                rw [← HD.out] at hd
                subst hs hd
                have x0 := has_cell 0 HWN.res rfl
                have x1 := has_cell 1 HWN.res rfl
                have fx := has_free HWN.res
                have X := ((Upd.refl HWN.res).setCell 0 (.int .i64 0)).setCell 1 (.int .i64 0)
                have q0 := has_cell 0 X.1 rfl
                have q1 := has_cell 1 X.1 rfl
                have uw := (HWN.u.setNew (p := ⟨w.heap.size, 0, none⟩) (Nat.le_refl _) (by show b ≠ w.heap.size; omega) (.int .i64 0)).setNew (p := ⟨w.heap.size, 1, none⟩) (Nat.le_refl _) (by show b ≠ w.heap.size; omega) (.int .i64 0)
                clear X HWN hKn HS HD HKK
                go_wp2_with fail
                try simp only [Exit.noGoto]
                refine bodyPost_ret (v := nextV (0, 0, false)) ?_ rfl ⟨rfl, uw⟩
                simp [results, Try.f13, go_sem, q0, q1, nextV]
              | true =>
                obtain rfl : r1 = 4 := by simpa using HEN.out
                go_wp2_with fail
                go_quiet (fail)
                go_upto_region 16 with fail
                refine world_wp (fun W => NextW w W b s t ⟨4, a2, true, true⟩) (by exact H5.out.drewN _) ?_
                intro W6 HWN
                have hKn := HKN.out
                obtain ⟨hs, hd⟩ := next_none (s := s) (t := t) (HKK.out.symm.trans hKn)
                rw [← HS.out] at hs
                rw [← HD.out] at hd
                subst hs hd
                have x0 := has_cell 0 HWN.res rfl
                have x1 := has_cell 1 HWN.res rfl
                have fx := has_free HWN.res
                have X := ((Upd.refl HWN.res).setCell 0 (.int .i64 0)).setCell 1 (.int .i64 0)
                have q0 := has_cell 0 X.1 rfl
                have q1 := has_cell 1 X.1 rfl
                have uw := (HWN.u.setNew (p := ⟨w.heap.size, 0, none⟩) (Nat.le_refl _) (by show b ≠ w.heap.size; omega) (.int .i64 0)).setNew (p := ⟨w.heap.size, 1, none⟩) (Nat.le_refl _) (by show b ≠ w.heap.size; omega) (.int .i64 0)
                clear X HWN hKn HS HD HKK
                go_wp2_with fail
                try simp only [Exit.noGoto]
                refine bodyPost_ret (v := nextV (0, 0, false)) ?_ rfl ⟨rfl, uw⟩
                simp [results, Try.f13, go_sem, q0, q1, nextV]
            · obtain rfl : s1 = true := by
                cases s1 with
                | true => rfl
                | false => exact absurd (.inl rfl) hen
              have hr : r1 ≠ 4 := fun e => hen (.inr e)
              rw [next_round hge rfl hr] at hK2
              have hne : ((r1 : Int) == 4) = false := by rw [beq_eq_false_iff_ne]; omega
              have HR5 := Lib.hid (show r1 + 1 ≤ 4 by omega)
              have HKN := Lib.hid hK2
              have hK0 := hW2.u.1
              clear hen hr hK2 hlt
              go_wp2_with fail
              go_quiet (fail)
              go_wp2_with fail
              have hA := (hW2.drewN nq).set hbl ht (j := 0) (by decide) (.int .i64 ((r1 : Int) + 1)) ⟨r1 + 1, a2, true, false⟩ (by simp [endC])
              rw [Nat.add_zero] at hA
              have hW6 := ((hA.set hbl ht (j := 1) (by decide) (.int .i64 0) ⟨r1 + 1, 0, true, false⟩ rfl).set hbl ht (j := 2) (by decide) (.bool false) ⟨r1 + 1, 0, false, false⟩ rfl).set hbl ht (j := 3) (by decide) (.bool false) ⟨r1 + 1, 0, false, false⟩ rfl
              clear hW2 hK0 hA
              go_roundw
              case rel => exact ⟨⟨r1 + 1, 0, false, false⟩, hW6, HKN.out, HR5.out, Nat.zero_le _⟩
              case measure =>
                obtain ⟨e1, _, e2⟩ := HW1.out.m1 ht
                obtain ⟨e3, _, e4⟩ := hW6.m1 ht
                dsimp only at e1 e2 e3 e4
                rw [e1, e2, e3, e4]
                have := HR5.out
                simp only [Bool.false_eq_true, if_false]
                omega
end Go.Proofs.Ytcchebjeohdkfaa
