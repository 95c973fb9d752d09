/- What stands tells: the program's keys answer as the document's do. Conditions: the two stand alike. -/
import Derived.Test.YtcchebjeohdkfaaC21Do2
namespace Go.Proofs.Ytcchebjeohdkfaa
open Go.RowKit

theorem kround_x {w : World} {b : Nat} {s : Ks} {t : Int} {z : Nat} (h : w.heap[b]? = some (kO s)) (ok : KOk s) (hz : (if thF t = true then (s.e t.toNat).round else 0) = z) :
    Calls Try.prog 14 #[.pointer (some ⟨b, 0, none⟩), .int .i64 t] w fun e w' => e = .returned (.int .i64 (z : Nat)) ∧ w = w' := by subst hz; exact round_c w b s t h ok
theorem rround_x {w : World} {b g : Nat} {s : Ks} {t : Int} {z : Nat} (h : RK w b g s) (hz : (if thF t = true then (s.e t.toNat).round else 0) = z) :
    Calls Try.prog 47 #[.pointer (some ⟨b, 0, none⟩), .int .i64 t] w fun e w' => e = .returned (.int .i64 (z : Nat)) ∧ w = w' := by subst hz; exact rround_c w b g s t h
theorem kget_x {w : World} {b : Nat} {s : Ks} {t i a z : Int} (h : w.heap[b]? = some (kO s)) (ok : KOk s) (ha : getF s t i = a) (hz : eF s t i = z) :
    Calls Try.prog 12 #[.pointer (some ⟨b, 0, none⟩), .int .i64 t, .int .i64 i] w fun e w' => e = .returned (.tuple #[.int .i64 a, .int .i64 z]) ∧ Below w.heap.size w w' := by subst ha hz; exact get_c w b s t i h ok
theorem rget_x {w : World} {b g : Nat} {s : Ks} {t i a z : Int} (h : RK w b g s) (ok : KOk s) (ha : getF s t i = a) (hz : eF s t i = z) :
    Calls Try.prog 42 #[.pointer (some ⟨b, 0, none⟩), .int .i64 t, .int .i64 i] w fun e w' => e = .returned (.tuple #[.int .i64 a, .int .i64 z]) ∧ w = w' := by subst ha hz; exact rget_c w b g s t i h ok
theorem len_x {w : World} {b : Nat} {s : Ks} {c : Nat} (h : w.heap[b]? = some (kO s)) (ok : KOk s) (hc : cntF s 8 = c) : Calls Try.prog 48 #[.pointer (some ⟨b, 0, none⟩)] w fun e w' => e = .returned (.int .i64 (c : Nat)) ∧ w = w' := by subst hc; exact len_c w b s h ok
theorem cnt_step {s : Ks} {T : Nat} {x : Int} {y : Bool} (hx : x = (T : Int) - 1) (hy : mkF s x = y) : ((cntF s (T - 1) : Nat) : Int) + (if y = true then 1 else 0) = (cntF s (T + 1 - 1) : Nat) := by
  cases T with
  | zero =>
    have : y = false := by
      rw [← hy, hx]
      rfl
    subst this
    rfl
  | succ m =>
    obtain rfl : x = (m : Int) := by omega
    simp only [Nat.add_sub_cancel]
    cases y with
    | true => rw [cnt_yes hy]; simp
    | false => rw [cnt_no hy]; simp
theorem cnt_end {s : Ks} (ok : KOk s) : cntF s 9 = cntF s 8 := cnt_no (by
  have := ok.n2
  simp [mkF]
  omega)

set_option maxRecDepth 100000 in
set_option maxHeartbeats 4000000 in
theorem stands_c (w : World) (b r g : Nat) (s : Ks) (p : KP w b r g s) :
    Calls Try.prog 24 #[.pointer (some ⟨b, 0, none⟩), .pointer (some ⟨r, 0, none⟩)] w fun e w' => e = .returned (.bool true) ∧ Below w.heap.size w w' := by
  have ok := p.ok
  have n2 := ok.n2
  have hce := cnt_end ok
  have HCE := Lib.hid hce
  have P := Lib.hid p
  clear p hce
  go_enter Try.func24, Try.ntmps24
  go_wp2_with fail
  go_loopw [5, 6] (fun n i wr => ∃ (T : Nat) (x : Int), n = .int .i64 (cntF s (T - 1) : Nat) ∧ i = .int .i64 x ∧ x = (T : Int) - 1 ∧ T ≤ 10 ∧ Below w.heap.size w wr) (fun _ i _ => (9 - intOf i).toNat)
  case atStart => exact ⟨0, -1, rfl, rfl, rfl, by omega, Below.refl _ _⟩
  case round =>
    obtain ⟨T, x, rfl, rfl, hx, hT, hB⟩ := hrel
    have hcl := cntF_le s (T - 1)
    obtain ⟨cc, hcc⟩ : ∃ cc, cntF s (T - 1) = cc := ⟨_, rfl⟩
    rw [hcc] at hcl ⊢
    by_cases hT9 : T ≤ 9
    · have hx8 : x ≤ 8 := by omega
      have hx1 : -1 ≤ x := by omega
      have hc9 : cc ≤ 9 := by omega
      obtain ⟨y, hy⟩ : ∃ y, mkF s x = y := ⟨_, rfl⟩
      have hst := cnt_step hx hy
      rw [hcc] at hst
      have HST := Lib.hid hst
      have HY := Lib.hid hy
      have HX := Lib.hid hx
      have HT9 := Lib.hid hT9
      have HB := Lib.hid hB
      have hK := below_has hB P.out.kb
      have hR := P.out.rk.reads hB
      obtain ⟨c0, c1, _⟩ := rk_cells hR
      have HC1 := Lib.hid c1
      clear hy hcc hst hx hT9 hB c1 hT hcl
      go_upto_region 6 with (go_at_call 46; refine (made_c _ _ _ _ hK ok HY.out).mono ?_; rintro e w' ⟨z, rfl, hz, rfl⟩; have HZ := Lib.hid hz; clear hz)
      go_cut [9] from 16 to 102 (fun s9 wx => s9 = .bool y ∧ wx = wr)
      case first =>
        by_cases h0 : x < 0
        · obtain rfl : y = false := by rw [← HY.out]; simp [mkF]; omega
          clear hK hR
          go_wp2_with fail
          go_meet
          exact ⟨rfl, rfl⟩
        · obtain ⟨k, rfl⟩ : ∃ k : Nat, x = k := ⟨x.toNat, by omega⟩
          by_cases h1 : k < s.n
          · obtain ⟨k0, _, _⟩ := HC1.out k h1
            have hm : y = (s.k k).is := by rw [← HY.out]; simp [mkF, h1]
            rw [← hm] at k0
            have hkn : (k : Int) < s.n := by omega
            clear hK hR hm
            go_wp2_with fail
            go_meet
            exact ⟨rfl, rfl⟩
          · obtain rfl : y = false := by rw [← HY.out]; simp [mkF, h1]
            have hkn : ¬ (k : Int) < s.n := by omega
            clear hK hR
            go_wp2_with fail
            go_meet
            exact ⟨rfl, rfl⟩
      case rest =>
        obtain ⟨rfl, rfl⟩ := hcut
        go_upto_region 7 with fail
        go_cut [72] from 16 to 102 (fun s72 wx => s72 = .bool false ∧ wx = wc)
        case first =>
          cases y with
          | true =>
            obtain ⟨k, rfl, hkn, _⟩ := mkF_nat HY.out
            obtain ⟨_, k1, _⟩ := HC1.out k hkn
            obtain rfl : z = (s.k k).d := by rw [HZ.out, if_pos rfl]; simp
            have hki : (k : Int) < s.n := by omega
            clear hK hR
            go_wp2_with fail
            go_meet
            exact ⟨rfl, rfl⟩
          | false =>
            obtain rfl : z = 0 := by rw [HZ.out]; rfl
            clear hK hR
            go_wp2_with fail
            go_meet
            exact ⟨rfl, rfl⟩
        case rest =>
          obtain ⟨rfl, rfl⟩ := hcut
          obtain ⟨cn, hcn⟩ : ∃ cn, cn = cntF s (T + 1 - 1) := ⟨_, rfl⟩
          have HCN := Lib.hid hcn
          have hst := HST.out
          rw [← hcn] at hst
          have HS2 := Lib.hid hst
          clear hcn hst HST
          go_upto_if 73 with fail
          go_cut [5] from 16 to 102 (fun s5 wx => s5 = .int .i64 (cn : Nat) ∧ wx = wc)
          case first =>
            cases y with
            | true =>
              have hst := HS2.out
              rw [if_pos rfl] at hst
              have HS3 := Lib.hid hst
              clear hst hK hR
              go_wp2_with fail
              go_meet
              exact ⟨by rw [← HS3.out], rfl⟩
            | false =>
              have hst : cc = cn := by
                have := HS2.out
                simp at this
                omega
              subst hst
              clear hK hR
              go_wp2_with fail
              go_meet
              exact ⟨rfl, rfl⟩
          case rest =>
            obtain ⟨rfl, rfl⟩ := hcut
            have hBc := HB.out
            clear HB hK hR c0 HC1 HZ HS2 hc9
            go_wp2_with fail
            go_loopw [10] (fun u wx => ∃ v : Int, u = .int .i64 v ∧ -1 ≤ v ∧ v ≤ 19 ∧ Below w.heap.size w wx) (fun u _ => (17 - intOf u).toNat)
            case atStart => exact ⟨-1, rfl, by omega, by omega, hBc⟩
            case round =>
              clear hBc
              obtain ⟨v, rfl, hv1, hv2, hB⟩ := hrel
              by_cases hv : v ≤ 16
              · obtain ⟨a, ha⟩ : ∃ a, getF s v x = a := ⟨_, rfl⟩
                obtain ⟨q, hq⟩ : ∃ q, eF s v x = q := ⟨_, rfl⟩
                have HA := Lib.hid ha
                have HQ := Lib.hid hq
                have hK := below_has hB P.out.kb
                clear ha hq
                go_wp2_with (first
                  | (go_at_call 12; refine (kget_x hK ok HA.out HQ.out).mono ?_; rintro e w1 ⟨rfl, hb⟩; have hB1 := below_reads hB hb hB.size; have hR1 := P.out.rk.reads hB1; clear hB hK hb)
                  | (go_at_call 42; refine (rget_x hR1 ok HA.out HQ.out).mono ?_; rintro e w' ⟨rfl, rfl⟩)
                  | (go_at_call 9; refine (num_c _ _).mono ?_; rintro e w' ⟨rfl, rfl⟩))
                go_roundw
                case rel => exact ⟨v + 3, by go_num, by omega, by omega, hB1⟩
                case measure => simp [intOf]; omega
              · go_wp2_with fail
                go_roundw
                case rel => exact ⟨T + 1, x + 1, by rw [HCN.out], by go_num, by have := HX.out; omega, by have := HT9.out; omega, hB⟩
                case measure => have := HX.out; have := HT9.out; simp [intOf]; omega
    · obtain rfl : T = 10 := by omega
      obtain rfl : x = 9 := by omega
      have hl : cntF s 8 = cc := by rw [← HCE.out]; exact hcc
      have HL := Lib.hid hl
      clear hl hcc hT hT9 hx hcl
      go_wp2_with fail
      go_loopw [15] (fun u wx => ∃ v : Int, u = .int .i64 v ∧ -1 ≤ v ∧ v ≤ 17 ∧ Below w.heap.size w wx) (fun u _ => (17 - intOf u).toNat)
      case atStart => exact ⟨-1, rfl, by omega, by omega, hB⟩
      case round =>
        clear hB
        obtain ⟨v, rfl, hv1, hv2, hB⟩ := hrel
        have hK := below_has hB P.out.kb
        have hR := P.out.rk.reads hB
        by_cases hv : v ≤ 16
        · obtain ⟨a, ha⟩ : ∃ a, (if thF v = true then (s.e v.toNat).round else 0) = a := ⟨_, rfl⟩
          have HA := Lib.hid ha
          clear ha
          go_wp2_with (first
            | (go_at_call 14; refine (kround_x hK ok HA.out).mono ?_; rintro e w' ⟨rfl, rfl⟩)
            | (go_at_call 47; refine (rround_x hR HA.out).mono ?_; rintro e w' ⟨rfl, rfl⟩))
          go_roundw
          case rel => exact ⟨v + 1, by go_num, by omega, by omega, hB⟩
          case measure => simp [intOf]; omega
        · go_wp2_with (go_at_call 48; refine (len_x hK ok HL.out).mono ?_; rintro e w' ⟨rfl, rfl⟩)
          go_ret
          exact ⟨by simp, hB⟩
end Go.Proofs.Ytcchebjeohdkfaa
