/- The walk of InheritLeast: it returns true, and turns nothing that was there. Conditions: the script is a slice of steps. -/
import Derived.Test.YtkjcchepgpbiiaaC12Known
import Derived.Test.YtkjcchepgpbiiaaLift
namespace Go.Proofs.Ytkjcchepgpbiiaa
open Go.RowKit

abbrev stepSc : List Sc := [.i .i64, .i .i64, .i .i64]
theorem step_fit {cs : List Value} (h : FitW stepSc cs) : ∃ kd k n : Int, cs = [.int .i64 kd, .int .i64 k, .int .i64 n] := by
  have hl : cs.length = 3 := h.len
  match cs, hl with
  | [x, y, z], _ =>
    obtain ⟨⟨a, ha, _⟩, ⟨b, hb, _⟩, ⟨c, hc, _⟩, _⟩ := h
    exact ⟨a, b, c, by rw [ha, hb, hc]⟩
theorem rows_cells {w : World} {a : Option Addr} {len : Nat} (h : IsRows w stepSc a len) {j : Nat} (hj : j < len) :
    ∃ b off kd th nn, a = some ⟨b, off, none⟩ ∧ ∀ W, Below w.heap.size w W → W.cell? ⟨b, off + j * 3, none⟩ = some (.int .i64 kd) ∧ W.cell? ⟨b, off + j * 3 + 1, none⟩ = some (.int .i64 th) ∧ W.cell? ⟨b, off + j * 3 + 2, none⟩ = some (.int .i64 nn) := by
  rcases h with h | ⟨b, off, rfl, _, hb, h⟩
  · omega
  · obtain ⟨cs, hf, hc⟩ := h j hj
    obtain ⟨kd, th, nn, rfl⟩ := step_fit hf
    have hbb : b < w.heap.size := hb (by omega)
    exact ⟨b, off, kd, th, nn, rfl, fun W hW => ⟨(hW.cell (p := ⟨b, _, none⟩) hbb).trans (hc 0 (by decide)), (hW.cell (p := ⟨b, _, none⟩) hbb).trans (hc 1 (by decide)), (hW.cell (p := ⟨b, _, none⟩) hbb).trans (hc 2 (by decide))⟩⟩
/-- The program's graph and the document's, made by the law itself. -/
structure RunW (w W : World) (b r : Nat) (s : Gs) : Prop where
  p : Pair W b r s
  below : Below w.heap.size w W
  lb : w.heap.size ≤ b
  lr : w.heap.size ≤ r
theorem RunW.reads {w W W' : World} {b r : Nat} {s : Gs} (h : RunW w W b r s) (u : Below W.heap.size W W') : RunW w W' b r s := ⟨h.p.reads u, below_reads h.below u h.below.size, h.lb, h.lr⟩
theorem RunW.step {w W W' : World} {b r : Nat} {s s' : Gs} (h : RunW w W b r s) (p : Pair W' b r s') (u : Upd2 W b r W') : RunW w W' b r s' := ⟨p, h.below.trans (u.below h.lb h.lr h.below.size), h.lb, h.lr⟩
theorem run_new {w w1 w2 : World} {n : Nat} (h1 : 1 ≤ n) (h2 : n ≤ 16) (hG : w1.heap[w.heap.size]? = some (gO (newG n))) (hB : Below w.heap.size w w1) (hR : w2.heap[w1.heap.size]? = some (rO (newG n))) (hB2 : Below w1.heap.size w1 w2) : RunW w w2 w.heap.size w1.heap.size (newG n) :=
  ⟨⟨below_has hB2 hG, hR, newG_ok h1 h2⟩, below_reads hB hB2 hB.size, Nat.le_refl _, hB.size⟩

set_option maxRecDepth 100000 in
theorem least_bad (w : World) (x : Int) (a : Option Addr) (len cap : Nat) (h : x < 1 ∨ 16 < x) :
    Calls Try.prog 3 #[.int .i64 x, .slice a len cap] w fun e w' => e = .returned (.bool true) ∧ Below w.heap.size w w' := by
  have H := Lib.hid h
  clear h
  go_enter Try.func3, Try.ntmps3
  go_wp2_with fail
  refine (new_bad _ _ H.out).mono ?_; rintro e w' ⟨rfl, rfl⟩
  go_wp2_with fail
  refine (rnew_bad _ _ H.out).mono ?_; rintro e w' ⟨rfl, rfl⟩
  go_wp2_with fail
  refine (known_c _).mono ?_; rintro e w1 ⟨rfl, hB⟩
  go_wp2_with fail
  go_ret
  exact ⟨rfl, hB⟩
/-- Where one is after k steps; -1: nowhere. -/
def posI : Option Nat → Int
  | some a => a
  | none => -1
theorem posI_next {n : Nat} {wt : Nat → Int} (hf : Fine n wt) {s k a : Nat} (ha : a < n) (h : stepsTo wt k s = some a) : wt a = posI (stepsTo wt (k + 1) s) := by
  simp only [stepsTo, h, Option.bind_some]
  have := hf a ha
  unfold nxt
  split
  · show wt a = ((wt a).toNat : Int)
    omega
  · show wt a = -1
    omega
theorem ring_reads {s : Gs} {out : Nat → Int} {t : Nat} (hf : Fine s.n s.wt) (h : Least s.n s.own s.wt out) (ht : t < s.n) {k : Nat} (hk : k < (ringV (ringF s.n s.wt t)).length) : ∃ x : Nat, (ringV (ringF s.n s.wt t)).getD k 0 = (x : Int) ∧ x < s.n ∧ out x = out t ∧ (ringF s.n s.wt t).isSome = true := by
  cases hr : ringF s.n s.wt t with
  | none => rw [hr] at hk; simp [ringV, nL] at hk
  | some l =>
    rw [hr] at hk
    have hk' : k < l.length := by simpa [ringV, nL] using hk
    refine ⟨l[k], ?_, ?_⟩
    · simp [ringV, nL, List.getD_eq_getElem?_getD, hk']
    · obtain ⟨h1, h2⟩ := ring_equal hf h ht hr l[k] (List.getElem_mem hk')
      exact ⟨h1, h2, rfl⟩
theorem steps_none {wt : Nat → Int} {s k : Nat} (h : stepsTo wt k s = none) : ∀ m, k ≤ m → stepsTo wt m s = none := by
  intro m hm
  obtain ⟨d, rfl⟩ := Nat.exists_eq_add_of_le hm
  rw [steps_add, h]
  rfl
/-- One's base or ceiling is t's number, and k steps lead there. -/
def Leads (s : Gs) (out : Nat → Int) (t a k : Nat) : Prop := stepsTo s.wt k a = some t ∧ (s.ba a = out t ∨ s.ce a = out t)
structure LeastW (w W : World) (b r : Nat) (s : Gs) (v : Value) (out : Nat → Int) : Prop where
  run : RunW w W b r s
  l : ReadsL W v (outL out s.n)
theorem LeastW.reads {w W W' : World} {b r : Nat} {s : Gs} {v : Value} {out : Nat → Int} (h : LeastW w W b r s v out) (u : Below W.heap.size W W') : LeastW w W' b r s v out := ⟨h.run.reads u, reads_below h.l u⟩
theorem LeastW.drewN {w W : World} {b r : Nat} {s : Gs} {v : Value} {out : Nat → Int} (h : LeastW w W b r s v out) (m : Nat) : LeastW w (W.drewN m) b r s v out := h.reads (below_drewN (Below.refl _ _) _)
theorem LeastW.cells {w W : World} {b r : Nat} {s : Gs} {a : Option Addr} {m cap : Nat} {out : Nat → Int} (h : LeastW w W b r s (.slice a m cap) out) (h1 : 0 < s.n) : ∃ g, a = some ⟨g, 0, none⟩ ∧ ∀ k, k < s.n → W.cell? ⟨g, k, none⟩ = some (.int .i64 (out k)) := by
  obtain ⟨a', cap', e, hr⟩ := h.l
  injection e with e1 e2 e3
  subst e1
  obtain ⟨g, rfl, hc⟩ := hr (by rw [outL_length]; exact h1)
  exact ⟨g, rfl, fun k hk => by rw [hc k (by rw [outL_length]; exact hk), outL_get _ hk]⟩

set_option maxRecDepth 100000 in
set_option maxHeartbeats 4000000 in
theorem least_c (w : World) (n : Nat) (a : Option Addr) (len cap : Nat) (h1 : 1 ≤ n) (h2 : n ≤ 16) (hs : IsRows w stepSc a len) :
    Calls Try.prog 3 #[.int .i64 n, .slice a len cap] w fun e w' => e = .returned (.bool true) ∧ Below w.heap.size w w' := by
  have hm := hs.max
  unfold maxLen at hm
  have HS := Lib.hid hs
  clear hs
  go_enter Try.func3, Try.ntmps3
  go_wp2_with fail
  refine (new_c _ n h1 h2).mono ?_; rintro e w1 ⟨rfl, hG, hB, hz⟩
  go_wp2_with fail
  refine (rnew_c _ n h1 h2).mono ?_; rintro e w2 ⟨rfl, hR, hB2, hz2⟩
  have hW := run_new h1 h2 hG hB hR hB2
  obtain ⟨b, hb⟩ : ∃ b, w.heap.size = b := ⟨_, rfl⟩
  obtain ⟨r, hr⟩ : ∃ r, w1.heap.size = r := ⟨_, rfl⟩
  rw [hb, hr] at hW
  rw [hb, hr]
  clear hG hB hR hB2 hz hz2 hr
  have HBB := Lib.hid hb
  clear hb
  by_cases h100 : 100 < len
  · go_wp2_with fail
    refine (known_c _).mono ?_; rintro e w3 ⟨rfl, hb⟩
    have hB := (hW.reads hb).below
    go_wp2_with fail
    go_ret
    exact ⟨rfl, hB⟩
  have hN : newG n = newG n ∧ (newG n).n = n := ⟨rfl, rfl⟩
  go_wp2_with fail
  go_loopw [8] (fun i wr => ∃ (s : Gs) (j : Nat), i = .int .i64 j ∧ j ≤ len ∧ s.n = n ∧ RunW w wr b r s) (fun i _ => len - (intOf i).toNat)
  case atStart => exact ⟨_, 0, rfl, Nat.zero_le _, rfl, hW⟩
  case round =>
    clear hW
    obtain ⟨s, j, rfl, hj, hn, hW⟩ := hrel
    by_cases hlt : j < len
    · obtain ⟨ba, off, kd, th, nn, rfl, hq⟩ := rows_cells HS.out hlt
      obtain ⟨e0, e1, e2⟩ := hq wr hW.below
      clear hq
      have HK := Lib.hid hlt
      have HN := Lib.hid hn
      clear hn
      go_wp2_with fail
      refine (does_c wr b r s kd th nn hW.p).mono ?_; rintro e w5 ⟨rfl, hp5, u5⟩
      have hW5 := hW.step hp5 u5
      clear hW e0 e1 e2 hp5 u5
      go_wp2_with fail
      go_roundw
      case rel => exact ⟨_, j + 1, by go_num, HK.out, (stepF_n _ _ _ _).trans HN.out, hW5⟩
      case measure => have := HK.out; simp [intOf]; omega
    · have HN := Lib.hid hn
      clear hn
      have hok := hW.p.ok
      go_wp2_with fail
      refine (gall_c _ b s hW.p.g hok).mono ?_; rintro e w6 ⟨v, out, rfl, hO, hL, hb⟩
      have hLW : LeastW w w6 b r s v out := ⟨hW.reads hb, own_reads hO⟩
      obtain ⟨ad, cp, ev, _⟩ := own_reads hO
      rw [outL_length, HN.out] at ev
      subst ev
      clear hO hW hb hlt hj
      go_wp2_with fail
      have HL := Lib.hid hL
      have HOK := Lib.hid hok
      clear hL hok
      go_loopw [10] (fun i wx => ∃ t : Nat, i = .int .i64 t ∧ t ≤ n ∧ LeastW w wx b r s (.slice ad n cp) out) (fun i _ => n - (intOf i).toNat)
      case atStart => exact ⟨0, rfl, Nat.zero_le _, hLW⟩
      case round =>
        clear hLW
        obtain ⟨t, rfl, ht, hLW⟩ := hrel
        by_cases htl : t < n
        · obtain ⟨g, rfl, hcl⟩ := hLW.cells (by rw [HN.out]; omega)
          have ht16 : t < 16 := by omega
          obtain ⟨cb, cc, cw⟩ := (r_cells hLW.run.p.ref).2 t ht16
          have cl := hcl t (by rw [HN.out]; exact htl)
          obtain ⟨z, hzv⟩ : ∃ z, z = s.wt t := ⟨_, rfl⟩
          rw [← hzv] at cw
          have HZV := Lib.hid hzv
          clear hzv
          have hti : (t : Int) < 16 := by omega
          have htn : (t : Int) < n := by omega
          have hpre := HL.out.1.1 t (by rw [HN.out]; exact htl)
          have hba : decide (out t < s.ba t) = false := by
            rw [decide_eq_false_iff_not]
            unfold Gs.own at hpre
            omega
          have hce : decide (out t < s.ce t) = false := by
            rw [decide_eq_false_iff_not]
            unfold Gs.own at hpre
            omega
          have HLW := Lib.hid hLW
          have HTL := Lib.hid htl
          have HCL := Lib.hid hcl
          clear hpre htl hcl hLW
          go_wp2_with fail
          go_quiet (fail)
          go_upto_region 18 with fail
          refine world_wp (fun W => LeastW w W b r s (.slice (some ⟨g, 0, none⟩) n cp) out) (HLW.out.drewN nq) ?_
          clear cb cc cw cl hba hce
          intro W1 hW1
          obtain ⟨g', e, hcl⟩ := hW1.cells (by rw [HN.out]; omega)
          cases e
          have cl := hcl t (by rw [HN.out]; exact HTL.out)
          have hmid : ∀ (m : Nat), LeastW w (W1.drewN m) b r s (.slice (some ⟨g, 0, none⟩) n cp) out := fun m => hW1.drewN m
          have HMID := Lib.hid hmid
          clear hmid
          have hwb := HOK.out.wt t ht16
          rw [← HZV.out] at hwb
          have hle : ∀ v : Nat, s.wt t = v → out t ≤ out v := fun v hv => HL.out.1.2 t v (by rw [HN.out]; exact HTL.out) (nxt_some hv)
          have HLE := Lib.hid hle
          clear hle
          go_cut [104] from 92 to 103 (fun s104 wx => s104 = .bool false ∧ LeastW w wx b r s (.slice (some ⟨g, 0, none⟩) n cp) out)
          case first =>
            by_cases hneg : z < 0
            · have hd : decide (0 ≤ z) = false := by rw [decide_eq_false_iff_not]; omega
              clear hneg hwb
              go_quiet (fail)
              go_wp2_with fail
              go_meet
              exact ⟨rfl, HMID.out _⟩
            · obtain ⟨v, rfl⟩ : ∃ v : Nat, z = v := ⟨z.toNat, by omega⟩
              have hvn : v < n := by have := HN.out; omega
              have cv := hcl v (by rw [HN.out]; exact hvn)
              have hle := HLE.out v HZV.out.symm
              have hvi : (v : Int) < 16 := by omega
              have hvn' : (v : Int) < n := by omega
              have hd : decide (out v < out t) = false := by rw [decide_eq_false_iff_not]; omega
              clear hneg hwb hle
              go_quiet (fail)
              go_wp2_with fail
              go_meet
              exact ⟨rfl, HMID.out _⟩
          case rest =>
            obtain ⟨rfl, hW2⟩ := hcut
            clear hW1 hcl cl HLW HMID hwb
            go_wp2_with fail
            go_loopw [12, 13] (fun f i wx => ∃ (x : Bool) (q : Nat), f = .bool x ∧ i = .int .i64 q ∧ q ≤ n ∧ LeastW w wx b r s (.slice (some ⟨g, 0, none⟩) n cp) out ∧ ∀ q' k', q' < q → k' ≤ n → Leads s out t q' k' → x = true) (fun _ i _ => n - (intOf i).toNat)
            case atStart => exact ⟨false, 0, rfl, rfl, Nat.zero_le _, hW2, fun q' k' h => absurd h (Nat.not_lt_zero _)⟩
            case round =>
              clear hW2
              obtain ⟨x, q, rfl, rfl, hq, hW3, hI⟩ := hrel
              have HI := Lib.hid hI
              clear hI
              by_cases hqn : q < n
              · have HQ := Lib.hid hqn
                have hqi : (q : Int) < n := by omega
                clear hqn
                go_wp2_with fail
                go_loopw [12, 14, 15] (fun f at_ i wx => ∃ (x : Bool) (k : Nat), f = .bool x ∧ at_ = .int .i64 (posI (stepsTo s.wt k q)) ∧ i = .int .i64 k ∧ k ≤ n + 1 ∧ LeastW w wx b r s (.slice (some ⟨g, 0, none⟩) n cp) out ∧ ∀ q' k', (q' < q ∧ k' ≤ n ∨ q' = q ∧ k' < k) → Leads s out t q' k' → x = true) (fun _ _ i _ => n + 1 - (intOf i).toNat)
                case atStart => exact ⟨x, 0, rfl, rfl, rfl, Nat.zero_le _, hW3, fun q' k' h => by rcases h with h | h; exact HI.out q' k' h.1 h.2; omega⟩
                case round =>
                  clear hW3 HI
                  obtain ⟨x, k, rfl, rfl, rfl, hk, hW4, hJ⟩ := hrel
                  have HJ := Lib.hid hJ
                  clear hJ
                  by_cases hkn : k ≤ n
                  · have hki : (k : Int) ≤ n := by omega
                    have HK := Lib.hid hkn
                    clear hkn hk
                    cases hst : stepsTo s.wt k q with
                    | none =>
                      have HST := Lib.hid hst
                      clear hst
                      have hp : posI (none : Option Nat) = -1 := rfl
                      rw [hp]
                      clear hp
                      go_wp2_with fail
                      go_roundw
                      case rel =>
                        refine ⟨x, q + 1, rfl, by go_num, HQ.out, hW4, fun q' k' h1 h2 h3 => ?_⟩
                        by_cases hqq : q' < q
                        · exact HJ.out q' k' (.inl ⟨hqq, h2⟩) h3
                        · obtain rfl : q' = q := by omega
                          by_cases hkk : k' < k
                          · exact HJ.out q' k' (.inr ⟨rfl, hkk⟩) h3
                          · have := steps_none HST.out k' (by omega)
                            rw [h3.1] at this
                            cases this
                      case measure => have := HQ.out; simp [intOf]; omega
                    | some av =>
                      have havn : av < s.n := steps_lt HOK.out.fine (by rw [HN.out]; exact HQ.out) hst
                      rw [HN.out] at havn
                      have HST := Lib.hid hst
                      clear hst
                      have hp : posI (some av) = (av : Int) := rfl
                      rw [hp]
                      clear hp
                      have hq16 : q < 16 := by have := HQ.out; omega
                      have ha16 : av < 16 := by omega
                      obtain ⟨cb, cc, cw⟩ := (r_cells hW4.run.p.ref).2 q hq16
                      clear cw
                      obtain ⟨g', e, hcl⟩ := hW4.cells (by rw [HN.out]; omega)
                      cases e
                      have cl := hcl t (by rw [HN.out]; exact HTL.out)
                      have hqi16 : (q : Int) < 16 := by omega
                      have hai16 : (av : Int) < 16 := by omega
                      have H4 := Lib.hid hW4
                      clear hcl hW4
                      go_upto_region 28 with fail
                      go_cut [148] from 120 to 147 (fun s148 wx => ∃ y : Bool, s148 = .bool y ∧ (Leads s out t q k → y = true) ∧ LeastW w wx b r s (.slice (some ⟨g, 0, none⟩) n cp) out)
                      case first =>
                        by_cases hat : av = t
                        · subst hat
                          by_cases h1 : s.ba q = out av
                          · rw [h1] at cb
                            clear cc h1
                            go_quiet (fail)
                            go_wp2_with fail
                            go_meet
                            exact ⟨true, rfl, fun _ => rfl, H4.out.drewN _⟩
                          · have hne : (s.ba q == out av) = false := by simpa using h1
                            by_cases h2 : s.ce q = out av
                            · rw [h2] at cc
                              clear h1 h2
                              go_quiet (fail)
                              go_wp2_with fail
                              go_meet
                              exact ⟨true, rfl, fun _ => rfl, H4.out.drewN _⟩
                            · have hne2 : (s.ce q == out av) = false := by simpa using h2
                              have H1 := Lib.hid h1
                              have H2 := Lib.hid h2
                              clear h1 h2
                              go_quiet (fail)
                              go_wp2_with fail
                              go_meet
                              exact ⟨false, rfl, fun h => (h.2.elim H1.out H2.out).elim, H4.out.drewN _⟩
                        · have hne : ((av : Int) == (t : Int)) = false := by rw [beq_eq_false_iff_ne]; omega
                          have HAT := Lib.hid hat
                          clear hat cb cc
                          go_quiet (fail)
                          go_wp2_with fail
                          go_meet
                          exact ⟨false, rfl, fun h => (HAT.out (Option.some.inj (HST.out.symm.trans h.1))).elim, H4.out.drewN _⟩
                      case rest =>
                        obtain ⟨y, rfl, hy, hW5⟩ := hcut
                        have cw := ((r_cells hW5.run.p.ref).2 av ha16).2.2
                        have HY := Lib.hid hy
                        have H5 := Lib.hid hW5
                        have hnx := posI_next HOK.out.fine (by rw [HN.out]; exact havn) HST.out
                        rw [hnx] at cw
                        have hstep : ∀ q' k', (q' < q ∧ k' ≤ n ∨ q' = q ∧ k' < k + 1) → Leads s out t q' k' → (x || y) = true := fun q' k' h hl => by
                          rcases h with h | ⟨rfl, h⟩
                          · rw [HJ.out q' k' (.inl h) hl]; rfl
                          · by_cases hkk : k' < k
                            · rw [HJ.out q' k' (.inr ⟨rfl, hkk⟩) hl]; rfl
                            · obtain rfl : k' = k := by omega
                              rw [HY.out hl]; simp
                        have HS2 := Lib.hid hstep
                        clear hy hW5 cb cc cl hnx hstep
                        cases y with
                        | false =>
                          go_wp2_with fail
                          go_roundw
                          case rel => exact ⟨x, k + 1, rfl, rfl, by go_num, by have := HK.out; omega, H5.out, fun q' k' h hl => by have := HS2.out q' k' h hl; simpa using this⟩
                          case measure => have := HK.out; simp [intOf]; omega
                        | true =>
                          go_wp2_with fail
                          go_roundw
                          case rel => exact ⟨true, k + 1, rfl, rfl, by go_num, by have := HK.out; omega, H5.out, fun _ _ _ _ => rfl⟩
                          case measure => have := HK.out; simp [intOf]; omega
                  · have hkf : ¬ (k : Int) ≤ n := by omega
                    have HKF := Lib.hid hkn
                    clear hkn hk
                    go_wp2_with fail
                    go_roundw
                    case rel =>
                      refine ⟨x, q + 1, rfl, by go_num, HQ.out, hW4, fun q' k' h1 h2 h3 => ?_⟩
                      by_cases hqq : q' < q
                      · exact HJ.out q' k' (.inl ⟨hqq, h2⟩) h3
                      · have := HKF.out
                        exact HJ.out q' k' (.inr ⟨by omega, by omega⟩) h3
                    case measure => have := HQ.out; simp [intOf]; omega
              · obtain rfl : n = q := by omega
                have hx : x = true := by
                  obtain ⟨s0, k0, hs0, hk0, ho⟩ := least_origin HOK.out.fine HL.out t (by rw [HN.out]; exact HTL.out)
                  obtain ⟨k1, hk1, _, hk1s⟩ := short_way HOK.out.fine hs0 k0 hk0
                  rw [HN.out] at hs0 hk1
                  refine HI.out s0 k1 hs0 (by omega) ⟨hk1s, ?_⟩
                  rw [← ho]
                  unfold Gs.own
                  omega
                subst hx
                clear HI
                go_wp2_with fail
                refine (ring_c _ b s t hW3.run.p.g HOK.out (by rw [HN.out]; exact HTL.out)).mono ?_; rintro e w8 ⟨v2, rfl, hO2, hb8⟩
                have hW8 := hW3.reads hb8
                have hR8 := own_reads hO2
                clear hW3 hO2 hb8
                have hRR := fun (k : Nat) (hk : k < (ringV (ringF s.n s.wt t)).length) => ring_reads (s := s) HOK.out.fine HL.out (by rw [HN.out]; exact HTL.out) hk
                have hrl : (ringV (ringF s.n s.wt t)).length ≤ 16 := by
                  cases hr : ringF s.n s.wt t with
                  | none => simp [ringV, nL]
                  | some l =>
                    have := (ring_len _ _ _ _ hr).2
                    simp [ringV, nL] at this ⊢
                    have := HN.out
                    omega
                obtain ⟨ib, hib⟩ : ∃ ib, ib = (ringF s.n s.wt t).isSome := ⟨_, rfl⟩
                obtain ⟨rl, hrv⟩ : ∃ rl, rl = ringV (ringF s.n s.wt t) := ⟨_, rfl⟩
                rw [← hib]
                rw [← hib, ← hrv] at hRR
                rw [← hrv] at hrl hR8
                clear hib hrv
                obtain ⟨ad2, cp2, ev2, _⟩ := id hR8
                subst ev2
                obtain ⟨m2, hm2⟩ : ∃ m2, m2 = rl.length := ⟨_, rfl⟩
                rw [← hm2] at hRR hrl hR8 ⊢
                have HM2 := Lib.hid hm2
                have HRR := Lib.hid hRR
                clear hm2 hRR
                go_wp2_with fail
                go_loopw [18] (fun i wx => ∃ k : Nat, i = .int .i64 k ∧ k ≤ m2 ∧ LeastW w wx b r s (.slice (some ⟨g, 0, none⟩) n cp) out ∧ ReadsL wx (.slice ad2 m2 cp2) rl) (fun i _ => m2 - (intOf i).toNat)
                case atStart => exact ⟨0, rfl, Nat.zero_le _, hW8, hR8⟩
                case round =>
                  clear hW8 hR8
                  obtain ⟨k, rfl, hk, hW9, hR9⟩ := hrel
                  by_cases hkm : k < m2
                  · obtain ⟨x, hx1, hx2, hx3, rfl⟩ := HRR.out k hkm
                    obtain ⟨a', cap', e, hrd⟩ := id hR9
                    injection e with e1 e2 e3
                    subst e1 e3
                    obtain ⟨g2, rfl, hg2⟩ := hrd (by rw [← HM2.out]; omega)
                    have cx := hg2 k (by rw [← HM2.out]; exact hkm)
                    rw [hx1] at cx
                    obtain ⟨g', e, hcl⟩ := hW9.cells (by rw [HN.out]; omega)
                    cases e
                    have cl := hcl t (by rw [HN.out]; exact HTL.out)
                    have clx := hcl x hx2
                    rw [hx3] at clx
                    rw [HN.out] at hx2
                    have hx0 : ¬ (x : Int) < 0 := by omega
                    have hxn : decide (n ≤ x) = false := by rw [decide_eq_false_iff_not]; omega
                    have hxi : (x : Int) < n := by omega
                    have hki : (k : Int) < m2 := by omega
                    have HK := Lib.hid hkm
                    have H9 := Lib.hid hW9
                    have HR9 := Lib.hid hR9
                    clear hx1 hx2 hx3 hcl hW9 hR9 hg2 hrd e2 hkm
                    go_wp2_with fail
                    go_quiet (fail)
                    go_wp2_with fail
                    go_roundw
                    case rel => exact ⟨k + 1, by go_num, HK.out, H9.out.drewN _, reads_below HR9.out (below_drewN (Below.refl _ _) _)⟩
                    case measure => have := HK.out; simp [intOf]; omega
                  · obtain rfl : m2 = k := by omega
                    go_wp2_with fail
                    go_roundw
                    case rel => exact ⟨t + 1, by go_num, HTL.out, hW9⟩
                    case measure => have := HTL.out; simp [intOf]; omega
        · obtain rfl : n = t := by omega
          go_wp2_with fail
          refine (known_c _).mono ?_; rintro e w9 ⟨rfl, hb⟩
          have hB9 := (hLW.reads hb).run.below
          go_wp2_with fail
          go_ret
          exact ⟨rfl, hB9⟩
theorem least_walk (w : World) (x : Int) (a : Option Addr) (len cap : Nat) (hs : IsRows w stepSc a len) :
    Calls Try.prog 3 #[.int .i64 x, .slice a len cap] w fun e w' => e = .returned (.bool true) ∧ Below w.heap.size w w' := by
  by_cases h : x < 1 ∨ 16 < x
  · exact least_bad w x a len cap h
  · obtain ⟨n, rfl⟩ : ∃ n : Nat, x = n := ⟨x.toNat, by omega⟩
    exact least_c w n a len cap (by omega) (by omega) hs
theorem least_claim (w : World) (x : Int) (_ : (Lit.int .i64 x).wf = true) (a : Option Addr) (len cap : Nat) (hs : IsRows w stepSc a len) :
    Calls Try.prog 3 #[.int .i64 x, .slice a len cap] w fun e w' => e = .returned (.bool true) ∧ Below w.heap.size w w' := least_walk w x a len cap hs
end Go.Proofs.Ytkjcchepgpbiiaa
