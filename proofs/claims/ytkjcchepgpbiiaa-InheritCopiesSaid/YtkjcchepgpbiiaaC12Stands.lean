/- What stands tells: the program's graph answers as the document's does. Conditions: the two stand alike. -/
import Derived.Test.YtkjcchepgpbiiaaC12Fr
import Derived.Test.YtkjcchepgpbiiaaQuietRound
namespace Go.Proofs.Ytkjcchepgpbiiaa
open Go.RowKit Go.Shelf
attribute [local go_sem] Oper.semAt_some wide_fn wide_round_fn

theorem fill_own {w w1 W : World} {gw gg n : Nat} {cur cs : Array Value} {leave : Int} (h : StW w W gw cur leave) (hb : W.heap[gg]? = some (.cells cs 3 (0, 0))) (h1 : w.heap.size + 1 < gg) (h2 : gw ≠ gg) (k : Nat) (v : Value) (hn : n ≤ cs.size) :
    StW w (W.setCell ⟨gg, k, none⟩ v) gw cur leave ∧ ∃ cs', (W.setCell ⟨gg, k, none⟩ v).heap[gg]? = some (.cells cs' 3 (0, 0)) ∧ n ≤ cs'.size := by
  have u := (Upd.refl hb).setCell k v
  exact ⟨h.upd u h1 h2, _, u.1, by simpa using hn⟩

/-- While the list of those that wait is made. -/
structure LiW (w W : World) (gw : Nat) (cur : Array Value) (leave : Int) (Ds : List Nat) (c lb : Nat) (v u : Value) (l k : List Int) : Prop where
  mw : MkW w W gw cur leave Ds
  it : W.heap[c]? = some (.cells #[v] 33 (0, 0))
  itl : OwnL W (c + 1) v l
  li : W.heap[lb]? = some (.cells #[u] 33 (0, 0))
  lil : OwnL W (lb + 1) u k
  lim : w.heap.size + 1 < lb ∧ gw < lb ∧ (∀ D ∈ Ds, D < lb) ∧ c < lb ∧ ∀ k, v.ownBlock = some k → k < lb
theorem own_keep {W W' : World} {B : Nat} {v : Value} {l : List Int} (h : OwnL W B v l) (hk : ∀ k, v.ownBlock = some k → W'.heap[k]? = W.heap[k]?) : OwnL W' B v l := by
  refine ⟨h.1, ?_⟩
  rcases h.2 with h0 | ⟨g, cap, cur, rfl, hb, hg, hr⟩
  · exact .inl h0
  · exact .inr ⟨g, cap, cur, rfl, hb, (hk g (by simp [Value.ownBlock])).trans hg, hr⟩
theorem LiW.round {w W W3 : World} {gw c lb : Nat} {cur : Array Value} {leave : Int} {Ds : List Nat} {v u v' : Value} {l k : List Int} {x : Int} (h : LiW w W gw cur leave Ds c lb v u l k) (hG3 : (W.alloc (.cells #[.int .i64 x] 3)).grownBy W3 u.ownBlock) (hO3 : OwnL W3 (lb + 1) v' (k ++ [x])) :
    LiW w (W3.setCell ⟨lb, 0, none⟩ v') gw cur leave Ds c lb v v' l (k ++ [x]) := by
  obtain ⟨m1, m2, m3, m4, m5⟩ := h.lim
  obtain ⟨_, r2, r3, r4, _, r6⟩ := list_round h.li (own_below h.lil ((Below.refl W.heap.size W).alloc (Nat.le_refl _) (.cells #[.int .i64 x] 3))) hG3 hO3 (Nat.lt_succ_self _)
  have hs := has_lt h.li
  have hk : ∀ {j : Nat} {o : Obj}, W.heap[j]? = some o → j < lb → (W3.setCell ⟨lb, 0, none⟩ v').heap[j]? = some o := fun ho hj => (r2 _ (by omega) (has_lt ho) (by omega)).trans ho
  refine ⟨⟨⟨h.mw.st.below.trans (r6 _ (by omega) h.mw.st.below.size), hk h.mw.st.bl (by omega), hk h.mw.st.bo (by omega), hk h.mw.st.want m2⟩, fun D hD => hk (h.mw.marks D hD) (m3 D hD), h.mw.lo, h.mw.nd⟩, hk h.it m4, own_keep h.itl (fun j e => ?_), r3, r4, h.lim⟩
  have := m5 j e
  exact r2 j (by omega) (by omega) (by omega)
def lkL (wt : Nat → Int) (q : Bool) (x : Int) (k : Nat) : List Int := match q with
  | true => forTo wt x k
  | false => []
theorem lkL_zero (wt : Nat → Int) (q : Bool) (x : Int) : lkL wt q x 0 = [] := by cases q <;> rfl
theorem lkL_end {s : Gs} {q : Bool} {x : Int} {k : Nat} (hq : inF s x = q) (hk : k ≤ s.n) (hz : (decide (k < s.n) && q) = false) : lkL s.wt q x k = forL s x := by
  cases q with
  | false => unfold forL; rw [hq]; rfl
  | true =>
    have : k = s.n := by simp at hz; omega
    unfold forL
    rw [hq, if_pos rfl, this]
    rfl
theorem keep2_upd {W W' : World} {c kb B : Nat} {v : Value} {l : List Int} {o : Obj} (u : Upd W kb o W') (hc : c < kb) (hcs : c < W.heap.size) (ho : OwnL W B v l) (hv : ∀ k, v.ownBlock = some k → k < kb) : Keep2 c (rowOf v c) W W' := by
  refine ⟨u.2.block c hcs (by simp; omega), u.2.block _ (rowOf_lt ho hcs) ?_⟩
  have : rowOf v c < kb := by
    unfold rowOf
    cases e : v.ownBlock with
    | none => exact hc
    | some k => exact hv k e
  simp
  omega
theorem tu_cell {w W : World} {gw c lb ct T m cap : Nat} {cur : Array Value} {leave : Int} {Ds : List Nat} {v : Value} {a : Option Addr} {l : List Int} (h : TuW w W gw cur leave Ds c lb ct T v (.slice a m cap) l) {k : Nat} (hk : k < l.length) : ∃ g, a = some ⟨g, 0, none⟩ ∧ W.cell? ⟨g, k, none⟩ = some (.int .i64 (l.getD k 0)) := by
  obtain ⟨a', cap', e, hr⟩ := own_reads h.lil
  injection e with e1 e2 e3
  subst e1
  obtain ⟨g, rfl, hc⟩ := hr (by omega)
  exact ⟨g, rfl, hc k hk⟩
theorem pre_step {L pre : List Int} {i : Int} (h : pre ++ [i] <+: L) : pre.length < L.length ∧ L.getD pre.length 0 = i := by
  obtain ⟨t, rfl⟩ := h
  constructor
  · simp
  · rw [List.getD_eq_getElem?_getD, List.append_assoc, List.getElem?_append_right (Nat.le_refl _)]
    simp
theorem want_at {w W : World} {gw n t : Nat} {cur : Array Value} {leave : Int} {out : Nat → Int} (h : StW w W gw cur leave) (hT : cur.toList.take n = (outL out n).map (.int .i64)) (ht : t < n) : W.cell? ⟨gw, t, none⟩ = some (.int .i64 (out t)) := by
  refine has_cell t h.want ?_
  have e := congrArg (fun l => l[t]?) hT
  simp only [List.getElem?_take, if_pos ht, List.getElem?_map, outL, List.getElem?_range ht, Option.map_some, Array.getElem?_toList] at e
  exact e

set_option maxRecDepth 100000 in
set_option maxHeartbeats 4000000 in
theorem stands_c (w : World) (b r : Nat) (s : Gs) (leave : Int) (hp : Pair w b r s) :
    Calls Try.prog 14 #[.pointer (some ⟨b, 0, none⟩), .pointer (some ⟨r, 0, none⟩), .int .i64 leave] w fun e w' => e = .returned (.bool true) ∧ Below w.heap.size w w' := by
  have ok := hp.ok
  have n1 := ok.n1
  have n2 := ok.n2
  refine calls_of_marks 4 Try.func14 rfl ?_
  simp only [Try.ntmps14, List.size_toArray, List.length_cons, List.length_nil, Nat.reduceAdd, Nat.reduceSub, Array.replicate_succ, Array.replicate_zero, List.push_toArray, List.append_toArray, List.nil_append, List.cons_append]
  refine wpIn_wide.2 ?_
  go_upto_region 1 with fail
  refine world_wp (fun W => Below w.heap.size w W ∧ W.heap[w.heap.size]? = some (.cells #[.int .i64 leave] 3 (0, 0)) ∧ W.heap[w.heap.size + 1]? = some (.cells #[.bool false] 4 (0, 0))) ⟨((Below.refl _ w).alloc (Nat.le_refl _) _).alloc (by simp) _, below_alloc_has (heap_alloc_new w _), ?_⟩ ?_
  · have := heap_alloc_new (w.alloc (.cells #[.int .i64 leave] 3)) (.cells #[.bool false] 4)
    rwa [World.size_alloc] at this
  rintro W0 ⟨hB0, hl0, ho0⟩
  have HP := Lib.hid hp
  clear hp
  have hz0 := has_lt ho0
  go_wp2_with fail
  refine (rall_c W0 r s (below_has hB0 HP.out.ref) ok).mono ?_; rintro e w1 ⟨vw, out, rfl, hOw, hL, hb1⟩
  obtain ⟨gw, capw, rfl, hgw, hgw1, cur, hcur, htake⟩ := own_frozen hOw (by rw [outL_length]; exact n1)
  rw [outL_length] at htake ⊢
  have HT := Lib.hid htake
  clear htake
  go_wp2_with fail
  refine (gall_c w1 b s (below_has (hb1.mono (by omega)) (below_has hB0 HP.out.g)) ok).mono ?_; rintro e w2 ⟨vg, out2, rfl, hOg, hL2, hb2⟩
  obtain ⟨gg, capg, rfl, hgg, hgg1, cug, hcug, htg⟩ := own_frozen hOg (by rw [outL_length]; exact n1)
  have hsz : s.n ≤ cug.size := by
    have := congrArg List.length htg
    rw [outL_length, List.length_map, outL_length, List.length_take, Array.length_toList] at this
    omega
  rw [outL_length] at htg ⊢
  clear htg
  have hS : StW w w2 gw cur leave := ⟨hB0.trans ((hb1.mono hB0.size).trans (hb2.mono (Nat.le_trans hB0.size hb1.size))), below_has hb2 (below_has hb1 hl0), below_has hb2 (below_has hb1 ho0), below_has hb2 hcur⟩
  have hRg := own_reads hOg
  have hRw := reads_below (own_reads hOw) hb2
  have heq : decide (outL out2 s.n = outL out s.n) = true := by
    rw [decide_eq_true_eq]
    exact outL_congr (fun k hk => least_unique hL2 hL k hk)
  rw [outL_length] at hRg hRw
  have HL := Lib.hid hL
  clear hB0 hl0 ho0 hOw hOg hcur hL hL2
  go_wp2_with fail
  refine (same_c w2 _ _ _ _ hRg hRw (by rw [outL_length]; omega) (by rw [outL_length]; omega) heq).mono ?_; rintro e w3 ⟨rfl, hb3⟩
  have hS3 := hS.reads hb3
  have hc3 := below_has hb3 hcug
  have hg3 : w.heap.size + 1 < gw ∧ gw ≠ gg ∧ w.heap.size + 1 < gg := by
    refine ⟨by omega, ?_, ?_⟩
    · have := hb1.size; omega
    · have := hb1.size; omega
  clear hS hcug hb1 hb2 hb3 hRg hRw heq hgw hgw1 hgg hgg1 hz0
  go_wp2_with fail
  go_loopw [9] (fun i wx => ∃ k : Nat, i = .int .i64 k ∧ k ≤ s.n ∧ StW w wx gw cur leave ∧ ∃ cs, wx.heap[gg]? = some (.cells cs 3 (0, 0)) ∧ s.n ≤ cs.size) (fun i _ => s.n - (intOf i).toNat)
  case atStart => exact ⟨0, rfl, Nat.zero_le _, hS3, cug, hc3, hsz⟩
  case round =>
    clear hS3 hc3 hsz
    obtain ⟨k, rfl, hk, hS, cs, hcs, hsz⟩ := hrel
    by_cases hlt : k < s.n
    · obtain ⟨v, hv⟩ : ∃ v, cs[k]? = some v := ⟨_, Array.getElem?_eq_getElem (by omega)⟩
      have c1 := has_cell k hcs hv
      have fz := has_free hcs
      have hf := fill_own (w1 := w) hS hcs hg3.2.2 hg3.2.1 k (.int .i64 99) hsz
      have HF := Lib.hid hf
      have HK := Lib.hid hlt
      have hki : (k : Int) < s.n := by omega
      clear hf hlt hv hcs
      go_wp2_with fail
      go_roundw
      case rel => exact ⟨k + 1, by go_num, HK.out, HF.out⟩
      case measure => have := HK.out; simp [intOf]; omega
    · obtain rfl : k = s.n := by omega
      clear hcs
      go_wp2_with fail
      refine wp_loop (fun a' W' => ∃ (T : Nat) (x : Int) (Ds : List Nat), a'.defers = Ds.map mkM ∧ Fr1 a'.tmps w b r gw s.n capw x ∧ T ≤ 18 ∧ x = (T : Int) - 1 ∧ Ds.length = 2 * T ∧ MkW w W' gw cur leave Ds) (fun a' _ => 36 - a'.defers.length) ?start ?round
      case start => exact ⟨0, -1, [], rfl, ⟨rfl, rfl, rfl, rfl, rfl, rfl, rfl⟩, by omega, rfl, rfl, ⟨hS, (fun D hD => by cases hD), (fun D hD => by cases hD), List.nodup_nil⟩⟩
      case round =>
        clear hS hsz
        rintro ⟨A5, _⟩ W5 ⟨T, x, Ds, rfl, hF, hT, hx, hDs, hM⟩
        obtain ⟨vs, rfl⟩ := hF.lit
        clear hF
        by_cases hT18 : T = 18
        · subst hT18
          obtain rfl : x = 17 := by omega
          have f8 := has_free hM.st.bo
          have c8 := has_cell 0 hM.st.bo rfl
          have u8 := (Upd.refl hM.st.bo).setCell 0 (.bool true)
          have bl := hM.st.below.trans (u8.below (by omega) hM.st.below.size)
          have r8 := u8.1
          simp only [List.setIfInBounds_toArray, List.set_cons_zero] at r8
          have hm8 : ∀ D ∈ Ds, (W5.setCell ⟨w.heap.size + 1, 0, none⟩ (.bool true)).heap[D]? = some (.deferred (some [])) := fun D hD => u8.other (hM.marks D hD) (by have := hM.lo D hD; omega)
          have HM := Lib.hid hM
          clear hM hx hT hDs u8
          go_wp2_with fail
          refine leaves_marks _ (by simp) Ds _ hm8 HM.out.nd (fun D hD => by have := HM.out.lo D hD; omega) bl ?_
          intro W9 hB9 hk9
          have q1 := has_cell (w := W9) (b := w.heap.size + 1) 0 (v := .bool true) ((hk9 _ (fun h => by have := HM.out.lo _ h; omega)).trans r8) rfl
          refine ⟨.bool true, ?_, rfl, hB9⟩
          simp [results, Try.f14, go_sem, q1]
        · have hT17 : T < 18 := by omega
          have hxr : -1 ≤ x ∧ x ≤ 16 := by omega
          have hx17 : x ≤ 16 := hxr.2
          have HX := Lib.hid hx
          clear hx hT18 hT
          obtain ⟨q, hq⟩ : ∃ q, inF s x = q := ⟨_, rfl⟩
          obtain ⟨m, hm⟩ : ∃ m, m = (ringL s x).length := ⟨_, rfl⟩
          have hmn := ringL_length s x
          rw [← hm] at hmn
          obtain ⟨y, hy⟩ : ∃ y, decide (0 < m) = y := ⟨_, rfl⟩
          have HQ := Lib.hid hq
          have HY := Lib.hid hy
          have HMm := Lib.hid hm
          clear hq hy hm
          go_upto_region 14 with (first
            | (go_at_call 18; refine (of_u _ b s x (HP.out.reads hM.st.below).g ok HQ.out out HL.out).mono ?_; rintro e w6 ⟨z, rfl, hz, hb6⟩; have HZ := Lib.hid hz; clear hz)
            | (go_at_call 13; refine (ring_u (y := y) _ b s x (HP.out.reads (hM.reads hb6).st.below).g ok (by rw [← HMm.out]; exact HY.out)).mono ?_; rintro e w7 ⟨v13, rfl, hO7, hb7⟩))
          have hM7 := (hM.reads hb6).reads hb7
          have hz7 := (hM.reads hb6).st.below.size
          obtain ⟨B13, hB13⟩ : ∃ B, B = w6.heap.size := ⟨_, rfl⟩
          rw [← hB13] at hO7 hz7
          clear hB13
          clear hM hb6 hb7
          obtain ⟨a13, c13, rfl, _⟩ := own_reads hO7
          rw [← HMm.out] at hO7 ⊢
          go_cut [78] from 39 to 169 (fun s78 wx => s78 = .bool false ∧ MkW w wx gw cur leave Ds ∧ OwnL wx B13 (.slice a13 m c13) (ringL s x))
          case first =>
            cases q with
            | false =>
              obtain rfl : z = 0 := HZ.out
              have hrin := rin_c w7 r s x (HP.out.reads hM7.st.below).ref HQ.out
              have hres := And.intro hM7 hO7
              have HRS := Lib.hid hres
              have HRN := Lib.hid hrin
              clear hM7 hO7 hres hrin
              go_wp2_with (go_at_call 23; refine (HRN.out).mono ?_; rintro e w' ⟨rfl, rfl⟩)
              go_meet
              exact ⟨rfl, HRS.out⟩
            | true =>
              obtain ⟨t, rfl, ht⟩ := inF_nat HQ.out
              obtain rfl : z = out t := HZ.out
              have hrin := rin_c w7 r s t (HP.out.reads hM7.st.below).ref HQ.out
              have cw := want_at hM7.st HT.out ht
              have hti : (t : Int) < s.n := by omega
              have hres := And.intro hM7 hO7
              have HRS := Lib.hid hres
              have HRN := Lib.hid hrin
              clear hM7 hO7 hres hrin
              go_wp2_with (go_at_call 23; refine (HRN.out).mono ?_; rintro e w' ⟨rfl, rfl⟩)
              go_meet
              exact ⟨rfl, HRS.out⟩
          case rest =>
            obtain ⟨rfl, hM, hO⟩ := hcut
            clear hM7 hO7 HZ
            go_upto_if 80 with fail
            go_cut [15] from 39 to 169 (fun s15 wx => MkW w wx gw cur leave Ds)
            case first =>
              cases q with
              | false =>
                have hr0 := ringL_out HQ.out
                obtain rfl : m = 0 := by rw [HMm.out, hr0]; rfl
                obtain rfl : y = false := by rw [← HY.out]; rfl
                have HRS := Lib.hid hM
                clear hM hO hr0
                go_wp2_with fail
                go_meet
                exact HRS.out
              | true =>
                obtain ⟨t, rfl, ht⟩ := inF_nat HQ.out
                go_upto_region 20 with (go_at_call 28; refine (rring_c _ r s t (HP.out.reads hM.st.below).ref ok ht).mono ?_; rintro e w8 ⟨v15, rfl, hO8, hb8⟩)
                rw [← ringL_in HQ.out] at hO8
                have hM8 := hM.reads hb8
                have hR13 := own_reads (own_below hO hb8)
                have hR15 := own_reads hO8
                obtain ⟨a15, c15, rfl, _⟩ := own_reads hO8
                rw [← HMm.out] at hR15 ⊢
                have hm16 : (ringL s t).length ≤ 1000 := by rw [← HMm.out]; omega
                have HRS := Lib.hid hM8
                have HR13 := Lib.hid hR13
                have HR15 := Lib.hid hR15
                clear hM hO hb8 hO8 hM8 hR13 hR15
                cases y with
                | true =>
                  have hyd : 0 < m := of_decide_eq_true HY.out
                  go_wp2_with (go_at_call 22; refine (same_c _ _ _ _ _ HR13.out HR15.out hm16 hm16 (decide_eq_true rfl)).mono ?_; rintro e w9 ⟨rfl, hb9⟩)
                  go_meet
                  exact HRS.out.reads hb9
                | false =>
                  have hyd : ¬ 0 < m := of_decide_eq_false HY.out
                  go_wp2_with (go_at_call 22; refine (same_c _ _ _ _ _ HR13.out HR15.out hm16 hm16 (decide_eq_true rfl)).mono ?_; rintro e w9 ⟨rfl, hb9⟩)
                  go_meet
                  exact HRS.out.reads hb9
            case rest =>
              clear hM hO
              have hyx : MkW w wc gw cur leave Ds := hcut
              clear hcut
              go_upto_region 23 with (go_at_call 21; refine (for_c wc b s x (HP.out.reads hyx.st.below).g ok).mono ?_; rintro e w10 ⟨v, rfl, hX, hOx, hb10, hz10⟩)
              have hM10 := hyx.reads hb10
              have hcw := hyx.st.below.size
              obtain ⟨c, hc⟩ : ∃ c, wc.heap.size = c := ⟨_, rfl⟩
              rw [hc] at hX hOx hz10 hcw ⊢
              clear hyx hc hb10
              have rf := run_eq_fn (.pointer (some ⟨c, 0, none⟩))
              go_upto_region 26 with fail
              have HX2 := Lib.hid hX
              obtain ⟨lb, hlb⟩ : ∃ lb, w10.heap.size = lb := ⟨_, rfl⟩
              have hlim : w.heap.size + 1 < lb ∧ gw < lb ∧ (∀ D ∈ Ds, D < lb) ∧ c < lb ∧ ∀ k, v.ownBlock = some k → k < lb := by rw [← hlb]; exact ⟨has_lt hM10.st.bo, has_lt hM10.st.want, fun D hD => has_lt (hM10.marks D hD), has_lt hX, fun k e => (own_block hOx e).2⟩
              have hM11 := hM10.reads ((Below.refl _ w10).alloc (Nat.le_refl _) (.cells #[.slice none 0 0] 33))
              have hX11 := below_alloc_has (o := .cells #[.slice none 0 0] 33) hX
              have hO11 := own_below hOx ((Below.refl _ w10).alloc (Nat.le_refl _) (.cells #[.slice none 0 0] 33))
              have hL11 := heap_alloc_new w10 (.cells #[.slice none 0 0] 33)
              rw [hlb] at hL11 hz10 ⊢
              refine world_wp (fun W => LiW w W gw cur leave Ds c lb v (.slice none 0 0) (forL s x) []) ⟨hM11, hX11, hO11, hL11, own_nil _ _, hlim⟩ ?_
              clear hM10 hX hOx hM11 hX11 hO11 hL11 hlb rf hlim
              intro W11 hL11
              go_wp2_with fail
              go_loopw [18] (fun i wx => ∃ (k : Nat) (u : Value), i = .int .i64 k ∧ k ≤ s.n ∧ LiW w wx gw cur leave Ds c lb v u (forL s x) (lkL s.wt q x k)) (fun i _ => s.n - (intOf i).toNat)
              case atStart => exact ⟨0, _, rfl, Nat.zero_le _, by rw [lkL_zero]; exact hL11⟩
              case round =>
                clear hL11
                obtain ⟨k, u, rfl, hk, hLi⟩ := hrel
                have c0 := (r_cells (HP.out.reads hLi.mw.st.below).ref).1
                obtain ⟨z3, hz3⟩ : ∃ z3, (decide (k < s.n) && q) = z3 := ⟨_, rfl⟩
                have HZ3 := Lib.hid hz3
                clear hz3
                have HLi := Lib.hid hLi
                clear hLi
                go_upto_region 27 with fail
                go_cut [114] from 106 to 128 (fun s114 wx => s114 = .bool z3 ∧ wx = wr)
                case first =>
                  by_cases hlt : (k : Int) < s.n
                  · obtain rfl : z3 = q := by rw [← HZ3.out, decide_eq_true (show k < s.n by omega)]; rfl
                    go_wp2_with fail
                    go_meet
                    exact ⟨rfl, rfl⟩
                  · obtain rfl : z3 = false := by rw [← HZ3.out, decide_eq_false (show ¬ k < s.n by omega)]; rfl
                    go_wp2_with fail
                    go_meet
                    exact ⟨rfl, rfl⟩
                case rest =>
                  obtain ⟨rfl, rfl⟩ := hcut
                  cases z3 with
                  | true =>
                    have hz3 := HZ3.out
                    rw [Bool.and_eq_true, decide_eq_true_eq] at hz3
                    obtain ⟨hlt, rfl⟩ := hz3
                    clear HZ3
                    have hk16 : k < 16 := by omega
                    have cw := ((r_cells (HP.out.reads HLi.out.mw.st.below).ref).2 k hk16).2.2
                    have hki : (k : Int) < 16 := by omega
                    have HK := Lib.hid hlt
                    have cx := has_cell 0 HLi.out.li rfl
                    clear hlt
                    by_cases hw : s.wt k = x
                    · have hO1 := own_below HLi.out.lil ((Below.refl wc.heap.size wc).alloc (Nat.le_refl _) (.cells #[.int .i64 k] 3))
                      have hX1 := below_alloc_has (o := .cells #[.int .i64 k] 3) HLi.out.li
                      have hlw := has_lt HLi.out.li
                      have hl16 : (lkL s.wt true x k).length ≤ k := forTo_length s.wt x k
                      have HW := Lib.hid hw
                      rw [hw] at cw
                      clear hw
                      go_upto_region 28 with (refine app_int (base := lb + 1) rfl (.tmp 125) (.tmp 127) rfl u (lkL s.wt true x k) rfl hO1 wc.heap.size rfl (k : Int) (has_cell 0 (heap_alloc_new _ _) rfl) (by omega) (by simp; omega) ?_; intro v2 W2 hO2 hG2; obtain ⟨ad2, cap2, rfl, _⟩ := own_reads hO2; have hX2 := block_kept hO1 hG2 hX1 (by omega); have cx2 := has_cell 0 hX2 rfl; have fx2 := has_free hX2)
                      have hL2 := HLi.out.round hG2 hO2
                      have hyes : lkL s.wt true x k ++ [(k : Int)] = lkL s.wt true x (k + 1) := (forTo_yes HW.out).symm
                      have hlen : (lkL s.wt true x (k + 1)).length = (lkL s.wt true x k).length + 1 := by rw [← hyes]; simp
                      rw [hyes] at hL2
                      rw [← hlen]
                      clear hyes hlen
                      refine world_wp (fun W => LiW w W gw cur leave Ds c lb v (.slice ad2 (lkL s.wt true x (k + 1)).length cap2) (forL s x) (lkL s.wt true x (k + 1))) hL2 ?_
                      clear hO1 hX1 hlw hl16 hO2 hG2 hX2 cx2 fx2 hL2 cx cw c0
                      intro W3 hL3
                      go_wp2_with fail
                      go_roundw
                      case rel => exact ⟨k + 1, _, by go_num, HK.out, hL3⟩
                      case measure => have := HK.out; simp [intOf]; omega
                    · have hno : lkL s.wt true x k = lkL s.wt true x (k + 1) := (forTo_no hw).symm
                      obtain ⟨y3, hy3⟩ : ∃ y3, y3 = s.wt k := ⟨_, rfl⟩
                      rw [← hy3] at cw hw
                      have hne : (y3 == x) = false := by rw [beq_eq_false_iff_ne]; exact hw
                      have hL3 := HLi.out
                      rw [hno] at hL3
                      have HL3 := Lib.hid hL3
                      clear hno hy3 hw hL3
                      go_wp2_with fail
                      go_roundw
                      case rel => exact ⟨k + 1, _, by go_num, HK.out, HL3.out⟩
                      case measure => have := HK.out; simp [intOf]; omega
                  | false =>
                    have hL4 := HLi.out
                    rw [lkL_end HQ.out hk HZ3.out] at hL4
                    clear HLi HZ3 c0 hk
                    go_wp2_with fail
                    have hT0 : TuW w (wc.alloc (.cells #[.int .i64 0] 3)) gw cur leave Ds c lb wc.heap.size 0 v u (forL s x) := by
                      have hb : Below wc.heap.size wc (wc.alloc (.cells #[.int .i64 0] 3)) := (Below.refl _ _).alloc (Nat.le_refl _) _
                      exact ⟨hL4.mw.reads hb, below_has hb hL4.it, own_below hL4.itl hb, below_has hb hL4.li, own_below hL4.lil hb, heap_alloc_new _ _⟩
                    have hL16 : (forL s x).length ≤ 16 := Nat.le_trans (forL_length s x) n2
                    obtain ⟨au, capu, rfl, _⟩ := own_reads hL4.lil
                    obtain ⟨L, hLL⟩ : ∃ L, L = forL s x := ⟨_, rfl⟩
                    rw [← hLL] at hT0 hL16
                    clear hL4 hLL HQ
                    refine wp_loop (fun a' W' => ∃ (T2 ct : Nat) (Ds2 : List Nat), a'.defers = Ds2.map mkM ∧ Fr2 a'.tmps w b r gw s.n capw x c lb ct ∧ T2 ≤ 2 ∧ Ds2.length = Ds.length + T2 ∧ TuW w W' gw cur leave Ds2 c lb ct T2 v (.slice au L.length capu) L) (fun a' _ => Ds.length + 2 - a'.defers.length) ?start2 ?round2
                    case start2 => exact ⟨0, _, Ds, rfl, ⟨rfl, rfl, rfl, rfl, rfl, rfl, rfl, rfl, rfl, rfl⟩, by omega, rfl, hT0⟩
                    case round2 =>
                      clear hT0
                      rintro ⟨A6, _⟩ W6 ⟨T2, ct, Ds2, rfl, hF, hT2, hD2, hW⟩
                      obtain ⟨vs2, rfl⟩ := hF.lit
                      clear hF
                      have gt := has_cell 0 hW.ct rfl
                      by_cases h2 : T2 = 2
                      · subst h2
                        have HW := Lib.hid hW.mw
                        clear hW
                        go_wp2_with fail
                        have hx' := HX.out
                        exact ⟨⟨T + 1, x + 1, Ds2, rfl, ⟨rfl, rfl, rfl, rfl, rfl, rfl, rfl⟩, by omega, by omega, by omega, HW.out⟩, by simp [hD2, hDs]; omega⟩
                      · have hT1 : T2 = 0 ∨ T2 = 1 := by omega
                        rcases hT1 with rfl | rfl
                        · go_wp2_with fail
                          have hbo := has_lt hW.mw.st.bo
                          have hlm0 := hW.lim
                          refine world_wp (fun W => TuW w W gw cur leave Ds2 c lb ct 0 v (.slice au L.length capu) L ∧ W.heap[W6.heap.size]? = some (.cells #[.int .i64 0] 3 (0, 0)))
                            ⟨hW.reads ((Below.refl _ _).alloc (Nat.le_refl _) _), heap_alloc_new _ _⟩ ?_
                          rintro W7 ⟨hW7, hk⟩
                          obtain ⟨kb, hkb⟩ : ∃ kb, W6.heap.size = kb := ⟨_, rfl⟩
                          rw [hkb] at hk hbo hlm0 ⊢
                          have hkl := has_lt hk
                          have hcl := has_lt hW7.it
                          clear hW gt hkb
                          have HLM := Lib.hid hW7.lim
                          have HL0 := Lib.hid hlm0
                          have hctk := hlm0.ct
                          have hlbk := hlm0.lb
                          clear hlm0
                          refine (wpIn_wide (n := 4)).1 ?_
                          refine named ?_
                          intro fa hfa
                          refine wpIn_rangeFunc_ownF rfl (by decide) (gf := 31) (lb := #[.pointer (some ⟨c, 0, none⟩)]) (by rw [hfa]; rfl) trivial enters31
                            (for_stops 3 (by decide) c v L W7 ⟨hW7.it, own_reads hW7.itl⟩ hL16) keep2_t (keep2_b hcl (rowOf_lt hW7.itl hcl)) (Below.refl _ _) (fun _ => rfl)
                            (fun (pre : List Int) (W : World) => TuW w W gw cur leave Ds2 c lb ct 0 v (.slice au L.length capu) L ∧ W.heap[kb]? = some (.cells #[.int .i64 (pre.length : Nat)] 3 (0, 0)))
                            (fun (k : Code) (pre : List Int) (W : World) => (k = .ret ∧ ¬ pre <+: L) ∨ (k = .exit 8 ∧ (0 : Nat) = 0 ∧ TuW w W gw cur leave Ds2 c lb ct 0 v (.slice au L.length capu) L ∧ W.heap[kb]? = some (.cells #[.int .i64 leave] 3 (0, 0))))
                            ((tu_own HLM.out (by omega)).and (own_has hkl _))
                            (fun k s' X Y row h hg hr => h.elim .inl fun h => .inr ⟨h.1, h.2.1, tu_own (β := Unit) HLM.out (by omega) () X Y row h.2.2.1 hg hr, own_at hkl h.2.2.2 hg hr⟩)
                            ⟨hW7, hk⟩
                            (fun i => { tmps := (fa.tmps.setIfInBounds 134 (.int .i64 i)).setIfInBounds 21 (.int .i64 i), defers := [] })
                            ?assign ?body ?done ?stop
                          case assign =>
                            intro l i W K hK
                            subst hfa
                            simp only [encI, zip1, fold1, List.setIfInBounds_toArray, List.set_cons_succ, List.set_cons_zero]
                            simp only [List.setIfInBounds_toArray, List.set_cons_succ, List.set_cons_zero] at hK
                            gi_wp2
                            exact hK
                          case body =>
                            rintro l pre i W ⟨hT7, hk7⟩ hlen
                            subst hfa
                            simp only [List.setIfInBounds_toArray, List.set_cons_succ, List.set_cons_zero]
                            have gl := has_cell 0 hT7.mw.st.bl rfl
                            have gt := has_cell 0 hT7.ct rfl
                            have gk := has_cell 0 hk7 rfl
                            have gu := has_cell 0 hT7.li rfl
                            have f1 := has_free hT7.mw.st.bo
                            have f2 := has_free hk7
                            have c6 := has_cell 0 hT7.mw.st.bo rfl
                            by_cases b1 : pre.length < L.length
                            · obtain ⟨g, rfl, hg⟩ := tu_cell hT7 b1
                              obtain ⟨y, hy⟩ : ∃ y, y = L.getD pre.length 0 := ⟨_, rfl⟩
                              rw [← hy] at hg
                              have HYY := Lib.hid hy
                              have b1i : (pre.length : Int) < L.length := by omega
                              clear hy
                              by_cases b3 : y = i
                              · subst b3
                                have U1 := (Upd.refl hk7).setCell 0 (.int .i64 ((pre.length : Int) + 1))
                                have k1 := U1.1
                                simp only [List.setIfInBounds_toArray, List.set_cons_zero] at k1
                                have hT8 := hT7.upd HL0.out U1 (Nat.le_refl _) (by omega)
                                have hK2 := keep2_upd U1 HL0.out.c (has_lt hT7.it) hT7.itl HL0.out.v
                                have HK2 := Lib.hid hK2
                                clear hT7 U1 hK2
                                by_cases b4 : (pre.length : Int) + 1 = leave
                                · have b4' : ((pre.length : Int) + 1 == leave) = true := by simpa using b4
                                  have B4 := Lib.hid b4
                                  clear b4
                                  gi_wp2
                                  exact ⟨KeepsOthers.setCell _ _ _, .inr ⟨rfl, by simp, hT8, k1.trans (by rw [B4.out])⟩⟩
                                · have b4' : ((pre.length : Int) + 1 == leave) = false := by simpa using b4
                                  clear b4
                                  gi_wp2
                                  exact ⟨KeepsOthers.setCell _ _ _, HK2.out, hT8, by simpa using k1⟩
                              · have B3 := Lib.hid b3
                                have hne : (y != i) = true := by simpa using b3
                                clear b3
                                gi_wp2
                                exact ⟨KeepsOthers.setCell _ _ _, .inl ⟨rfl, fun h => B3.out (HYY.out.trans (pre_step h).2)⟩⟩
                            · have hge : decide ((pre.length : Int) ≥ (L.length : Int)) = true := by simp; omega
                              have hge2 : L.length ≤ pre.length := by omega
                              gi_wp2
                              exact ⟨KeepsOthers.setCell _ _ _, .inl ⟨rfl, fun h => b1 (pre_step h).1⟩⟩
                          case done =>
                            rintro D ys W hD rfl ⟨hT7, hk7⟩ hK
                            subst hfa
                            have gl := has_cell 0 hT7.mw.st.bl rfl
                            have gt := has_cell 0 hT7.ct rfl
                            have gk := has_cell 0 hk7 rfl
                            have gu := has_cell 0 hT7.li rfl
                            go_wp2_with fail
                            first | exact ⟨⟨1, _, D :: Ds2, rfl, ⟨rfl, rfl, rfl, rfl, rfl, rfl, rfl, rfl, rfl, rfl⟩, by omega, by (simp [hD2]) <;> omega, hT7.next hK (by omega) (fun D' hD' => by have := HLM.out.ds D' hD'; omega)⟩, by (simp [hD2]) <;> omega⟩ | exact ⟨1, _, D :: Ds2, rfl, ⟨rfl, rfl, rfl, rfl, rfl, rfl, rfl, rfl, rfl, rfl⟩, by omega, by (simp [hD2]) <;> omega, hT7.next hK (by omega) (fun D' hD' => by have := HLM.out.ds D' hD'; omega)⟩
                          case stop =>
                            rintro D k pre W hD hpre (⟨rfl, hn⟩ | ⟨rfl, ht0, hT7, hk7⟩) hK
                            · exact absurd hpre hn
                            · subst hfa
                              refine wpIn_wide.2 ?_
                              have gl := has_cell 0 hT7.mw.st.bl rfl
                              have gt := has_cell 0 hT7.ct rfl
                              have gk := has_cell 0 hk7 rfl
                              have gu := has_cell 0 hT7.li rfl
                              by_cases hlm : leave = (L.length : Int)
                              · subst hlm
                                go_wp2_with fail
                                first | exact ⟨⟨1, _, D :: Ds2, rfl, ⟨rfl, rfl, rfl, rfl, rfl, rfl, rfl, rfl, rfl, rfl⟩, by omega, by (simp [hD2]) <;> omega, hT7.next hK (by omega) (fun D' hD' => by have := HLM.out.ds D' hD'; omega)⟩, by (simp [hD2]) <;> omega⟩ | exact ⟨1, _, D :: Ds2, rfl, ⟨rfl, rfl, rfl, rfl, rfl, rfl, rfl, rfl, rfl, rfl⟩, by omega, by (simp [hD2]) <;> omega, hT7.next hK (by omega) (fun D' hD' => by have := HLM.out.ds D' hD'; omega)⟩
                              · have b5 : (leave != (L.length : Int)) = true := by simpa using hlm
                                have b6 : (leave == (L.length : Int)) = false := by simpa using hlm
                                go_wp2_with fail
                                first | exact ⟨⟨1, _, D :: Ds2, rfl, ⟨rfl, rfl, rfl, rfl, rfl, rfl, rfl, rfl, rfl, rfl⟩, by omega, by (simp [hD2]) <;> omega, hT7.next hK (by omega) (fun D' hD' => by have := HLM.out.ds D' hD'; omega)⟩, by (simp [hD2]) <;> omega⟩ | exact ⟨1, _, D :: Ds2, rfl, ⟨rfl, rfl, rfl, rfl, rfl, rfl, rfl, rfl, rfl, rfl⟩, by omega, by (simp [hD2]) <;> omega, hT7.next hK (by omega) (fun D' hD' => by have := HLM.out.ds D' hD'; omega)⟩
                        · go_wp2_with fail
                          have hbo := has_lt hW.mw.st.bo
                          have hlm0 := hW.lim
                          refine world_wp (fun W => TuW w W gw cur leave Ds2 c lb ct 1 v (.slice au L.length capu) L ∧ W.heap[W6.heap.size]? = some (.cells #[.int .i64 0] 3 (0, 0)))
                            ⟨hW.reads ((Below.refl _ _).alloc (Nat.le_refl _) _), heap_alloc_new _ _⟩ ?_
                          rintro W7 ⟨hW7, hk⟩
                          obtain ⟨kb, hkb⟩ : ∃ kb, W6.heap.size = kb := ⟨_, rfl⟩
                          rw [hkb] at hk hbo hlm0 ⊢
                          have hkl := has_lt hk
                          have hcl := has_lt hW7.it
                          clear hW gt hkb
                          have HLM := Lib.hid hW7.lim
                          have HL0 := Lib.hid hlm0
                          have hctk := hlm0.ct
                          have hlbk := hlm0.lb
                          clear hlm0
                          refine (wpIn_wide (n := 4)).1 ?_
                          refine named ?_
                          intro fa hfa
                          refine wpIn_rangeFunc_ownF rfl (by decide) (gf := 31) (lb := #[.pointer (some ⟨c, 0, none⟩)]) (by rw [hfa]; rfl) trivial enters31
                            (for_stops 3 (by decide) c v L W7 ⟨hW7.it, own_reads hW7.itl⟩ hL16) keep2_t (keep2_b hcl (rowOf_lt hW7.itl hcl)) (Below.refl _ _) (fun _ => rfl)
                            (fun (pre : List Int) (W : World) => TuW w W gw cur leave Ds2 c lb ct 1 v (.slice au L.length capu) L ∧ W.heap[kb]? = some (.cells #[.int .i64 (pre.length : Nat)] 3 (0, 0)))
                            (fun (k : Code) (pre : List Int) (W : World) => (k = .ret ∧ ¬ pre <+: L) ∨ (k = .exit 8 ∧ (1 : Nat) = 0 ∧ TuW w W gw cur leave Ds2 c lb ct 1 v (.slice au L.length capu) L ∧ W.heap[kb]? = some (.cells #[.int .i64 leave] 3 (0, 0))))
                            ((tu_own HLM.out (by omega)).and (own_has hkl _))
                            (fun k s' X Y row h hg hr => h.elim .inl fun h => .inr ⟨h.1, h.2.1, tu_own (β := Unit) HLM.out (by omega) () X Y row h.2.2.1 hg hr, own_at hkl h.2.2.2 hg hr⟩)
                            ⟨hW7, hk⟩
                            (fun i => { tmps := (fa.tmps.setIfInBounds 134 (.int .i64 i)).setIfInBounds 21 (.int .i64 i), defers := [] })
                            ?assign ?body ?done ?stop
                          case assign =>
                            intro l i W K hK
                            subst hfa
                            simp only [encI, zip1, fold1, List.setIfInBounds_toArray, List.set_cons_succ, List.set_cons_zero]
                            simp only [List.setIfInBounds_toArray, List.set_cons_succ, List.set_cons_zero] at hK
                            gi_wp2
                            exact hK
                          case body =>
                            rintro l pre i W ⟨hT7, hk7⟩ hlen
                            subst hfa
                            simp only [List.setIfInBounds_toArray, List.set_cons_succ, List.set_cons_zero]
                            have gl := has_cell 0 hT7.mw.st.bl rfl
                            have gt := has_cell 0 hT7.ct rfl
                            have gk := has_cell 0 hk7 rfl
                            have gu := has_cell 0 hT7.li rfl
                            have f1 := has_free hT7.mw.st.bo
                            have f2 := has_free hk7
                            have c6 := has_cell 0 hT7.mw.st.bo rfl
                            by_cases b1 : pre.length < L.length
                            · obtain ⟨g, rfl, hg⟩ := tu_cell hT7 b1
                              obtain ⟨y, hy⟩ : ∃ y, y = L.getD pre.length 0 := ⟨_, rfl⟩
                              rw [← hy] at hg
                              have HYY := Lib.hid hy
                              have b1i : (pre.length : Int) < L.length := by omega
                              clear hy
                              by_cases b3 : y = i
                              · subst b3
                                have U1 := (Upd.refl hk7).setCell 0 (.int .i64 ((pre.length : Int) + 1))
                                have k1 := U1.1
                                simp only [List.setIfInBounds_toArray, List.set_cons_zero] at k1
                                have hT8 := hT7.upd HL0.out U1 (Nat.le_refl _) (by omega)
                                have hK2 := keep2_upd U1 HL0.out.c (has_lt hT7.it) hT7.itl HL0.out.v
                                have HK2 := Lib.hid hK2
                                clear hT7 U1 hK2
                                by_cases b4 : (pre.length : Int) + 1 = leave
                                · have b4' : ((pre.length : Int) + 1 == leave) = true := by simpa using b4
                                  have B4 := Lib.hid b4
                                  clear b4
                                  gi_wp2
                                  exact ⟨KeepsOthers.setCell _ _ _, HK2.out, hT8, by simpa using k1⟩
                                · have b4' : ((pre.length : Int) + 1 == leave) = false := by simpa using b4
                                  clear b4
                                  gi_wp2
                                  exact ⟨KeepsOthers.setCell _ _ _, HK2.out, hT8, by simpa using k1⟩
                              · have B3 := Lib.hid b3
                                have hne : (y != i) = true := by simpa using b3
                                clear b3
                                gi_wp2
                                exact ⟨KeepsOthers.setCell _ _ _, .inl ⟨rfl, fun h => B3.out (HYY.out.trans (pre_step h).2)⟩⟩
                            · have hge : decide ((pre.length : Int) ≥ (L.length : Int)) = true := by simp; omega
                              have hge2 : L.length ≤ pre.length := by omega
                              gi_wp2
                              exact ⟨KeepsOthers.setCell _ _ _, .inl ⟨rfl, fun h => b1 (pre_step h).1⟩⟩
                          case done =>
                            rintro D ys W hD rfl ⟨hT7, hk7⟩ hK
                            subst hfa
                            have gl := has_cell 0 hT7.mw.st.bl rfl
                            have gt := has_cell 0 hT7.ct rfl
                            have gk := has_cell 0 hk7 rfl
                            have gu := has_cell 0 hT7.li rfl
                            go_wp2_with fail
                            first | exact ⟨⟨2, _, D :: Ds2, rfl, ⟨rfl, rfl, rfl, rfl, rfl, rfl, rfl, rfl, rfl, rfl⟩, by omega, by (simp [hD2]) <;> omega, hT7.next hK (by omega) (fun D' hD' => by have := HLM.out.ds D' hD'; omega)⟩, by (simp [hD2]) <;> omega⟩ | exact ⟨2, _, D :: Ds2, rfl, ⟨rfl, rfl, rfl, rfl, rfl, rfl, rfl, rfl, rfl, rfl⟩, by omega, by (simp [hD2]) <;> omega, hT7.next hK (by omega) (fun D' hD' => by have := HLM.out.ds D' hD'; omega)⟩
                          case stop =>
                            rintro D k pre W hD hpre (⟨rfl, hn⟩ | ⟨rfl, ht0, hT7, hk7⟩) hK
                            · exact absurd hpre hn
                            · cases ht0

end Go.Proofs.Ytkjcchepgpbiiaa
