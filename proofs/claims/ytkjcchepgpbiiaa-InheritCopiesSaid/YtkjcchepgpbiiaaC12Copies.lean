/- The walk of InheritCopies: it returns true, and turns nothing that was there. Conditions: the scripts are slices of steps. -/
import Derived.Test.YtkjcchepgpbiiaaC12Stands
import Derived.Test.YtkjcchepgpbiiaaC12Least
import Derived.Test.YtkjcchepgpbiiaaC12Same
import Derived.Deep.RegionHeld3
namespace Go.Proofs.Ytkjcchepgpbiiaa
open Go.RowKit

theorem flat37 : flatAt Try.prog 4 37 = some (List.replicate 49 (.i .i64)) := by kernel_rfl
theorem fit_app : ∀ {a b : List Sc} {x y : List Value}, Fit a x → Fit b y → Fit (a ++ b) (x ++ y)
  | [], _, [], _, _, h => h
  | _ :: _, _, _ :: _, _, h, k => ⟨h.1, fit_app h.2 k⟩
theorem fit_cons {a : Sc} {l : List Sc} {v : Value} {m : List Value} (h : Fit [a] [v]) (k : Fit l m) : Fit (a :: l) (v :: m) := ⟨h.1, k⟩
theorem fit3 {a b c : List Sc} {x y z : List Value} (h1 : Fit a x) (h2 : Fit b y) (h3 : Fit c z) : Fit (a ++ (b ++ c)) (x ++ (y ++ z)) := fit_app h1 (fit_app h2 h3)
theorem fit_int (x : Int) : Fit [.i .i64] [.int .i64 x] := ⟨⟨_, rfl⟩, trivial⟩
theorem fit_gen (l : List Sc) (n : Nat) (a b c : Nat → Int) (e : l = .i .i64 :: (List.replicate 16 (.i .i64) ++ (List.replicate 16 (.i .i64) ++ List.replicate 16 (.i .i64)))) : Fit l (fourC n a b c) := by
  have ha := fit_rowI a 16
  have hb := fit_rowI b 16
  have hc := fit_rowI c 16
  unfold fourC
  generalize rowI a 16 = x at ha ⊢
  generalize rowI b 16 = y at hb ⊢
  generalize rowI c 16 = z at hc ⊢
  generalize List.replicate 16 (Sc.i .i64) = m at ha hb hc e
  rw [e]
  exact fit_cons (fit_int _) (fit3 ha hb hc)
theorem fit_four (n : Nat) (a b c : Nat → Int) : Fit (List.replicate 49 (.i .i64)) (fourC n a b c) := fit_gen _ n a b c rfl
theorem run_eq37 {xs ys : List Value} (hx : Fit (List.replicate 49 (.i .i64)) xs) (hy : Fit (List.replicate 49 (.i .i64)) ys) (w : World) : (binOp .eql 37 (.agg xs.toArray) (.agg ys.toArray)).run Try.prog w = .ok (.bool (eqs xs ys)) w :=
  run_eql_flat (P := Try.prog) w 4 (t := 37) (xs := xs.toArray) (ys := ys.toArray) flat37 (by decide) (by kernel_rfl) hx hy
theorem four_inj {n m : Nat} {a b c a' b' c' : Nat → Int} (h : fourC n a b c = fourC m a' b' c') : n = m ∧ (∀ i, i < 16 → a i = a' i) ∧ (∀ i, i < 16 → b i = b' i) ∧ ∀ i, i < 16 → c i = c' i := by
  have h0 := congrArg (fun l => l[0]?) h
  simp [fourC] at h0
  refine ⟨by omega, fun i hi => ?_, fun i hi => ?_, fun i hi => ?_⟩
  · have := (four_get n a b c hi).1
    rw [h, (four_get m a' b' c' hi).1] at this
    simpa using this.symm
  · have := (four_get n a b c hi).2.1
    rw [h, (four_get m a' b' c' hi).2.1] at this
    simpa using this.symm
  · have := (four_get n a b c hi).2.2
    rw [h, (four_get m a' b' c' hi).2.2] at this
    simpa using this.symm
theorem eqs_four (s t : Gs) : eqs (fourC s.n s.ba s.ce s.wt) (fourC t.n t.ba t.ce t.wt) = sameG t s := by
  rw [Bool.eq_iff_iff, eqs_iff (fit_four _ _ _ _) (fit_four _ _ _ _), sameG_iff]
  constructor
  · intro h
    obtain ⟨h1, h2, h3, h4⟩ := four_inj h
    exact ⟨h1.symm, fun i hi => (h2 i hi).symm, fun i hi => (h3 i hi).symm, fun i hi => (h4 i hi).symm⟩
  · rintro ⟨h1, h2, h3, h4⟩
    simp only [fourC]
    rw [h1, rowI_congr (fun i hi => (h2 i hi).symm), rowI_congr (fun i hi => (h3 i hi).symm), rowI_congr (fun i hi => (h4 i hi).symm)]

/-- A load of the document's whole graph, under a name that the walk leaves shut. -/
noncomputable def loadSem (x : Value) : Sem Value := Instr.loadAt 37 x
noncomputable def loadRow (w : World) (b o : Nat) := (loadSem (.pointer (some ⟨b, o, none⟩))).run Try.prog w
theorem load_named (x : Value) : Instr.loadAt 37 x = loadSem x := rfl
theorem row_named (w : World) (b o : Nat) : (loadSem (.pointer (some ⟨b, o, none⟩))).run Try.prog w = loadRow w b o := rfl
theorem row_is {w : World} {b o : Nat} {cs : List Value} (hc : w.rangeAt b o cs) (hl : cs.length = 49) : loadRow w b o = .ok (.agg cs.toArray) w :=
  run_loadAt_mid w b o 37 cs _ hc Try.underlying37 rfl (by rw [hl]; kernel_rfl)
attribute [local go_sem ↓] load_named
attribute [local go_sem] row_named
/-- Two graphs of the program's and two of the document's. -/
structure Cop (w W : World) (g r o q : Nat) (s t : Gs) : Prop where
  p1 : Pair W g r s
  p2 : Pair W o q t
  below : Below w.heap.size w W
  lo : w.heap.size ≤ g ∧ w.heap.size ≤ r ∧ w.heap.size ≤ o ∧ w.heap.size ≤ q
  ne : g ≠ o ∧ g ≠ q ∧ r ≠ o ∧ r ≠ q
theorem Cop.reads {w W W' : World} {g r o q : Nat} {s t : Gs} (h : Cop w W g r o q s t) (u : Below W.heap.size W W') : Cop w W' g r o q s t := ⟨h.p1.reads u, h.p2.reads u, below_reads h.below u h.below.size, h.lo, h.ne⟩
theorem Cop.left {w W W' : World} {g r o q : Nat} {s s' t : Gs} (h : Cop w W g r o q s t) (p : Pair W' g r s') (u : Upd2 W g r W') : Cop w W' g r o q s' t :=
  ⟨p, ⟨u.other h.p2.g (Ne.symm h.ne.1) (Ne.symm h.ne.2.2.1), u.other h.p2.ref (Ne.symm h.ne.2.1) (Ne.symm h.ne.2.2.2), h.p2.ok⟩, h.below.trans (u.below h.lo.1 h.lo.2.1 h.below.size), h.lo, h.ne⟩
theorem Cop.right {w W W' : World} {g r o q : Nat} {s t t' : Gs} (h : Cop w W g r o q s t) (p : Pair W' o q t') (u : Upd2 W o q W') : Cop w W' g r o q s t' :=
  ⟨⟨u.other h.p1.g h.ne.1 h.ne.2.1, u.other h.p1.ref h.ne.2.2.1 h.ne.2.2.2, h.p1.ok⟩, p, h.below.trans (u.below h.lo.2.2.1 h.lo.2.2.2 h.below.size), h.lo, h.ne⟩
/-- And the copy. -/
structure Fin5 (w W : World) (g r o c q : Nat) (s t : Gs) : Prop where
  cop : Cop w W g r c q s t
  og : W.heap[o]? = some (gO s)
  ne : o ≠ c ∧ o ≠ q
theorem Fin5.reads {w W W' : World} {g r o c q : Nat} {s t : Gs} (h : Fin5 w W g r o c q s t) (u : Below W.heap.size W W') : Fin5 w W' g r o c q s t := ⟨h.cop.reads u, below_has u h.og, h.ne⟩
theorem Fin5.step {w W W' : World} {g r o c q : Nat} {s t t' : Gs} (h : Fin5 w W g r o c q s t) (p : Pair W' c q t') (u : Upd2 W c q W') : Fin5 w W' g r o c q s t' := ⟨h.cop.right p u, u.other h.og h.ne.1 h.ne.2, h.ne⟩
theorem Fin5.drewN {w W : World} {g r o c q : Nat} {s t : Gs} (h : Fin5 w W g r o c q s t) (m : Nat) : Fin5 w (W.drewN m) g r o c q s t := h.reads (below_drewN (Below.refl _ _) m)
theorem Fin5.ranges {w W : World} {g r o c q : Nat} {s t : Gs} (h : Fin5 w W g r o c q s t) : W.rangeAt r 0 (fourC s.n s.ba s.ce s.wt) ∧ W.rangeAt q 0 (fourC t.n t.ba t.ce t.wt) :=
  ⟨has_range h.cop.p1.ref _ _ (by simp), has_range h.cop.p2.ref _ _ (by simp)⟩

set_option maxRecDepth 100000 in
theorem copies_bad (w : World) (x : Int) (a a' : Option Addr) (len cap len' cap' : Nat) (h : x < 1 ∨ 16 < x) :
    Calls Try.prog 6 #[.int .i64 x, .slice a len cap, .slice a' len' cap'] w fun e w' => e = .returned (.bool true) ∧ Below w.heap.size w w' := by
  have H := Lib.hid h
  clear h
  go_enter Try.func6, Try.ntmps6
  go_wp2_with fail
  refine (new_bad _ _ H.out).mono ?_; rintro e w' ⟨rfl, rfl⟩
  go_wp2_with fail
  refine (known_c _).mono ?_; rintro e w1 ⟨rfl, hB⟩
  go_wp2_with fail
  go_ret
  exact ⟨rfl, hB⟩
theorem below_new {w w1 : World} {B b : Nat} (hB : Below B w w1) (h : B ≤ w.heap.size) (hb : b = w1.heap.size) : B ≤ b := by
  have := hB.size
  omega

set_option maxRecDepth 100000 in
set_option maxHeartbeats 4000000 in
theorem copies_c (w : World) (n : Nat) (a a' : Option Addr) (len cap len' cap' : Nat) (h1 : 1 ≤ n) (h2 : n ≤ 16) (hs : IsRows w stepSc a len) (hs' : IsRows w stepSc a' len') :
    Calls Try.prog 6 #[.int .i64 n, .slice a len cap, .slice a' len' cap'] w fun e w' => e = .returned (.bool true) ∧ Below w.heap.size w w' := by
  have hm := hs.max
  have hm' := hs'.max
  unfold maxLen at hm hm'
  have HS := Lib.hid hs
  have HS' := Lib.hid hs'
  clear hs hs'
  go_enter Try.func6, Try.ntmps6
  go_wp2_with fail
  refine (new_c _ n h1 h2).mono ?_; rintro e w1 ⟨rfl, hG, hB, hz⟩
  by_cases h100 : 100 < len
  · go_wp2_with fail
    refine (known_c _).mono ?_; rintro e w3 ⟨rfl, hb⟩
    have hB := below_reads hB hb hB.size
    go_wp2_with fail
    go_ret
    exact ⟨rfl, hB⟩
  by_cases h100' : 100 < len'
  · go_wp2_with fail
    refine (known_c _).mono ?_; rintro e w3 ⟨rfl, hb⟩
    have hB := below_reads hB hb hB.size
    go_wp2_with fail
    go_ret
    exact ⟨rfl, hB⟩
  go_wp2_with fail
  refine (new_c _ n h1 h2).mono ?_; rintro e w2 ⟨rfl, hG2, hB2, hz2⟩
  go_wp2_with fail
  refine (rnew_c _ n h1 h2).mono ?_; rintro e w3 ⟨rfl, hR3, hB3, hz3⟩
  go_wp2_with fail
  refine (rnew_c _ n h1 h2).mono ?_; rintro e w4 ⟨rfl, hR4, hB4, hz4⟩
  have s1 := hB.size
  have s2 := hB2.size
  have s3 := hB3.size
  have hC : Cop w w4 w.heap.size w2.heap.size w1.heap.size w3.heap.size (newG n) (newG n) :=
    ⟨⟨below_has hB4 (below_has hB3 (below_has hB2 hG)), below_has hB4 hR3, newG_ok h1 h2⟩, ⟨below_has hB4 (below_has hB3 hG2), hR4, newG_ok h1 h2⟩,
      hB.trans ((hB2.trans ((hB3.trans (hB4.mono s3)).mono s2)).mono s1), ⟨Nat.le_refl _, by omega, s1, by omega⟩, ⟨by omega, by omega, by omega, by omega⟩⟩
  obtain ⟨g, hg⟩ : ∃ g, w.heap.size = g := ⟨_, rfl⟩
  obtain ⟨r, hr⟩ : ∃ r, w2.heap.size = r := ⟨_, rfl⟩
  obtain ⟨o, ho⟩ : ∃ o, w1.heap.size = o := ⟨_, rfl⟩
  obtain ⟨q, hq⟩ : ∃ q, w3.heap.size = q := ⟨_, rfl⟩
  rw [hg, hr, ho, hq] at hC
  rw [hg, hr, ho, hq]
  clear hG hB hz hG2 hB2 hz2 hR3 hB3 hz3 hR4 hB4 hz4 s1 s2 s3 hr ho hq
  have HG := Lib.hid hg
  clear hg
  go_wp2_with fail
  go_loopw [13] (fun i wr => ∃ (s : Gs) (j : Nat), i = .int .i64 j ∧ j ≤ len ∧ Cop w wr g r o q s s) (fun i _ => len - (intOf i).toNat)
  case atStart => exact ⟨_, 0, rfl, Nat.zero_le _, hC⟩
  case round =>
    clear hC
    obtain ⟨s, j, rfl, hj, hC⟩ := hrel
    by_cases hlt : j < len
    · obtain ⟨ba, off, kd, th, nn, rfl, hq⟩ := rows_cells HS.out hlt
      obtain ⟨e0, e1, e2⟩ := hq wr hC.below
      have HQ := Lib.hid hq
      clear hq
      have HK := Lib.hid hlt
      go_wp2_with fail
      refine (does_c wr g r s kd th nn hC.p1).mono ?_; rintro e w5 ⟨rfl, hp5, u5⟩
      have hC5 := hC.left hp5 u5
      clear hC e0 e1 e2 hp5 u5
      obtain ⟨e0, e1, e2⟩ := HQ.out w5 hC5.below
      go_wp2_with fail
      refine (does_c w5 o q s kd th nn hC5.p2).mono ?_; rintro e w6 ⟨rfl, hp6, u6⟩
      have hC6 := hC5.right hp6 u6
      clear hC5 e0 e1 e2 hp6 u6
      go_wp2_with fail
      go_roundw
      case rel => exact ⟨_, j + 1, by go_num, HK.out, hC6⟩
      case measure => have := HK.out; simp [intOf]; omega
    · have ok := hC.p1.ok
      go_wp2_with fail
      refine (copy_c wr g s hC.p1.g ok).mono ?_; rintro e w7 ⟨c, rfl, hc, hcg, hb7⟩
      have hgw := has_lt hC.p1.g
      have hrw := has_lt hC.p1.ref
      have how := has_lt hC.p2.g
      have hqw := has_lt hC.p2.ref
      have hC7 := hC.reads hb7
      have hF : Fin5 w w7 g r o c q s s := ⟨⟨hC7.p1, ⟨hcg, hC7.p2.ref, ok⟩, hC7.below, ⟨hC7.lo.1, hC7.lo.2.1, Nat.le_trans hC.below.size hc, hC7.lo.2.2.2⟩, ⟨by omega, hC7.ne.2.1, by omega, hC7.ne.2.2.2⟩⟩, hC7.p2.g, ⟨by omega, hC7.p2.ne⟩⟩
      clear hC hC7 hcg hb7 hc hgw hrw how hqw hlt hj
      have hgc := sameG_self s
      go_wp2_with fail
      refine (gsame_c w7 g c s s hF.cop.p1.g ok hF.cop.p2.g ok hgc).mono ?_; rintro e w8 ⟨rfl, hb8⟩
      have hF8 := hF.reads hb8
      clear hF hb8
      go_wp2_with fail
      refine (gsame_c w8 g o s s hF8.cop.p1.g ok hF8.og ok hgc).mono ?_; rintro e w9 ⟨rfl, hb9⟩
      have hF9 := hF8.reads hb9
      clear hF8 hb9
      go_wp2_with fail
      go_loopw [15] (fun i wx => ∃ (t : Gs) (k : Nat), i = .int .i64 k ∧ k ≤ len' ∧ Fin5 w wx g r o c q s t) (fun i _ => len' - (intOf i).toNat)
      case atStart => exact ⟨_, 0, rfl, Nat.zero_le _, hF9⟩
      case round =>
        clear hF9
        obtain ⟨t, k, rfl, hk, hF⟩ := hrel
        by_cases hlt : k < len'
        · obtain ⟨ba, off, kd, th, nn, rfl, hq⟩ := rows_cells HS'.out hlt
          obtain ⟨e0, e1, e2⟩ := hq wr hF.cop.below
          clear hq
          have HK := Lib.hid hlt
          go_wp2_with fail
          refine (does_c wr c q t kd th nn hF.cop.p2).mono ?_; rintro e w5 ⟨rfl, hp5, u5⟩
          have hF5 := hF.step hp5 u5
          clear hF e0 e1 e2 hp5 u5
          go_wp2_with fail
          go_roundw
          case rel => exact ⟨_, k + 1, by go_num, HK.out, hF5⟩
          case measure => have := HK.out; simp [intOf]; omega
        · go_wp2_with fail
          have okt := hF.cop.p2.ok
          have oks := hF.cop.p1.ok
          obtain ⟨z, hz⟩ : ∃ z, sameG t s = z := ⟨_, rfl⟩
          have hss := sameG_self s
          obtain ⟨lr, hlr⟩ : ∃ l, l = fourC s.n s.ba s.ce s.wt := ⟨_, rfl⟩
          obtain ⟨lq, hlq⟩ : ∃ l, l = fourC t.n t.ba t.ce t.wt := ⟨_, rfl⟩
          have hlen : lr.length = 49 := by rw [hlr, four_length]
          have hlen2 : lq.length = 49 := by rw [hlq, four_length]
          have hl1 : ∀ W : World, W.rangeAt r 0 lr → loadRow W r 0 = .ok (.agg lr.toArray) W := fun W h => row_is h hlen
          have hl2 : ∀ W : World, W.rangeAt q 0 lq → loadRow W q 0 = .ok (.agg lq.toArray) W := fun W h => row_is h hlen2
          have ez : ∀ w, (binOp .eql 37 (.agg lr.toArray) (.agg lq.toArray)).run Try.prog w = .ok (.bool z) w := fun w => by
            rw [hlr, hlq, run_eq37 (fit_four _ _ _ _) (fit_four _ _ _ _), eqs_four, hz]
          have hrg : ∀ W, Fin5 w W g r o c q s t → W.rangeAt r 0 lr ∧ W.rangeAt q 0 lq := fun W h => by rw [hlr, hlq]; exact h.ranges
          have HRG := Lib.hid hrg
          have HF := Lib.hid hF
          have g1 := (hrg _ hF).1
          have g2 := (hrg _ hF).2
          clear hF hrg hlr hlq
          cases z with
          | true =>
            go_region_held3 (fun W' => W'.rangeAt r 0 lr ∧ W'.rangeAt q 0 lq)
              (first | exact ⟨g1, g2⟩ | exact ⟨g1', g2'⟩ | exact ⟨k1, k2⟩ | exact ⟨m1, m2⟩ | exact ⟨n1, n2⟩ | exact ⟨o1, o2⟩)
              (first
                | (go_at_call 20; (with_reducible show Calls Try.prog 20 #[.pointer (some ⟨g, 0, none⟩), .pointer (some ⟨o, 0, none⟩)] _ _); refine (gsame_c _ g o s s (by exact HF.out.cop.p1.g) oks (by exact HF.out.og) oks hss).mono ?_; rintro e w5 ⟨rfl, hb5⟩; have hF5 := HF.out.reads (below_undrew hb5); have HF5 := Lib.hid hF5; have k1 := (HRG.out _ hF5).1; have k2 := (HRG.out _ hF5).2; clear hF5 hb5)
                | (go_at_call 20; (with_reducible show Calls Try.prog 20 #[.pointer (some ⟨c, 0, none⟩), .pointer (some ⟨g, 0, none⟩)] _ _); refine (gsame_c _ c g t s (by exact HF5.out.cop.p2.g) okt (by exact HF5.out.cop.p1.g) oks hz).mono ?_; rintro e w6 ⟨rfl, hb6⟩; have hF6 := HF5.out.reads hb6; have HF6 := Lib.hid hF6; have m1 := (HRG.out _ hF6).1; have m2 := (HRG.out _ hF6).2; clear hF6 hb6)
                | (go_at_call 14; refine (stands_c _ g r s _ (by exact HF6.out.cop.p1)).mono ?_; rintro e w7 ⟨rfl, hb7⟩; have hF7 := HF6.out.reads hb7; have HF7 := Lib.hid hF7; have n1 := (HRG.out _ hF7).1; have n2 := (HRG.out _ hF7).2; clear hF7 hb7)
                | (go_at_call 10; refine (known_c _).mono ?_; rintro e w8 ⟨rfl, hb8⟩; have hF8 := HF7.out.reads hb8; have HF8 := Lib.hid hF8; have o1 := (HRG.out _ hF8).1; have o2 := (HRG.out _ hF8).2; clear hF8 hb8))
            all_goals go_wp2_with fail
            all_goals (go_ret; exact ⟨rfl, HF8.out.cop.below⟩)
          | false =>
            go_region_held3 (fun W' => W'.rangeAt r 0 lr ∧ W'.rangeAt q 0 lq)
              (first | exact ⟨g1, g2⟩ | exact ⟨g1', g2'⟩ | exact ⟨k1, k2⟩ | exact ⟨m1, m2⟩ | exact ⟨n1, n2⟩ | exact ⟨o1, o2⟩)
              (first
                | (go_at_call 20; (with_reducible show Calls Try.prog 20 #[.pointer (some ⟨g, 0, none⟩), .pointer (some ⟨o, 0, none⟩)] _ _); refine (gsame_c _ g o s s (by exact HF.out.cop.p1.g) oks (by exact HF.out.og) oks hss).mono ?_; rintro e w5 ⟨rfl, hb5⟩; have hF5 := HF.out.reads (below_undrew hb5); have HF5 := Lib.hid hF5; have k1 := (HRG.out _ hF5).1; have k2 := (HRG.out _ hF5).2; clear hF5 hb5)
                | (go_at_call 20; (with_reducible show Calls Try.prog 20 #[.pointer (some ⟨c, 0, none⟩), .pointer (some ⟨g, 0, none⟩)] _ _); refine (gsame_c _ c g t s (by exact HF5.out.cop.p2.g) okt (by exact HF5.out.cop.p1.g) oks hz).mono ?_; rintro e w6 ⟨rfl, hb6⟩; have hF6 := HF5.out.reads hb6; have HF6 := Lib.hid hF6; have m1 := (HRG.out _ hF6).1; have m2 := (HRG.out _ hF6).2; clear hF6 hb6)
                | (go_at_call 14; refine (stands_c _ g r s _ (by exact HF6.out.cop.p1)).mono ?_; rintro e w7 ⟨rfl, hb7⟩; have hF7 := HF6.out.reads hb7; have HF7 := Lib.hid hF7; have n1 := (HRG.out _ hF7).1; have n2 := (HRG.out _ hF7).2; clear hF7 hb7)
                | (go_at_call 10; refine (known_c _).mono ?_; rintro e w8 ⟨rfl, hb8⟩; have hF8 := HF7.out.reads hb8; have HF8 := Lib.hid hF8; have o1 := (HRG.out _ hF8).1; have o2 := (HRG.out _ hF8).2; clear hF8 hb8))
            all_goals go_wp2_with fail
            all_goals (go_ret; exact ⟨rfl, HF8.out.cop.below⟩)
theorem copies_claim (w : World) (x : Int) (_ : (Lit.int .i64 x).wf = true) (a : Option Addr) (len cap : Nat) (hs : IsRows w stepSc a len) (a' : Option Addr) (len' cap' : Nat) (hs' : IsRows w stepSc a' len') :
    Calls Try.prog 6 #[.int .i64 x, .slice a len cap, .slice a' len' cap'] w fun e w' => e = .returned (.bool true) ∧ Below w.heap.size w w' := by
  by_cases h : 1 ≤ x ∧ x ≤ 16
  · obtain ⟨n, rfl⟩ : ∃ n : Nat, x = n := ⟨x.toNat, by omega⟩
    exact copies_c w n a a' len cap len' cap' (by omega) (by omega) hs hs'
  · exact copies_bad w x a a' len cap len' cap' (by omega)
end Go.Proofs.Ytkjcchepgpbiiaa
