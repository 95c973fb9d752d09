/- The walk of InheritRaises: it returns true, and turns nothing that was there. Conditions: the script is a slice of steps. -/
import Derived.Test.YtkjcchepgpbiiaaC12Least
namespace Go.Proofs.Ytkjcchepgpbiiaa
open Go.RowKit

theorem okWide_struct {P : Program} {w : World} {r : Reach} {b0 : Nat} {t : TypeId} {fs : Array Field} {v : Value} (ht : P.underlying t = some (.struct fs)) (h : Value.okWide P w r b0 t v) : ∃ cs, v = .agg cs ∧ cs.size = P.cellsOf t := by
  simp only [Value.okWide, ht] at h
  obtain ⟨cs, h1, h2, _⟩ := h
  exact ⟨cs, h1, h2⟩
set_option maxRecDepth 100000 in
theorem raises_bad (w : World) (x : Int) (a : Option Addr) (len cap : Nat) (kd th nn : Int) (h : x < 1 ∨ 16 < x) :
    Calls Try.prog 5 #[.int .i64 x, .slice a len cap, stepV kd th nn] w fun e w' => e = .returned (.bool true) ∧ Below w.heap.size w w' := by
  have H := Lib.hid h
  clear h
  go_enter Try.func5, Try.ntmps5
  go_upto_region 1 with fail
  refine world_wp (fun W => Below w.heap.size w W) ((Below.refl _ _).alloc (Nat.le_refl _) _) ?_
  intro W hB0
  go_wp2_with fail
  refine (new_bad _ _ H.out).mono ?_; rintro e w' ⟨rfl, rfl⟩
  go_wp2_with fail
  refine (rnew_bad _ _ H.out).mono ?_; rintro e w' ⟨rfl, rfl⟩
  go_wp2_with fail
  refine (known_c _).mono ?_; rintro e w1 ⟨rfl, hB⟩
  go_wp2_with fail
  go_ret
  exact ⟨rfl, below_reads hB0 hB hB0.size⟩
/-- The step is one of a thread. -/
theorem stepF_mono {s : Gs} {t : Nat} (ht : t < s.n) (kd nn : Int) (h : kd = 1 ∧ s.ba t ≤ nn ∨ kd = 2 ∧ s.ce t ≤ nn ∨ kd = 3 ∧ s.wt t = -1) :
    (∀ i, i < s.n → s.own i ≤ (stepF s kd t nn).own i) ∧ ∀ i v, i < s.n → nxt s.wt i = some v → nxt (stepF s kd t nn).wt i = some v := by
  have upd_self : ∀ (f : Nat → Int) (x : Int) (i : Nat), upd f t x i = if i = t then x else f i := fun _ _ _ => rfl
  rcases h with ⟨rfl, h⟩ | ⟨rfl, h⟩ | ⟨rfl, h⟩
  · unfold stepF
    rw [if_pos rfl]
    split
    · refine ⟨fun i hi => ?_, fun i v _ h => h⟩
      show max (s.ba i) (s.ce i) ≤ max (upd s.ba t nn i) (s.ce i)
      rw [upd_self]
      split
      · rename_i e; subst e; omega
      · omega
    · exact ⟨fun i hi => Int.le_refl _, fun i v _ h => h⟩
  · unfold stepF
    rw [if_neg (by decide), if_pos rfl]
    split
    · refine ⟨fun i hi => ?_, fun i v _ h => h⟩
      show max (s.ba i) (s.ce i) ≤ max (s.ba i) (upd s.ce t nn i)
      rw [upd_self]
      split
      · rename_i e; subst e; omega
      · omega
    · exact ⟨fun i hi => Int.le_refl _, fun i v _ h => h⟩
  · unfold stepF
    rw [if_neg (by decide), if_neg (by decide), if_pos rfl]
    split
    · refine ⟨fun i hi => Int.le_refl _, fun i v _ hv => ?_⟩
      show nxt (upd s.wt t nn) i = some v
      unfold nxt at hv ⊢
      rw [upd_self]
      by_cases e : i = t
      · subst e
        rw [h, if_neg (by decide)] at hv
        cases hv
      · rw [if_neg e]
        exact hv
    · exact ⟨fun i hi => Int.le_refl _, fun i v _ h => h⟩
/-- What the program's graph does alone. -/
theorem prog_step (w : World) (b : Nat) (s : Gs) (t : Nat) (kd nn : Int) (h : w.heap[b]? = some (gO s)) (ok : GOk s) (ht : t < s.n) :
    (kd = 1 → Calls Try.prog 15 #[.pointer (some ⟨b, 0, none⟩), .int .i64 t, .int .i64 nn] w fun e w' => ∃ z, e = .returned (.int .i64 z) ∧ Upd w b (gO (stepF s kd t nn)) w') ∧
    (kd = 2 → Calls Try.prog 16 #[.pointer (some ⟨b, 0, none⟩), .int .i64 t, .int .i64 nn] w fun e w' => ∃ z, e = .returned (.int .i64 z) ∧ Upd w b (gO (stepF s kd t nn)) w') ∧
    (kd = 3 → Calls Try.prog 17 #[.pointer (some ⟨b, 0, none⟩), .int .i64 t, .int .i64 nn] w fun e w' => ∃ z, e = .returned (.int .i64 z) ∧ Upd w b (gO (stepF s kd t nn)) w') := by
  have hi : inF s t = true := by simp [inF, ht]
  refine ⟨?_, ?_, ?_⟩
  · rintro rfl
    unfold stepF
    rw [if_pos rfl]
    by_cases hp : prioF nn = true
    · rw [if_pos (by rw [hi, hp]; rfl)]
      exact (base_c w b s t nn h ok ht (prioF_rng hp)).mono fun e w' ⟨h1, h2⟩ => ⟨_, h1, h2⟩
    · rw [if_neg (by rw [hi]; simpa using hp)]
      exact (base_no w b s t nn h ok (by rw [hi]; simpa using hp)).mono fun e w' ⟨h1, h2⟩ => ⟨_, h1, by subst h2; exact Upd.refl h⟩
  · rintro rfl
    unfold stepF
    rw [if_neg (by decide), if_pos rfl]
    by_cases hp : prioF nn = true
    · rw [if_pos (by rw [hi, hp]; rfl)]
      exact (ceil_c w b s t nn h ok ht (prioF_rng hp)).mono fun e w' ⟨h1, h2⟩ => ⟨_, h1, h2⟩
    · rw [if_neg (by rw [hi]; simpa using hp)]
      exact (ceil_no w b s t nn h ok (by rw [hi]; simpa using hp)).mono fun e w' ⟨h1, h2⟩ => ⟨_, h1, by subst h2; exact Upd.refl h⟩
  · rintro rfl
    unfold stepF
    rw [if_neg (by decide), if_neg (by decide), if_pos rfl]
    by_cases hp : ownerF s nn = true
    · rw [if_pos (by rw [hi, hp]; rfl)]
      exact (waits_c w b s t nn h ok ht (ownerF_rng hp)).mono fun e w' ⟨h1, h2⟩ => ⟨_, h1, h2⟩
    · rw [if_neg (by rw [hi]; simpa using hp)]
      exact (waits_no w b s t nn h ok (by rw [hi]; simpa using hp)).mono fun e w' ⟨h1, h2⟩ => ⟨_, h1, by subst h2; exact Upd.refl h⟩

theorem upd_undrewN {w w' : World} {b m : Nat} {o : Obj} (u : Upd (w.drewN m) b o w') : Upd w b o w' := ⟨u.1, u.2.os, u.2.tape, u.2.output, u.2.size, u.2.block⟩
/-- Who stops waiting. -/
theorem stop_law {s : Gs} {out out' : Nat → Int} {t : Nat} (ok : GOk s) (h : Least s.n s.own s.wt out) (h' : Least s.n s.own (upd s.wt t (-1)) out') (ht : t < s.n) : out' t ≤ out t ∧ ((ringF s.n s.wt t).isSome = false → out' t = out t) := by
  have h1 : out' t ≤ out t := least_mono h' h (fun _ _ => Int.le_refl _) (fun i v _ hv => by
    unfold nxt upd at *
    by_cases e : i = t
    · rw [if_pos e] at hv
      rw [if_neg (by decide)] at hv
      cases hv
    · rw [if_neg e] at hv
      exact hv) t ht
  refine ⟨h1, fun hr => ?_⟩
  have hr' : ringF s.n s.wt t = none := by
    cases e : ringF s.n s.wt t with
    | none => rfl
    | some l => rw [e] at hr; cases hr
  exact Int.le_antisymm h1 (least_stop ok.fine h h' ht (fun j => ring_none ok.fine ht hr' j))

set_option maxRecDepth 100000 in
set_option maxHeartbeats 4000000 in
theorem raises_c (w : World) (n : Nat) (a : Option Addr) (len cap : Nat) (kd th nn : Int) (h1 : 1 ≤ n) (h2 : n ≤ 16) (hs : IsRows w stepSc a len) :
    Calls Try.prog 5 #[.int .i64 n, .slice a len cap, stepV kd th nn] w fun e w' => e = .returned (.bool true) ∧ Below w.heap.size w w' := by
  have hm := hs.max
  unfold maxLen at hm
  go_enter Try.func5, Try.ntmps5
  go_upto_region 1 with fail
  refine world_wp (fun W => Below w.heap.size w W ∧ W.heap[w.heap.size]? = some (.cells #[.int .i64 kd, .int .i64 th, .int .i64 nn] 32 (0, 0))) ⟨(Below.refl _ _).alloc (Nat.le_refl _) _, heap_alloc_new _ _⟩ ?_
  rintro W0 ⟨hB0, hX0⟩
  have HS := Lib.hid (hs.below hB0)
  have HB0 := Lib.hid hB0
  have HX0 := Lib.hid hX0
  clear hs hB0 hX0
  go_wp2_with fail
  refine (new_c _ n h1 h2).mono ?_; rintro e w1 ⟨rfl, hG, hB, hz⟩
  go_wp2_with fail
  refine (rnew_c _ n h1 h2).mono ?_; rintro e w2 ⟨rfl, hR, hB2, hz2⟩
  have hW := run_new h1 h2 hG hB hR hB2
  obtain ⟨b, hb⟩ : ∃ b, W0.heap.size = b := ⟨_, rfl⟩
  obtain ⟨r, hr⟩ : ∃ r, w1.heap.size = r := ⟨_, rfl⟩
  rw [hb, hr] at hW
  rw [hb, hr]
  clear hG hB hR hB2 hz hz2 hr
  have HBB := Lib.hid hb
  clear hb
  have hend : ∀ (W : World), Below W0.heap.size W0 W → Below w.heap.size w W := fun W h => below_reads HB0.out h HB0.out.size
  have HEND := Lib.hid hend
  clear hend
  have hX := below_has hW.below HX0.out
  have x1 := has_cell 1 hX rfl
  by_cases hbad : 100 < len ∨ th < 0 ∨ (n : Int) ≤ th
  · have hk : ∀ {W W' : World}, RunW W0 W b r (newG n) → Below W.heap.size W W' → Below w.heap.size w W' := fun h u => HEND.out _ (h.reads u).below
    rcases hbad with h | h | h
    · go_wp2_with fail
      refine (known_c _).mono ?_; rintro e w3 ⟨rfl, hb⟩
      have hB := hk hW hb
      go_wp2_with fail
      go_ret
      exact ⟨rfl, hB⟩
    · by_cases h' : 100 < len
      · go_wp2_with fail
        refine (known_c _).mono ?_; rintro e w3 ⟨rfl, hb⟩
        have hB := hk hW hb
        go_wp2_with fail
        go_ret
        exact ⟨rfl, hB⟩
      · go_wp2_with fail
        refine (known_c _).mono ?_; rintro e w3 ⟨rfl, hb⟩
        have hB := hk hW hb
        go_wp2_with fail
        go_ret
        exact ⟨rfl, hB⟩
    · by_cases h' : 100 < len
      · go_wp2_with fail
        refine (known_c _).mono ?_; rintro e w3 ⟨rfl, hb⟩
        have hB := hk hW hb
        go_wp2_with fail
        go_ret
        exact ⟨rfl, hB⟩
      · have h0 : ¬ th < 0 := by omega
        go_wp2_with fail
        refine (known_c _).mono ?_; rintro e w3 ⟨rfl, hb⟩
        have hB := hk hW hb
        go_wp2_with fail
        go_ret
        exact ⟨rfl, hB⟩
  have h100 : ¬ 100 < len := fun h => hbad (.inl h)
  obtain ⟨t, rfl⟩ : ∃ t : Nat, th = t := ⟨th.toNat, by omega⟩
  have htn : t < n := by omega
  have hti : (t : Int) < n := by omega
  have hnt : ¬ (n : Int) ≤ t := by omega
  have HTN := Lib.hid htn
  have hd1 : decide ((100 : Int) < (len : Int)) = false := by rw [decide_eq_false_iff_not]; omega
  have hd2 : decide ((t : Int) < 0) = false := by rw [decide_eq_false_iff_not]; omega
  have hd3 : decide (n ≤ t) = false := by rw [decide_eq_false_iff_not]; omega
  clear hbad htn
  go_wp2_with fail
  clear hd1 hd2 hd3
  clear x1 hX
  go_loopw [10] (fun i wr => ∃ (s : Gs) (j : Nat), i = .int .i64 j ∧ j ≤ len ∧ s.n = n ∧ RunW W0 wr b r s) (fun i _ => len - (intOf i).toNat)
  case atStart => exact ⟨_, 0, rfl, Nat.zero_le _, rfl, hW⟩
  case round =>
    clear hW
    obtain ⟨s, j, rfl, hj, hn, hW⟩ := hrel
    by_cases hlt : j < len
    · obtain ⟨ba, off, kd', th', nn', rfl, hq⟩ := rows_cells HS.out hlt
      obtain ⟨e0, e1, e2⟩ := hq wr hW.below
      clear hq
      have HK := Lib.hid hlt
      have HN := Lib.hid hn
      clear hn
      go_wp2_with fail
      refine (does_c wr b r s kd' th' nn' hW.p).mono ?_; rintro e w5 ⟨rfl, hp5, u5⟩
      have hW5 := hW.step hp5 u5
      clear hW e0 e1 e2 hp5 u5
      go_wp2_with fail
      go_roundw
      case rel => exact ⟨_, j + 1, by go_num, HK.out, (stepF_n _ _ _ _).trans HN.out, hW5⟩
      case measure => have := HK.out; simp [intOf]; omega
    · have HN := Lib.hid hn
      clear hn
      have hok := hW.p.ok
      go_wp2_with fail
      refine (gall_c _ b s hW.p.g hok).mono ?_; rintro e w6 ⟨v, out, rfl, hO, hL, hb⟩
      have hW6 := hW.reads hb
      have hbl := has_lt hW.p.g
      have hOb := own_mono (B := b + 1) hO (by omega)
      obtain ⟨ad, cp, ev, _⟩ := own_reads hO
      rw [outL_length, HN.out] at ev
      subst ev
      have HL := Lib.hid hL
      have HOK := Lib.hid hok
      clear hO hW hb hlt hj hbl hL hok
      have hX := below_has hW6.below HX0.out
      have x0 := has_cell 0 hX rfl
      have x1 := has_cell 1 hX rfl
      have x2 := has_cell 2 hX rfl
      go_upto_block 2 with fail
      go_cut [] (fun wx => ∃ s' : Gs, s'.n = n ∧ GOk s' ∧ wx.heap[b]? = some (gO s') ∧ ((∀ i, i < s.n → s.own i ≤ s'.own i) ∧ ∀ i v, i < s.n → nxt s.wt i = some v → nxt s'.wt i = some v) ∧ OwnL wx (b + 1) (.slice ad n cp) (outL out s.n) ∧ Below W0.heap.size W0 wx)
      case first =>
        have ht16 : t < 16 := by have := HTN.out; omega
        obtain ⟨cb, cc, cw⟩ := (r_cells hW6.p.ref).2 t ht16
        have hti16 : (t : Int) < 16 := by omega
        by_cases k1 : kd = 1
        · subst k1
          by_cases h : s.ba t ≤ nn
          · have hd : decide (s.ba t ≤ nn) = true := decide_eq_true h
            have H := Lib.hid h
            clear h
            go_wp2_with fail
            go_quiet (fail)
            go_wp2_with fail
            refine ((prog_step _ b s t 1 nn (by exact hW6.p.g) HOK.out (by rw [HN.out]; exact HTN.out)).1 rfl).mono ?_; rintro e w8 ⟨z, rfl, u⟩
            have u' := upd_undrewN u
            clear u
            go_wp2_with fail
            go_meet
            exact ⟨_, (stepF_n _ _ _ _).trans HN.out, stepF_ok HOK.out _ _ _, u'.1, (stepF_mono (by rw [HN.out]; exact HTN.out) _ _ (.inl ⟨rfl, H.out⟩)), own_upd hOb u' (by omega), hW6.below.trans (u'.below (Nat.le_of_eq HBB.out) hW6.below.size)⟩
          · have hd : decide (s.ba t ≤ nn) = false := decide_eq_false h
            clear h
            go_wp2_with fail
            go_quiet (fail)
            go_wp2_with fail
            go_quiet (fail)
            go_upto_region 13 with fail
            refine world_wp (fun W => Below w6.heap.size w6 W) (below_drewN (Below.refl _ _) _) ?_
            intro W7 hb7
            have hW7 := hW6.reads hb7
            have hO7 := own_below hOb hb7
            clear x0 x1 x2
            go_wp2_with fail
            refine (ring_c W7 b s t hW7.p.g HOK.out (by rw [HN.out]; exact HTN.out)).mono ?_; rintro e w8 ⟨v8, rfl, _, hb8⟩
            have hO8 := own_below hO7 hb8
            have hG8 := below_has hb8 hW7.p.g
            have hB8 := below_reads hW7.below hb8 hW7.below.size
            clear hb7 hb8 hW7 hO7
            go_wp2_with fail
            refine (waits_c w8 b s t (-1) hG8 HOK.out (by rw [HN.out]; exact HTN.out) ⟨Int.le_refl _, by omega⟩).mono ?_; rintro e w9 ⟨rfl, u9⟩
            have hO9 := own_upd hO8 u9 (by omega)
            have hB9 := hB8.trans (u9.below (Nat.le_of_eq HBB.out) hB8.size)
            go_wp2_with fail
            refine (of_c w9 b { s with wt := upd s.wt t (-1) } t u9.1 (HOK.out.wt' (by rw [HN.out]; exact HTN.out) ⟨Int.le_refl _, by omega⟩) (by show t < s.n; rw [HN.out]; exact HTN.out)).mono ?_; rintro e w10 ⟨out', rfl, hL', hb10⟩
            have hO10 := own_below hO9 hb10
            have hB10 := below_reads hB9 hb10 hB9.size
            obtain ⟨hle, hst⟩ := stop_law HOK.out HL.out hL' (by rw [HN.out]; exact HTN.out)
            obtain ⟨a', cap', e, hrd⟩ := own_reads hO10
            injection e with e1 e2 e3
            subst e1
            obtain ⟨g, rfl, hg⟩ := hrd (by rw [outL_length, HN.out]; omega)
            have cl := hg t (by rw [outL_length, HN.out]; exact HTN.out)
            rw [outL_get _ (by rw [HN.out]; exact HTN.out)] at cl
            clear hO8 hG8 hB8 u9 hO9 hB9 hb10 hO10 hrd hg e2 e3 hL'
            generalize (ringF s.n s.wt t).isSome = ib at hst ⊢
            generalize out' t = y at hle hst ⊢
            cases ib with
            | true =>
              have hd : decide (y ≤ out t) = true := decide_eq_true hle
              clear hle hst
              go_wp2_with fail
              refine (known_c _).mono ?_; rintro e w11 ⟨rfl, hb11⟩
              have hB11 := HEND.out _ (below_reads hB10 hb11 hB10.size)
              go_wp2_with fail
              go_ret
              exact ⟨rfl, hB11⟩
            | false =>
              have hy := hst rfl
              subst hy
              clear hle hst
              go_wp2_with fail
              refine (known_c _).mono ?_; rintro e w11 ⟨rfl, hb11⟩
              have hB11 := HEND.out _ (below_reads hB10 hb11 hB10.size)
              go_wp2_with fail
              go_ret
              exact ⟨rfl, hB11⟩
        · by_cases k2 : kd = 2
          · subst k2
            clear k1
            by_cases h : s.ce t ≤ nn
            · have hd : decide (s.ce t ≤ nn) = true := decide_eq_true h
              have H := Lib.hid h
              clear h
              go_wp2_with fail
              go_quiet (fail)
              go_wp2_with fail
              go_quiet (fail)
              go_wp2_with fail
              refine ((prog_step _ b s t 2 nn (by exact hW6.p.g) HOK.out (by rw [HN.out]; exact HTN.out)).2.1 rfl).mono ?_; rintro e w8 ⟨z, rfl, u⟩
              have u' := upd_undrewN u
              clear u
              go_wp2_with fail
              go_meet
              exact ⟨_, (stepF_n _ _ _ _).trans HN.out, stepF_ok HOK.out _ _ _, u'.1, (stepF_mono (by rw [HN.out]; exact HTN.out) _ _ (.inr (.inl ⟨rfl, H.out⟩))), own_upd hOb u' (by omega), hW6.below.trans (u'.below (Nat.le_of_eq HBB.out) hW6.below.size)⟩
            · have hd : decide (s.ce t ≤ nn) = false := decide_eq_false h
              clear h
              go_wp2_with fail
              go_quiet (fail)
              go_wp2_with fail
              go_quiet (fail)
              go_upto_region 13 with fail
              refine world_wp (fun W => Below w6.heap.size w6 W) (below_drewN (Below.refl _ _) _) ?_
              intro W7 hb7
              have hW7 := hW6.reads hb7
              have hO7 := own_below hOb hb7
              clear x0 x1 x2
              go_wp2_with fail
              refine (ring_c W7 b s t hW7.p.g HOK.out (by rw [HN.out]; exact HTN.out)).mono ?_; rintro e w8 ⟨v8, rfl, _, hb8⟩
              have hO8 := own_below hO7 hb8
              have hG8 := below_has hb8 hW7.p.g
              have hB8 := below_reads hW7.below hb8 hW7.below.size
              clear hb7 hb8 hW7 hO7
              go_wp2_with fail
              refine (waits_c w8 b s t (-1) hG8 HOK.out (by rw [HN.out]; exact HTN.out) ⟨Int.le_refl _, by omega⟩).mono ?_; rintro e w9 ⟨rfl, u9⟩
              have hO9 := own_upd hO8 u9 (by omega)
              have hB9 := hB8.trans (u9.below (Nat.le_of_eq HBB.out) hB8.size)
              go_wp2_with fail
              refine (of_c w9 b { s with wt := upd s.wt t (-1) } t u9.1 (HOK.out.wt' (by rw [HN.out]; exact HTN.out) ⟨Int.le_refl _, by omega⟩) (by show t < s.n; rw [HN.out]; exact HTN.out)).mono ?_; rintro e w10 ⟨out', rfl, hL', hb10⟩
              have hO10 := own_below hO9 hb10
              have hB10 := below_reads hB9 hb10 hB9.size
              obtain ⟨hle, hst⟩ := stop_law HOK.out HL.out hL' (by rw [HN.out]; exact HTN.out)
              obtain ⟨a', cap', e, hrd⟩ := own_reads hO10
              injection e with e1 e2 e3
              subst e1
              obtain ⟨g, rfl, hg⟩ := hrd (by rw [outL_length, HN.out]; omega)
              have cl := hg t (by rw [outL_length, HN.out]; exact HTN.out)
              rw [outL_get _ (by rw [HN.out]; exact HTN.out)] at cl
              clear hO8 hG8 hB8 u9 hO9 hB9 hb10 hO10 hrd hg e2 e3 hL'
              generalize (ringF s.n s.wt t).isSome = ib at hst ⊢
              generalize out' t = y at hle hst ⊢
              cases ib with
              | true =>
                have hd : decide (y ≤ out t) = true := decide_eq_true hle
                clear hle hst
                go_wp2_with fail
                refine (known_c _).mono ?_; rintro e w11 ⟨rfl, hb11⟩
                have hB11 := HEND.out _ (below_reads hB10 hb11 hB10.size)
                go_wp2_with fail
                go_ret
                exact ⟨rfl, hB11⟩
              | false =>
                have hy := hst rfl
                subst hy
                clear hle hst
                go_wp2_with fail
                refine (known_c _).mono ?_; rintro e w11 ⟨rfl, hb11⟩
                have hB11 := HEND.out _ (below_reads hB10 hb11 hB10.size)
                go_wp2_with fail
                go_ret
                exact ⟨rfl, hB11⟩
          · by_cases k3 : kd = 3
            · subst k3
              clear k1 k2
              by_cases h : s.wt t = -1
              · have H := Lib.hid h
                rw [h] at cw
                clear h
                go_wp2_with fail
                go_quiet (fail)
                go_wp2_with fail
                go_quiet (fail)
                go_wp2_with fail
                refine ((prog_step _ b s t 3 nn (by exact hW6.p.g) HOK.out (by rw [HN.out]; exact HTN.out)).2.2 rfl).mono ?_; rintro e w8 ⟨z, rfl, u⟩
                have u' := upd_undrewN u
                clear u
                go_wp2_with fail
                go_meet
                exact ⟨_, (stepF_n _ _ _ _).trans HN.out, stepF_ok HOK.out _ _ _, u'.1, (stepF_mono (by rw [HN.out]; exact HTN.out) _ _ (.inr (.inr ⟨rfl, H.out⟩))), own_upd hOb u' (by omega), hW6.below.trans (u'.below (Nat.le_of_eq HBB.out) hW6.below.size)⟩
              · have hd : (s.wt t == -1) = false := by simpa using h
                clear h
                go_wp2_with fail
                go_quiet (fail)
                go_wp2_with fail
                go_quiet (fail)
                go_upto_region 13 with fail
                refine world_wp (fun W => Below w6.heap.size w6 W) (below_drewN (Below.refl _ _) _) ?_
                intro W7 hb7
                have hW7 := hW6.reads hb7
                have hO7 := own_below hOb hb7
                clear x0 x1 x2
                go_wp2_with fail
                refine (ring_c W7 b s t hW7.p.g HOK.out (by rw [HN.out]; exact HTN.out)).mono ?_; rintro e w8 ⟨v8, rfl, _, hb8⟩
                have hO8 := own_below hO7 hb8
                have hG8 := below_has hb8 hW7.p.g
                have hB8 := below_reads hW7.below hb8 hW7.below.size
                clear hb7 hb8 hW7 hO7
                go_wp2_with fail
                refine (waits_c w8 b s t (-1) hG8 HOK.out (by rw [HN.out]; exact HTN.out) ⟨Int.le_refl _, by omega⟩).mono ?_; rintro e w9 ⟨rfl, u9⟩
                have hO9 := own_upd hO8 u9 (by omega)
                have hB9 := hB8.trans (u9.below (Nat.le_of_eq HBB.out) hB8.size)
                go_wp2_with fail
                refine (of_c w9 b { s with wt := upd s.wt t (-1) } t u9.1 (HOK.out.wt' (by rw [HN.out]; exact HTN.out) ⟨Int.le_refl _, by omega⟩) (by show t < s.n; rw [HN.out]; exact HTN.out)).mono ?_; rintro e w10 ⟨out', rfl, hL', hb10⟩
                have hO10 := own_below hO9 hb10
                have hB10 := below_reads hB9 hb10 hB9.size
                obtain ⟨hle, hst⟩ := stop_law HOK.out HL.out hL' (by rw [HN.out]; exact HTN.out)
                obtain ⟨a', cap', e, hrd⟩ := own_reads hO10
                injection e with e1 e2 e3
                subst e1
                obtain ⟨g, rfl, hg⟩ := hrd (by rw [outL_length, HN.out]; omega)
                have cl := hg t (by rw [outL_length, HN.out]; exact HTN.out)
                rw [outL_get _ (by rw [HN.out]; exact HTN.out)] at cl
                clear hO8 hG8 hB8 u9 hO9 hB9 hb10 hO10 hrd hg e2 e3 hL'
                generalize (ringF s.n s.wt t).isSome = ib at hst ⊢
                generalize out' t = y at hle hst ⊢
                cases ib with
                | true =>
                  have hd : decide (y ≤ out t) = true := decide_eq_true hle
                  clear hle hst
                  go_wp2_with fail
                  refine (known_c _).mono ?_; rintro e w11 ⟨rfl, hb11⟩
                  have hB11 := HEND.out _ (below_reads hB10 hb11 hB10.size)
                  go_wp2_with fail
                  go_ret
                  exact ⟨rfl, hB11⟩
                | false =>
                  have hy := hst rfl
                  subst hy
                  clear hle hst
                  go_wp2_with fail
                  refine (known_c _).mono ?_; rintro e w11 ⟨rfl, hb11⟩
                  have hB11 := HEND.out _ (below_reads hB10 hb11 hB10.size)
                  go_wp2_with fail
                  go_ret
                  exact ⟨rfl, hB11⟩
            · have b1 : (kd == 1) = false := by simpa using k1
              have b2 : (kd == 2) = false := by simpa using k2
              have b3 : (kd == 3) = false := by simpa using k3
              clear k1 k2 k3
              go_wp2_with fail
              go_quiet (fail)
              go_wp2_with fail
              go_quiet (fail)
              go_upto_region 13 with fail
              refine world_wp (fun W => Below w6.heap.size w6 W) (below_drewN (Below.refl _ _) _) ?_
              intro W7 hb7
              have hW7 := hW6.reads hb7
              have hO7 := own_below hOb hb7
              clear x0 x1 x2
              go_wp2_with fail
              refine (ring_c W7 b s t hW7.p.g HOK.out (by rw [HN.out]; exact HTN.out)).mono ?_; rintro e w8 ⟨v8, rfl, _, hb8⟩
              have hO8 := own_below hO7 hb8
              have hG8 := below_has hb8 hW7.p.g
              have hB8 := below_reads hW7.below hb8 hW7.below.size
              clear hb7 hb8 hW7 hO7
              go_wp2_with fail
              refine (waits_c w8 b s t (-1) hG8 HOK.out (by rw [HN.out]; exact HTN.out) ⟨Int.le_refl _, by omega⟩).mono ?_; rintro e w9 ⟨rfl, u9⟩
              have hO9 := own_upd hO8 u9 (by omega)
              have hB9 := hB8.trans (u9.below (Nat.le_of_eq HBB.out) hB8.size)
              go_wp2_with fail
              refine (of_c w9 b { s with wt := upd s.wt t (-1) } t u9.1 (HOK.out.wt' (by rw [HN.out]; exact HTN.out) ⟨Int.le_refl _, by omega⟩) (by show t < s.n; rw [HN.out]; exact HTN.out)).mono ?_; rintro e w10 ⟨out', rfl, hL', hb10⟩
              have hO10 := own_below hO9 hb10
              have hB10 := below_reads hB9 hb10 hB9.size
              obtain ⟨hle, hst⟩ := stop_law HOK.out HL.out hL' (by rw [HN.out]; exact HTN.out)
              obtain ⟨a', cap', e, hrd⟩ := own_reads hO10
              injection e with e1 e2 e3
              subst e1
              obtain ⟨g, rfl, hg⟩ := hrd (by rw [outL_length, HN.out]; omega)
              have cl := hg t (by rw [outL_length, HN.out]; exact HTN.out)
              rw [outL_get _ (by rw [HN.out]; exact HTN.out)] at cl
              clear hO8 hG8 hB8 u9 hO9 hB9 hb10 hO10 hrd hg e2 e3 hL'
              generalize (ringF s.n s.wt t).isSome = ib at hst ⊢
              generalize out' t = y at hle hst ⊢
              cases ib with
              | true =>
                have hd : decide (y ≤ out t) = true := decide_eq_true hle
                clear hle hst
                go_wp2_with fail
                refine (known_c _).mono ?_; rintro e w11 ⟨rfl, hb11⟩
                have hB11 := HEND.out _ (below_reads hB10 hb11 hB10.size)
                go_wp2_with fail
                go_ret
                exact ⟨rfl, hB11⟩
              | false =>
                have hy := hst rfl
                subst hy
                clear hle hst
                go_wp2_with fail
                refine (known_c _).mono ?_; rintro e w11 ⟨rfl, hb11⟩
                have hB11 := HEND.out _ (below_reads hB10 hb11 hB10.size)
                go_wp2_with fail
                go_ret
                exact ⟨rfl, hB11⟩
      case rest =>
        obtain ⟨s', hn', hok', hG7, ⟨hown, hed⟩, hO7, hB7⟩ := hcut
        have HM := Lib.hid (And.intro hown hed)
        have HN' := Lib.hid hn'
        clear hown hed hW6 hOb hX x0 x1 x2 hn'
        go_wp2_with fail
        refine (gall_c _ b s' hG7 hok').mono ?_; rintro e w8 ⟨v8, out8, rfl, hO8, hL8, hb8⟩
        have hO7' := own_below hO7 hb8
        have hB8 := below_reads hB7 hb8 hB7.size
        have hup : ∀ i, i < n → out i ≤ out8 i := fun i hi => least_mono (n := n) (by rw [← HN.out]; exact HL.out) (by rw [← HN'.out]; exact hL8) (fun i hi => HM.out.1 i (by rw [HN.out]; exact hi)) (fun i v hi hv => HM.out.2 i v (by rw [HN.out]; exact hi) hv) i hi
        have HUP := Lib.hid hup
        have hR7 := own_reads hO7'
        have hR8 := own_reads hO8
        obtain ⟨ad8, cp8, ev8, _⟩ := own_reads hO8
        rw [outL_length, HN'.out] at ev8
        subst ev8
        clear hup hO7 hO7' hO8 hG7 hb8 hB7 hL8
        go_wp2_with fail
        go_loopw [18] (fun i wx => ∃ k : Nat, i = .int .i64 k ∧ k ≤ n ∧ ReadsL wx (.slice ad n cp) (outL out s.n) ∧ ReadsL wx (.slice ad8 n cp8) (outL out8 s'.n) ∧ Below W0.heap.size W0 wx) (fun i _ => n - (intOf i).toNat)
        case atStart => exact ⟨0, rfl, Nat.zero_le _, hR7, hR8, hB8⟩
        case round =>
          clear hR7 hR8 hB8
          obtain ⟨k, rfl, hk, hR7, hR8, hB8⟩ := hrel
          by_cases hkn : k < n
          · obtain ⟨a', cap', e, hrd⟩ := id hR7
            injection e with e1 e2 e3
            subst e1
            obtain ⟨g, rfl, hg⟩ := hrd (by rw [outL_length, HN.out]; omega)
            have cl := hg k (by rw [outL_length, HN.out]; exact hkn)
            rw [outL_get _ (by rw [HN.out]; exact hkn)] at cl
            clear hrd hg e2 e3
            obtain ⟨a', cap', e, hrd⟩ := id hR8
            injection e with e1 e2 e3
            subst e1
            obtain ⟨g8, rfl, hg⟩ := hrd (by rw [outL_length, HN'.out]; omega)
            have cl8 := hg k (by rw [outL_length, HN'.out]; exact hkn)
            rw [outL_get _ (by rw [HN'.out]; exact hkn)] at cl8
            clear hrd hg e2 e3
            have hki : (k : Int) < n := by omega
            have hd : decide (out8 k < out k) = false := by rw [decide_eq_false_iff_not]; have := HUP.out k hkn; omega
            have HK := Lib.hid hkn
            have H7 := Lib.hid hR7
            have H8 := Lib.hid hR8
            clear hkn hR7 hR8
            go_wp2_with fail
            go_quiet (fail)
            go_wp2_with fail
            go_roundw
            case rel => exact ⟨k + 1, by go_num, HK.out, reads_below H7.out (below_drewN (Below.refl _ _) _), reads_below H8.out (below_drewN (Below.refl _ _) _), below_drewN hB8 _⟩
            case measure => have := HK.out; simp [intOf]; omega
          · obtain rfl : n = k := by omega
            go_wp2_with fail
            refine (known_c _).mono ?_; rintro e w11 ⟨rfl, hb11⟩
            have hB11 := HEND.out _ (below_reads hB8 hb11 hB8.size)
            go_wp2_with fail
            go_ret
            exact ⟨rfl, hB11⟩
theorem raises_claim (w : World) (x : Int) (_ : (Lit.int .i64 x).wf = true) (a : Option Addr) (len cap : Nat) (hs : IsRows w stepSc a len) (cs : Array Value) (hf : FitW stepSc cs.toList) :
    Calls Try.prog 5 #[.int .i64 x, .slice a len cap, .agg cs] w fun e w' => e = .returned (.bool true) ∧ Below w.heap.size w w' := by
  obtain ⟨kd, th, nn, e⟩ := step_fit hf
  obtain rfl : cs = #[.int .i64 kd, .int .i64 th, .int .i64 nn] := Array.toList_inj.1 (by simpa using e)
  by_cases h : x < 1 ∨ 16 < x
  · exact raises_bad w x a len cap kd th nn h
  · obtain ⟨n, rfl⟩ : ∃ n : Nat, x = n := ⟨x.toNat, by omega⟩
    exact raises_c w n a len cap kd th nn (by omega) (by omega) hs
end Go.Proofs.Ytkjcchepgpbiiaa
