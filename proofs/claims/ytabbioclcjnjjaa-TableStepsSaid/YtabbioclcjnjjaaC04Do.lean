/- One step of a script on both tables: they go on alike. Conditions: both stand at the same places, and the list is the walk's own. -/
import Derived.Test.YtabbioclcjnjjaaC04RefSame
namespace Go.Proofs.Ytabbioclcjnjjaa
open Go.RowKit

theorem results_tmp4 {fn : Func} {t u v x : Tmp} (h : fn.results = #[.tmp t, .tmp u, .tmp v, .tmp x]) (tmps : Array Value) (P : Program) (w : World) :
    (results fn tmps).run P w = .ok (.tuple #[tmps.getD t undef, tmps.getD u undef, tmps.getD v undef, tmps.getD x undef]) w := by
  simp [results, h]
theorem run_append_nils {P : Program} (t ty e : TypeId) (i : TypeInfo) (ht : P.underlying t = some (.slice e)) (hi : P.info? e = some i) (w : World) :
    (Builtin.append_ #[t, t] ty #[.slice none 0 0, .slice none 0 0]).run P w = .ok (.slice none 0 0) w := by
  simp [Builtin.append_, run_underlying ht, sizeOf, typeInfo, hi, Builtin.lenOf, run_firstCells_none]
theorem own_mono {w : World} {base B : Nat} {e : TypeId} {v : Value} {m : Nat} {xs : List Value} (h : w.ownsRow base e 1 v m xs) (hB : B ≤ base) : w.ownsRow B e 1 v m xs := by
  refine ⟨h.1, ?_⟩
  rcases h.2 with h | ⟨g, cap, cur, e, hb, r⟩
  · exact .inl h
  · exact .inr ⟨g, cap, cur, e, by omega, r⟩
theorem app_list {ops : Array Oper} {rest : List Oper} {o : Oper} {a : Act} {Q : Exit → Act → World → Prop} {w : World} {B : Nat} (hgd : o.guard = none) (s x : Operand)
    (ho : o.op = .call { callee := .builtin .append, args := #[s, x], argTypes := #[29, 29] }) (hs : a.eval s = .slice none 0 0)
    (g cap : Nat) (l : List Int) (hx : a.eval x = .slice (some ⟨g, 0, none⟩) l.length cap) (hown : w.ownsRow B 2 1 (.slice (some ⟨g, 0, none⟩) l.length cap) l.length (l.map (.int .i64))) (hm : l.length ≤ 1000)
    (h : ∀ v' w', w'.ownsRow w.heap.size 2 1 v' l.length (l.map (.int .i64)) → w.grownBy w' none → wpList Try.prog ops Q rest (a.put o.dst v') w') : wpList Try.prog ops Q (o :: rest) a w := by
  obtain ⟨i, hi, hz0, hz1, hz2⟩ := info_parts info2
  refine wpList_append_own w hgd s x 29 ho w.heap.size 2 i (.int .i64 0) 1 8 Try.underlying29 hi hz0 hz1 hz2 rfl (by decide) (.slice none 0 0) 0 [] hs (World.ownsRow_nil _ _ _ _) ⟨g, 0, none⟩ l.length cap (l.map (.int .i64)) hx (by simp)
    (hown.cells rfl) ?_ (by unfold maxLen; omega) (by omega) (Nat.le_refl _) ?_
  · intro u hu
    simp only [List.mem_map] at hu
    obtain ⟨z, _, rfl⟩ := hu
    rfl
  · intro v' w' h1 h2 _
    rw [Nat.zero_add, List.nil_append] at h1
    exact h v' w' h1 h2
structure DSt (w : World) (B t r s : Nat) (L : List (Bool × Int)) (vl : Value) (l : List Int) : Prop where
  tab : w.heap[t]? = some (tabO L)
  ref : RRef w r s L
  own : w.ownsRow B 2 1 vl l.length (l.map (.int .i64))
  nil : l = [] → vl = .slice none 0 0
  lt : B ≤ t
  lr : B ≤ r
  ls : B ≤ s
  hB : B ≤ w.heap.size
theorem own_far {w : World} {base b : Nat} {v : Value} {m : Nat} {xs : List Value} {cs : Array Value} {T : TypeId} {fz : Nat × Nat} (h : w.ownsRow base 2 1 v m xs) (hb : w.heap[b]? = some (.cells cs T fz)) (hT : T ≠ 2) : v.ownBlock = none ∨ v.ownBlock ≠ some b := by
  rcases h.2 with ⟨rfl, _⟩ | ⟨g, cap, cur, rfl, _, hg, _⟩
  · exact .inl rfl
  · refine .inr ?_
    simp only [Value.ownBlock, ne_eq, Option.some.injEq]
    rintro rfl
    rw [hg] at hb
    injection hb with hb
    injection hb with _ h2 _
    exact hT h2.symm
theorem DSt.reads0 {w w' : World} {B t r s : Nat} {L : List (Bool × Int)} {vl vl' : Value} {l l' : List Int} (h : DSt w B t r s L vl l) (hb : Below w.heap.size w w') (ho : w'.ownsRow w.heap.size 2 1 vl' l'.length (l'.map (.int .i64))) (hn : l' = [] → vl' = .slice none 0 0) : DSt w' B t r s L vl' l' :=
  ⟨below_has hb h.tab, h.ref.reads hb, own_mono ho h.hB, hn, h.lt, h.lr, h.ls, Nat.le_trans h.hB hb.size⟩
theorem DSt.reads {w w' : World} {B t r s : Nat} {L : List (Bool × Int)} {vl : Value} {l : List Int} (h : DSt w B t r s L vl l) (hb : Below w.heap.size w w') : DSt w' B t r s L vl l :=
  ⟨below_has hb h.tab, h.ref.reads hb, h.own.kept (grown_of_below hb none) (by cases vl.ownBlock <;> simp), h.nil, h.lt, h.lr, h.ls, Nat.le_trans h.hB hb.size⟩
theorem DSt.ts {w : World} {B t r s : Nat} {L : List (Bool × Int)} {vl : Value} {l : List Int} (h : DSt w B t r s L vl l) : t ≠ s ∧ t ≠ r := by
  constructor
  · rintro rfl
    have := h.tab.symm.trans h.ref.row
    injection this with e; injection e with _ e _; exact absurd e (by decide)
  · rintro rfl
    have := h.tab.symm.trans h.ref.tab
    injection this with e; injection e with _ e _; exact absurd e (by decide)
/-- The program's table turns. -/
theorem DSt.updT {w w' : World} {B t r s : Nat} {L M : List (Bool × Int)} {vl : Value} {l : List Int} (h : DSt w B t r s L vl l) (hU : Upd w t (tabO M) w') :
    w'.heap[t]? = some (tabO M) ∧ RRef w' r s L ∧ w'.ownsRow B 2 1 vl l.length (l.map (.int .i64)) :=
  ⟨hU.1, ⟨hU.other h.ref.tab (Ne.symm h.ts.2), hU.other h.ref.row (Ne.symm h.ts.1), h.ref.ne⟩, h.own.kept hU.2 (own_far h.own h.tab (by decide))⟩
/-- Both turn. -/
theorem DSt.both {w w1 w2 : World} {B t r s : Nat} {L M : List (Bool × Int)} {vl : Value} {l : List Int} (h : DSt w B t r s L vl l) (hU : Upd w t (tabO M) w1) (hV : Upd w1 s (rowO M) w2) (hl : M.length = L.length) : DSt w2 B t r s M vl l := by
  obtain ⟨a1, a2, a3⟩ := h.updT hU
  exact ⟨hV.other a1 h.ts.1, a2.upd hV hl, a3.kept hV.2 (own_far a3 a2.row (by decide)), h.nil, h.lt, h.lr, h.ls, Nat.le_trans h.hB (Nat.le_trans hU.size hV.size)⟩

set_option maxHeartbeats 1000000 in
theorem do_one (w : World) (B t r s : Nat) (L : List (Bool × Int)) (vl : Value) (l : List Int) (nn : Int) (odd : Bool) (hh : Int) (G : Nat) (h : DSt w B t r s L vl l) (h1 : 1 ≤ L.length) (h2 : L.length ≤ 16) (hg : genOk L G) (hG : G ≤ 800) (hl : l.length ≤ 500) :
    Calls Try.prog 14 #[.pointer (some ⟨t, 0, none⟩), .pointer (some ⟨r, 0, none⟩), .agg #[.int .i64 1, .int .i64 nn, .bool odd, .int .i64 hh], vl] w fun e w' => ∃ t' L' vl' l', e = .returned (.tuple #[.pointer (some ⟨t', 0, none⟩), .pointer (some ⟨r, 0, none⟩), vl', .bool true]) ∧
      DSt w' B t' r s L' vl' l' ∧ L'.length = L.length ∧ genOk L' (G + 1 : Nat) ∧ l'.length ≤ l.length + 1 ∧ Upd2 w t s w' ∧ (t' = t ∨ w.heap.size ≤ t') := by
  have hg9 : genOk L 900 := fun i => by have := hg i; omega
  have hgG : genOk L (G + 1 : Nat) := fun i => by have := hg i; omega
  have HG := Lib.hid hg9
  have HGG := Lib.hid hgG
  have HG0 := Lib.hid hg
  have H := Lib.hid h
  clear hg hg9 hgG h
  go_enter Try.func14, Try.ntmps14
  go_upto_region 1 with fail
  refine world_wp (fun W => Below w.heap.size w W ∧ W.heap[w.heap.size]? = some (.cells #[.int .i64 1, .int .i64 nn, .bool odd, .int .i64 hh] 32 (0, 0))) ⟨(Below.refl _ _).alloc (Nat.le_refl _) _, heap_alloc_new _ _⟩ ?_
  rintro W ⟨hB, hX⟩
  have hD := H.out.reads hB
  have u0 : Upd2 w t s W := (Upd2.refl w t s).reads hB
  have e0 := has_cell 0 hX rfl
  cases hf : freeF L with
  | none =>
    have HF := Lib.hid hf
    clear hf
    go_wp2_with fail
    refine (add_full _ _ _ hD.tab h1 h2 HF.out).mono ?_; rintro e w' ⟨rfl, rfl⟩
    go_wp2_with fail
    refine (radd_full _ _ _ _ hD.ref h2 HF.out).mono ?_; rintro e w' ⟨rfl, rfl⟩
    go_wp2_with (go_at_call 8; refine (num_c _ _).mono ?_; rintro e w' ⟨rfl, rfl⟩)
    ((try simp only [Exit.inBlock, Exit.then]); refine bodyPost_ret (results_tmp4 rfl _ _ _) rfl ?_)
    exact ⟨t, L, vl, l, rfl, hD, rfl, HGG.out, by omega, u0, .inl rfl⟩
  | some i =>
    obtain ⟨hi, hti, hlo⟩ := free_some hf
    have HF := Lib.hid hf
    clear hf hti hlo
    obtain ⟨x, hx⟩ : ∃ x, x = (i : Int) + 16 * (gn L i + 1) := ⟨_, rfl⟩
    have c1 := add_c _ t L i hD.tab h1 h2 HG.out HF.out
    rw [← hx] at c1
    have C1 := Lib.hid c1
    have HX := Lib.hid hx
    clear c1 hx
    go_wp2_with fail
    refine C1.out.mono ?_; rintro e w1 ⟨rfl, hU⟩
    have c2 := radd_c w1 r s L i (hD.updT hU).2.1 h2 HG.out HF.out
    rw [← HX.out] at c2
    have C2 := Lib.hid c2
    clear c2
    go_wp2_with fail
    refine C2.out.mono ?_; rintro e w2 ⟨rfl, hV⟩
    have hD2 := hD.both hU hV (by simp)
    have u2 := (u0.left hU).right hV
    obtain ⟨hG0, hG1⟩ := HG0.out i
    have hgen : genOk (L.set i (true, gn L i + 1)) (G + 1 : Nat) := by
      have := HG0.out.set (x := true) (g := gn L i + 1) hi (by omega) (by omega)
      exact_mod_cast this
    have HGN := Lib.hid hgen
    clear hgen hU hV hD u0 e0
    have hl2 : l.length ≤ 1000 := by omega
    by_cases hle : l = []
    · obtain ⟨ii, hi2, hz0, hz1, hz2⟩ := info_parts info2
      have hnil := hD2.nil hle
      subst hle
      subst hnil
      have hnn := fun w => run_append_nils (P := Try.prog) 29 29 2 ii Try.underlying29 hi2 w
      go_wp2_with (refine app_int (base := w2.heap.size) rfl (.tmp 36) (.tmp 38) rfl (.slice none 0 0) 0 [] rfl (World.ownsRow_nil _ _ _ _) _ rfl x (has_cell 0 (heap_alloc_new _ _) rfl) (by omega) ?hb ?h)
      case hb => simp
      case h =>
        intro v4 W4 p4 q4
        have hb4 : Below w2.heap.size w2 W4 := (((Below.refl _ w2).alloc (Nat.le_refl _) _)).trans ((below_of_grown0 q4).mono (by simp))
        have hfin := hD2.reads0 (vl' := v4) (l' := [x]) hb4 (by simpa using p4) (by simp)
        have u4 := u2.reads hb4
        clear p4 q4 hb4 hD2 u2
        go_wp2_with (go_at_call 8; refine (num_c _ _).mono ?_; rintro e w' ⟨rfl, rfl⟩)
        ((try simp only [Exit.inBlock, Exit.then]); refine bodyPost_ret (results_tmp4 rfl _ _ _) rfl ?_)
        exact ⟨t, _, v4, [x], rfl, hfin, by simp, HGN.out, by simp, u4, .inl rfl⟩
    · obtain ⟨a7, cap7, e7, k7⟩ := own_shape hD2.own
      obtain ⟨g7, e8, _⟩ := k7 (List.length_pos_iff.2 hle)
      subst e7
      subst e8
      have hne := hle
      clear k7 hle
      go_wp2_with (first
        | (refine app_list (B := B) rfl (.const (.slice none 0 0)) (.tmp 35) rfl ?ahs g7 cap7 l ?ahx ?aown hl2 ?ah))
      case ahs => rfl
      case ahx => rfl
      case aown => exact hD2.own
      case ah =>
      intro v3 W3 p3 q3
      go_wp2_with (refine app_int (base := w2.heap.size) rfl (.tmp 36) (.tmp 38) rfl v3 l.length (l.map (.int .i64)) ?hs ?own W3.heap.size ?hx x ?hu hl2 ?hb ?h)
      case hs => rfl
      case hx => rfl
      case hu => exact has_cell 0 (heap_alloc_new _ _) rfl
      case own => exact p3.alloc _
      case hb => have := q3.size; simp; omega
      case h =>
        intro v4 W4 p4 q4
        have hb3 : Below w2.heap.size w2 W3 := below_of_grown0 q3
        have hb3a := hb3.alloc hb3.size (.cells #[.int .i64 x] 2)
        have hb4 : Below w2.heap.size w2 W4 := hb3a.trans (below_of_grown (p3.alloc _) q4 (Nat.le_refl _) hb3a.size)
        have hfin := hD2.reads0 (vl' := v4) (l' := l ++ [x]) hb4 (by simpa using p4) (by simp)
        have u4 := u2.reads hb4
        clear p4 q4 hb4 hD2 u2 hb3 hb3a p3 q3
        go_wp2_with (go_at_call 8; refine (num_c _ _).mono ?_; rintro e w' ⟨rfl, rfl⟩)
        ((try simp only [Exit.inBlock, Exit.then]); refine bodyPost_ret (results_tmp4 rfl _ _ _) rfl ?_)
        exact ⟨t, _, v4, l ++ [x], rfl, hfin, by simp, HGN.out, by simp, u4, .inl rfl⟩

set_option maxRecDepth 100000 in
set_option maxHeartbeats 1000000 in
theorem do_two (w : World) (B t r s : Nat) (L : List (Bool × Int)) (vl : Value) (l : List Int) (nn : Int) (odd : Bool) (hh : Int) (G : Nat) (h : DSt w B t r s L vl l) (h1 : 1 ≤ L.length) (h2 : L.length ≤ 16) (hg : genOk L G) (hG : G ≤ 800) (hl : l.length ≤ 500) (hn : -9223372036854775808 ≤ nn ∧ nn ≤ 9223372036854775807) :
    Calls Try.prog 14 #[.pointer (some ⟨t, 0, none⟩), .pointer (some ⟨r, 0, none⟩), .agg #[.int .i64 2, .int .i64 nn, .bool odd, .int .i64 hh], vl] w fun e w' => ∃ t' L' vl' l', e = .returned (.tuple #[.pointer (some ⟨t', 0, none⟩), .pointer (some ⟨r, 0, none⟩), vl', .bool true]) ∧
      DSt w' B t' r s L' vl' l' ∧ L'.length = L.length ∧ genOk L' (G + 1 : Nat) ∧ l'.length ≤ l.length + 1 ∧ Upd2 w t s w' ∧ (t' = t ∨ w.heap.size ≤ t') := by
  have hg9 : genOk L 1000 := fun i => by have := hg i; omega
  have hgG : genOk L (G + 1 : Nat) := fun i => by have := hg i; omega
  have HG := Lib.hid hg9
  have HGG := Lib.hid hgG
  have HG0 := Lib.hid hg
  have H := Lib.hid h
  clear hg hg9 hgG h
  go_enter Try.func14, Try.ntmps14
  go_upto_region 1 with fail
  refine world_wp (fun W => Below w.heap.size w W ∧ W.heap[w.heap.size]? = some (.cells #[.int .i64 2, .int .i64 nn, .bool odd, .int .i64 hh] 32 (0, 0))) ⟨(Below.refl _ _).alloc (Nat.le_refl _) _, heap_alloc_new _ _⟩ ?_
  rintro W ⟨hB, hX⟩
  have hD := H.out.reads hB
  have u0 : Upd2 w t s W := (Upd2.refl w t s).reads hB
  have e0 := has_cell 0 hX rfl
  have e1 := has_cell 1 hX rfl
  have e2 := has_cell 2 hX rfl
  have e3 := has_cell 3 hX rfl
  obtain ⟨a7, cap7, e7, k7⟩ := own_shape hD.own
  subst e7
  have K7 := Lib.hid k7
  clear k7
  go_upto_region 10 with fail
  go_cut [68] (fun s68 wx => W = wx ∧ s68 = .bool (!odd && decide (0 ≤ nn) && decide (0 < l.length)))
  case first =>
    by_cases g1 : odd = true
    · subst g1
      go_wp2_with fail
      go_meet
      exact ⟨rfl, rfl⟩
    · simp at g1
      subst g1
      by_cases g2 : 0 ≤ nn
      · by_cases g3 : 0 < l.length
        · go_wp2_with fail
          go_meet
          exact ⟨rfl, by rw [decide_eq_true g2, decide_eq_true g3]; rfl⟩
        · go_wp2_with fail
          go_meet
          exact ⟨rfl, by rw [decide_eq_true g2, decide_eq_false g3]; rfl⟩
      · go_wp2_with fail
        go_meet
        exact ⟨rfl, by rw [decide_eq_false (by omega : ¬ 0 ≤ nn)]; rfl⟩
  case rest =>
    obtain ⟨rfl, rfl⟩ := hcut
    go_upto_if 68 with fail
    go_cut [16] (fun s16 wx => W = wx ∧ ∃ hd, s16 = .int .i64 hd)
    case first =>
      by_cases g : (!odd && decide (0 ≤ nn) && decide (0 < l.length)) = true
      · rw [g]
        simp only [Bool.and_eq_true, decide_eq_true_eq] at g
        obtain ⟨⟨_, q2⟩, q1⟩ := g
        have ql : l.length ≤ 1000 := by omega
        obtain ⟨k, hk, hkl⟩ : ∃ k : Nat, nn % (l.length : Int) = k ∧ k < l.length := ⟨(nn % (l.length : Int)).toNat, by have := Int.emod_nonneg nn (b := (l.length : Int)) (by omega); omega, by have := Int.emod_nonneg nn (b := (l.length : Int)) (by omega); have := Int.emod_lt_of_pos nn (b := (l.length : Int)) (by omega); omega⟩
        obtain ⟨g7, rfl, gc7, gz7⟩ := own_int hD.own hkl
        go_wp2_with fail
        go_meet
        exact ⟨rfl, _, rfl⟩
      · rw [Bool.not_eq_true _ |>.mp g]
        clear g
        go_wp2_with fail
        go_meet
        exact ⟨rfl, _, rfl⟩
    case rest =>
      obtain ⟨rfl, hd, rfl⟩ := hcut
      cases hf : atF L hd with
      | none =>
        have HF := Lib.hid hf
        clear hf
        go_wp2_with (first
          | (go_at_call 8; refine (num_c _ _).mono ?_; rintro e w' ⟨rfl, rfl⟩)
          | (go_at_call 10; refine (drop_none _ t L hd hD.tab h1 h2 HG.out HF.out).mono ?_; rintro e w1 ⟨rfl, hb⟩; have hD1 := hD.reads hb; have u1 := u0.reads hb)
          | (go_at_call 23; refine (rdrop_none _ r s L hd hD1.ref h2 HG.out HF.out).mono ?_; rintro e w2 ⟨rfl, rfl⟩))
        ((try simp only [Exit.inBlock, Exit.then]); refine bodyPost_ret (results_tmp4 rfl _ _ _) rfl ?_)
        exact ⟨t, L, _, l, rfl, hD1, rfl, HGG.out, by omega, u1, .inl rfl⟩
      | some p =>
        obtain ⟨hp, _, _, _⟩ := at_some hf
        have HF := Lib.hid hf
        clear hf
        go_wp2_with (first
          | (go_at_call 8; refine (num_c _ _).mono ?_; rintro e w' ⟨rfl, rfl⟩)
          | (go_at_call 10; refine (drop_c _ t L hd p hD.tab h1 h2 HG.out HF.out).mono ?_; rintro e w1 ⟨rfl, hU⟩; have hR1 := (hD.updT hU).2.1; have u1 := u0.left hU)
          | (go_at_call 23; refine (rdrop_c _ r s L hd p hR1 h2 HG.out HF.out).mono ?_; rintro e w2 ⟨rfl, hV⟩))
        have hgp := HG0.out p
        have hgen := HG0.out.set (x := false) (g := gn L p) hp (by omega) (by omega)
        have hD2 := hD.both hU hV (by simp)
        have u2 := u1.right hV
        ((try simp only [Exit.inBlock, Exit.then]); refine bodyPost_ret (results_tmp4 rfl _ _ _) rfl ?_)
        exact ⟨t, _, _, l, rfl, hD2, by simp, by exact_mod_cast hgen, by omega, u2, .inl rfl⟩

set_option maxRecDepth 100000 in
set_option maxHeartbeats 1000000 in
theorem do_copy (w : World) (B t r s : Nat) (L : List (Bool × Int)) (vl : Value) (l : List Int) (nn : Int) (odd : Bool) (hh : Int) (G : Nat) (h : DSt w B t r s L vl l) (h1 : 1 ≤ L.length) (h2 : L.length ≤ 16) (hg : genOk L G) (hG : G ≤ 800) :
    Calls Try.prog 14 #[.pointer (some ⟨t, 0, none⟩), .pointer (some ⟨r, 0, none⟩), .agg #[.int .i64 3, .int .i64 nn, .bool odd, .int .i64 hh], vl] w fun e w' => ∃ t' L' vl' l', e = .returned (.tuple #[.pointer (some ⟨t', 0, none⟩), .pointer (some ⟨r, 0, none⟩), vl', .bool true]) ∧
      DSt w' B t' r s L' vl' l' ∧ L'.length = L.length ∧ genOk L' (G + 1 : Nat) ∧ l'.length ≤ l.length + 1 ∧ Upd2 w t s w' ∧ (t' = t ∨ w.heap.size ≤ t') := by
  have hg9 : genOk L 900 := fun i => by have := hg i; omega
  have hg10 : genOk L 1000 := fun i => by have := hg i; omega
  have hgG : genOk L (G + 1 : Nat) := fun i => by have := hg i; omega
  have HG9 := Lib.hid hg9
  have HG := Lib.hid hg10
  have HGG := Lib.hid hgG
  have HG0 := Lib.hid hg
  have H := Lib.hid h
  clear hg hg9 hg10 hgG h
  go_enter Try.func14, Try.ntmps14
  go_upto_region 1 with fail
  refine world_wp (fun W => Below w.heap.size w W ∧ W.heap[w.heap.size]? = some (.cells #[.int .i64 3, .int .i64 nn, .bool odd, .int .i64 hh] 32 (0, 0))) ⟨(Below.refl _ _).alloc (Nat.le_refl _) _, heap_alloc_new _ _⟩ ?_
  rintro W ⟨hB, hX⟩
  have hD := H.out.reads hB
  have u0 : Upd2 w t s W := (Upd2.refl w t s).reads hB
  have e0 := has_cell 0 hX rfl
  go_wp2_with fail
  refine (copy_c _ t L hD.tab h1 h2).mono ?_; rintro e w1 ⟨c, rfl, hc, hcC, hb1⟩
  have hD1 := hD.reads hb1
  have u1 := u0.reads hb1
  have hct : c ≠ t := by have := has_lt hD.tab; omega
  have hBc : B ≤ c := by have := hD.hB; omega
  have hwc : w.heap.size ≤ c := by have := hB.size; omega
  clear hb1 hD u0 e0 hX
  have C1 := same_c w1 c t L L hcC h1 h2 hD1.tab h1 h2
  rw [decide_eq_true rfl] at C1
  have HC1 := Lib.hid C1
  clear C1
  go_wp2_with fail
  refine HC1.out.mono ?_; rintro e w2 ⟨rfl, hb2⟩
  have hD2 := hD1.reads hb2
  have u2 := u1.reads hb2
  have hcC2 := below_has hb2 hcC
  clear hb2 hD1 u1 hcC HC1
  go_upto_region 16 with fail
  have hdrop : Calls Try.prog 10 #[.pointer (some ⟨t, 0, none⟩), .int .i64 16] w2 fun e w' => ∃ v L', e = .returned (.int .i64 v) ∧ L'.length = L.length ∧ genOk L' 900 ∧ Upd w2 t (tabO L') w' := by
    cases hf : atF L 16 with
    | none => exact (drop_none w2 t L 16 hD2.tab h1 h2 HG.out hf).mono fun e w' ⟨a, b⟩ => ⟨6, L, a, rfl, HG9.out, below_has b hD2.tab, grown_of_below b _⟩
    | some p =>
      obtain ⟨hp, _, _, _⟩ := at_some hf
      refine (drop_c w2 t L 16 p hD2.tab h1 h2 HG.out hf).mono fun e w' ⟨a, b⟩ => ⟨0, _, a, by simp, ?_, b⟩
      have hgp := HG0.out p
      have := HG0.out.set (x := false) (g := gn L p) hp (by omega) (by omega)
      intro i
      have := this i
      omega
  have HDR := Lib.hid hdrop
  clear hdrop
  go_wp2_with fail
  refine HDR.out.mono ?_; rintro e w3 ⟨v, L', rfl, hL', hg', hU⟩
  have hadd : Calls Try.prog 9 #[.pointer (some ⟨t, 0, none⟩)] w3 fun e w' => ∃ v v' L'', e = .returned (.tuple #[.int .i64 v, .int .i64 v']) ∧ Upd w3 t (tabO L'') w' := by
    cases hf : freeF L' with
    | none => exact (add_full w3 t L' hU.1 (by omega) (by omega) hf).mono fun e w' ⟨a, b⟩ => ⟨0, 5, L', a, b ▸ Upd.refl hU.1⟩
    | some p => exact (add_c w3 t L' p hU.1 (by omega) (by omega) hg' hf).mono fun e w' ⟨a, b⟩ => ⟨_, 0, _, a, b⟩
  have HAD := Lib.hid hadd
  clear hadd
  go_wp2_with fail
  refine HAD.out.mono ?_; rintro e w4 ⟨v2, v3, L'', rfl, hV⟩
  have hUV := hU.trans hV
  obtain ⟨a1, a2, a3⟩ := hD2.updT hUV
  have hcC4 := hUV.other hcC2 hct
  have u4 := u2.left hUV
  have hfin : DSt w4 B c r s L vl l := ⟨hcC4, a2, a3, hD2.nil, hBc, hD2.lr, hD2.ls, Nat.le_trans hD2.hB hUV.size⟩
  clear hU hV hUV hcC2 hD2 a1 a2 a3 u2
  go_wp2_with fail
  ((try simp only [Exit.inBlock, Exit.then]); refine bodyPost_ret (results_tmp4 rfl _ _ _) rfl ?_)
  exact ⟨c, L, vl, l, rfl, hfin, rfl, HGG.out, by omega, u4, .inr hwc⟩

set_option maxRecDepth 100000 in
theorem do_other (w : World) (B t r s : Nat) (L : List (Bool × Int)) (vl : Value) (l : List Int) (kd nn : Int) (odd : Bool) (hh : Int) (G : Nat) (h : DSt w B t r s L vl l) (hg : genOk L G) (k1 : kd ≠ 1) (k2 : kd ≠ 2) (k3 : kd ≠ 3) :
    Calls Try.prog 14 #[.pointer (some ⟨t, 0, none⟩), .pointer (some ⟨r, 0, none⟩), .agg #[.int .i64 kd, .int .i64 nn, .bool odd, .int .i64 hh], vl] w fun e w' => ∃ t' L' vl' l', e = .returned (.tuple #[.pointer (some ⟨t', 0, none⟩), .pointer (some ⟨r, 0, none⟩), vl', .bool true]) ∧
      DSt w' B t' r s L' vl' l' ∧ L'.length = L.length ∧ genOk L' (G + 1 : Nat) ∧ l'.length ≤ l.length + 1 ∧ Upd2 w t s w' ∧ (t' = t ∨ w.heap.size ≤ t') := by
  have hgG : genOk L (G + 1 : Nat) := fun i => by have := hg i; omega
  have HGG := Lib.hid hgG
  have H := Lib.hid h
  have q1 : (kd == 1) = false := by simpa using k1
  have q2 : (kd == 2) = false := by simpa using k2
  have q3 : (kd == 3) = false := by simpa using k3
  clear hg hgG h k1 k2 k3
  go_enter Try.func14, Try.ntmps14
  go_upto_region 1 with fail
  refine world_wp (fun W => Below w.heap.size w W ∧ W.heap[w.heap.size]? = some (.cells #[.int .i64 kd, .int .i64 nn, .bool odd, .int .i64 hh] 32 (0, 0))) ⟨(Below.refl _ _).alloc (Nat.le_refl _) _, heap_alloc_new _ _⟩ ?_
  rintro W ⟨hB, hX⟩
  have hD := H.out.reads hB
  have u0 : Upd2 w t s W := (Upd2.refl w t s).reads hB
  have e0 := has_cell 0 hX rfl
  go_wp2_with fail
  ((try simp only [Exit.inBlock, Exit.then]); refine bodyPost_ret (results_tmp4 rfl _ _ _) rfl ?_)
  exact ⟨t, L, vl, l, rfl, hD, rfl, HGG.out, by omega, u0, .inl rfl⟩

theorem do_c (w : World) (B t r s : Nat) (L : List (Bool × Int)) (vl : Value) (l : List Int) (kd nn : Int) (odd : Bool) (hh : Int) (G : Nat) (h : DSt w B t r s L vl l) (h1 : 1 ≤ L.length) (h2 : L.length ≤ 16) (hg : genOk L G) (hG : G ≤ 800) (hl : l.length ≤ 500) (hn : -9223372036854775808 ≤ nn ∧ nn ≤ 9223372036854775807) :
    Calls Try.prog 14 #[.pointer (some ⟨t, 0, none⟩), .pointer (some ⟨r, 0, none⟩), .agg #[.int .i64 kd, .int .i64 nn, .bool odd, .int .i64 hh], vl] w fun e w' => ∃ t' L' vl' l', e = .returned (.tuple #[.pointer (some ⟨t', 0, none⟩), .pointer (some ⟨r, 0, none⟩), vl', .bool true]) ∧
      DSt w' B t' r s L' vl' l' ∧ L'.length = L.length ∧ genOk L' (G + 1 : Nat) ∧ l'.length ≤ l.length + 1 ∧ Upd2 w t s w' ∧ (t' = t ∨ w.heap.size ≤ t') := by
  by_cases k1 : kd = 1
  · subst k1; exact do_one w B t r s L vl l nn odd hh G h h1 h2 hg hG hl
  · by_cases k2 : kd = 2
    · subst k2; exact do_two w B t r s L vl l nn odd hh G h h1 h2 hg hG hl hn
    · by_cases k3 : kd = 3
      · subst k3; exact do_copy w B t r s L vl l nn odd hh G h h1 h2 hg hG
      · exact do_other w B t r s L vl l kd nn odd hh G h hg k1 k2 k3
end Go.Proofs.Ytabbioclcjnjjaa
