/-
  Who waits, in its order: going over a waiting list, over the translation of this seat. Conditions: the blocks that are named hold what is said.
  Who waits, in its order: the first of those who wait, over the translation of this seat. Conditions: the blocks that are named hold what is said.
  Who waits, in its order: one comes, one goes, the first is taken, over the translation of this seat. Conditions: the blocks that are named hold what is said.
  Who waits, in its order: Put, Leave, Take, over the translation of this seat. Conditions: the blocks that are named hold what is said.
-/
import Derived.Test.YtagmlijhgncklaaGreatDoorW33
import Derived.Test.YtagmlijhgncklaaGreatDoorW34
import Derived.Test.YtagmlijhgncklaaGreatDoorW14
set_option linter.unusedVariables false
namespace Go.Proofs.YtagmlijhgncklaaGreatDoor.Wt
open Go.RowKit Go.Proofs.YtagmlijhgncklaaGreatDoor

attribute [local go_sem] Oper.semAt_some
attribute [local go_sem] Tab.wide_fn Tab.wide_round_fn

set_option maxRecDepth 100000 in
theorem prio_c (w : World) (q g : Nat) (last : Int) (E : Es) (h : Wq w q g last E) (hn : (E.map (·.1)).Nodup) {x : En} (hx : x ∈ E) : Calls Tryz.prog 475 #[.pointer (some ⟨q, 0, none⟩), .int .i64 x.1] w fun e w' => e = .returned (.tuple #[.int .i64 x.2.1, .bool true]) ∧ Below w.heap.size w w' := by
  have c := h.cell
  have hl := h.look2 hn hx
  have T := there_c w q g last E h
  clear h hn hx
  go_enter Tryz.func475, Tryz.ntmps475
  go_wp2_with (go_at_call 473; refine T.mono ?_; rintro e w' ⟨rfl, rfl⟩)
  go_ret2
  exact ⟨rfl, (Below.refl _ _).alloc (Nat.le_refl _) _⟩
theorem list_c (w : World) (q g : Nat) (last : Int) (E : Es) (h : Wq w q g last E) (hn : (E.map (·.1)).Nodup) (h1 : 1 ≤ E.length) (h12 : E.length ≤ 12) (hs : Srt E) : Calls Tryz.prog 495 #[.pointer (some ⟨q, 0, none⟩)] w fun e w' => ∃ v, e = .returned v ∧ Sorted w w' E v := by
  have S := sorted_c w q g last E h hn h1 h12 hs
  clear h hn h1 h12 hs
  go_enter Tryz.func495, Tryz.ntmps495
  go_wp2_with (go_at_call 575; refine S.mono ?_; rintro e w' ⟨v, rfl, b⟩; have HB := Lib.hid b; clear b)
  refine bodyPost_ret (v := v) (results_tmp (show Tryz.f495.results = #[.tmp 2] from rfl) _ _ _) rfl ?_
  exact ⟨v, rfl, HB.out⟩
def encW (x : En) : Array Value := #[.agg #[.int .i64 x.1, .int .i64 x.2.1]]
/-- Arrays of cells, and what was there ahead, are as they were. -/
def KeepW (n : Nat) (W W' : World) : Prop := (∀ (b : Nat) (cs : Array Value) (t : TypeId) (fz : Nat × Nat), W.heap[b]? = some (Obj.cells cs t fz) → W'.heap[b]? = some (Obj.cells cs t fz)) ∧ ∀ b : Nat, b < n → W'.heap[b]? = W.heap[b]?
theorem keepW_t {n : Nat} {A B C : World} (h : KeepW n A B) (k : KeepW n B C) : KeepW n A C := ⟨fun b cs t fz hb => k.1 b cs t fz (h.1 b cs t fz hb), fun b hb => (k.2 b hb).trans (h.2 b hb)⟩
theorem keepW_b {n : Nat} {w : World} (hn : n ≤ w.heap.size) (W : World) (l : Nat) (o o' : Obj) (hl : w.heap.size ≤ l) (h : W.heap[l]? = some o) (hc : o.isCells = false) (_ : o.isWalk = false) : KeepW n W (W.putObj l o') :=
  ⟨fun b cs t fz hb => (World.putObj_heap_other (by
    intro e
    subst e
    rw [h] at hb
    injection hb with hb
    rw [hb] at hc
    cases hc)).trans hb, fun b hb => World.putObj_heap_other (by omega)⟩
set_option maxHeartbeats 1000000 in
set_option maxRecDepth 100000 in
theorem all_stops (n : Nat) (hn : 1 ≤ n) (q g Bn : Nat) (last : Int) (E : Es) (w : World) (h : Wq w q g last E) (hB : w.heap[Bn]? = some (.cells #[.pointer (some ⟨q, 0, none⟩)] 377 (0, 0))) (hnd : (E.map (·.1)).Nodup) (h1 : 1 ≤ E.length) (h12 : E.length ≤ 12) (hs : Srt E) :
    SeqStopsK Fence.wide n Tryz.prog 605 #[.pointer (some ⟨Bn, 0, none⟩)] encW (KeepW w.heap.size) (fun xs => xs = E) (fun pre => pre <+: E) 16 w := by
  intro l J Jx W hW hJ hJx hY h0
  have hq := h.reads hW
  have hb := below_has hW hB
  obtain ⟨m, hm⟩ : ∃ m, m = E.length := ⟨_, rfl⟩
  have LN : Calls Tryz.prog 495 #[.pointer (some ⟨q, 0, none⟩)] W fun e w' => ∃ rb cap, e = .returned (.slice (some ⟨rb, 0, none⟩) m cap) ∧ Rw w' rb E ∧ Below W.heap.size W w' := by
    refine (list_c W q g last E hq hnd h1 h12 hs).mono ?_
    rintro e w' ⟨v, rfl, ⟨rb, cap, rfl, hr⟩, hb⟩
    exact ⟨rb, cap, by rw [hm], hr, hb⟩
  refine callsIn_of_wp Tryz.func605 rfl trivial ?_ rfl
  simp only [Tryz.ntmps605, List.size_toArray, List.length_cons, List.length_nil, Nat.reduceAdd, Nat.reduceSub, Array.replicate_succ, Array.replicate_zero, List.push_toArray, List.append_toArray, List.nil_append, List.cons_append]
  have cb : W.cell? ⟨Bn, 0, none⟩ = some (.pointer (some ⟨q, 0, none⟩)) := has_cell 0 hb rfl
  have HJ := Lib.hid hJ
  have H0 := Lib.hid h0
  have HY := Lib.hid hY
  have HQ := Lib.hid h
  have HBn := Lib.hid hB
  have HWw := Lib.hid hW
  have HND := Lib.hid hnd
  have HLE := Lib.hid h12
  clear hq h0 hJ hY h hB hW hnd h1 h12 hs hJx
  have HM := Lib.hid hm
  have m12 : (m : Int) ≤ 12 := by have := HLE.out; omega
  clear hm
  gi_wp2_with (gi_at_call 495; refine (callsIn_wide.2 LN).mono ?_; rintro e w' ⟨rb, cap, rfl, hrw, hbl⟩; have HRW := Lib.hid hrw; have HBL := Lib.hid hbl; clear hrw hbl LN)
  have hbl := HBL.out
  have hJ0 : J (E.take 0) w' := HJ.out _ _ _ none H0.out ⟨hbl.os, hbl.tape, hbl.output, hbl.size, fun k hk _ => hbl.block k hk⟩ (fun r e => by cases e)
  have HJ0 := Lib.hid hJ0
  have HQ1 := Lib.hid ((HQ.out.reads HWw.out).reads hbl)
  have HB1 := Lib.hid (below_has hbl (below_has HWw.out HBn.out))
  have HK1 : RowKit.Hid (∀ b : Nat, b < w.heap.size → w'.heap[b]? = w.heap[b]?) := Lib.hid fun b hb => (hbl.block b (Nat.lt_of_lt_of_le hb HWw.out.size)).trans (HWw.out.block b hb)
  clear hJ0 hbl HBL cb hb
  gi_loopw [10] (fun i wr => ∃ j : Nat, i = .int .i64 j ∧ j ≤ m ∧ J (E.take j) wr ∧ Rw wr rb E ∧ (∀ b : Nat, b < w.heap.size → wr.heap[b]? = w.heap[b]?)) (fun i _ => m - (intOf i).toNat)
  case atStart => exact ⟨0, rfl, by omega, HJ0.out, HRW.out, HK1.out⟩
  case round =>
    obtain ⟨j, rfl, hj, hJj, hR, hK⟩ := hrel
    clear HJ0 HRW HK1 HQ1 HB1
    have HJJ := Lib.hid hJj
    have HR := Lib.hid hR
    have HK := Lib.hid hK
    clear hJj
    by_cases hlt : j < m
    · have jl : j < E.length := by have := HM.out; omega
      have hx : E[j]? = some E[j] := List.getElem?_eq_getElem jl
      obtain ⟨x, ex⟩ : ∃ x, x = E[j] := ⟨_, rfl⟩
      rw [← ex] at hx
      have hmem : x ∈ E := by rw [ex]; exact List.getElem_mem jl
      have hq : Wq wr q g last E := HQ.out.kept (hK q HQ.out.lt.1) (hK g HQ.out.lt.2)
      have hbn : wr.heap[Bn]? = some (.cells #[.pointer (some ⟨q, 0, none⟩)] 377 (0, 0)) := (hK Bn (has_lt HBn.out)).trans HBn.out
      have cb : wr.cell? ⟨Bn, 0, none⟩ = some (.pointer (some ⟨q, 0, none⟩)) := has_cell 0 hbn rfl
      have cr : wr.cell? ⟨rb, j, none⟩ = some (.int .i64 x.1) := hR.cell j x hx
      have PR := prio_c wr q g last E hq HND.out hmem
      have tk : E.take (j + 1) = E.take j ++ [x] := by rw [List.take_add_one, hx]; rfl
      have HTK := Lib.hid tk
      have i0 : (0 : Int) ≤ j := by omega
      have i1 : (j : Int) < m := by omega
      have HLT := Lib.hid hlt
      clear hR hK hx ex hmem hq hbn tk hlt hj jl
      gi_wp2_with (gi_at_call 475; refine (callsIn_wide.2 PR).mono ?_; rintro e w2 ⟨rfl, b2⟩; have HB2 := Lib.hid b2; obtain ⟨fn, tmps, assign, body, hy, hRR⟩ := HY.out (E.take j) x w2 (HJ.out _ _ _ none HJJ.out ⟨b2.os, b2.tape, b2.output, b2.size, fun k hk _ => b2.block k hk⟩ (fun r e => by cases e)) (by rw [List.length_take]; have := HLE.out; omega); dsimp only [encW] at hy; have HRR := Lib.hid hRR; clear b2 hRR PR)
      refine HRR.out.mono ?_
      rintro e W3 (⟨rfl, hJ3, hk3⟩ | ⟨rfl, hJx3⟩)
      · have R3 : Rw W3 rb E := by
          obtain ⟨cur, h1, h2⟩ := (HR.out.reads HB2.out).b
          exact ⟨cur, hk3.1 _ _ _ _ h1, h2⟩
        have K3 : ∀ b : Nat, b < w.heap.size → W3.heap[b]? = w.heap[b]? := fun b hb => by
          have lt : b < wr.heap.size := by
            have q := HK.out b hb
            rw [Array.getElem?_eq_getElem hb] at q
            exact (Array.getElem?_eq_some_iff.1 q).1
          exact (hk3.2 b hb).trans ((HB2.out.block b lt).trans (HK.out b hb))
        have HF := Lib.hid (And.intro hJ3 (And.intro R3 K3))
        clear hJ3 hk3 R3 K3
        gi_wp2
        go_roundw
        case rel => exact ⟨j + 1, by go_num, by have := HLT.out; omega, by rw [HTK.out]; exact HF.out.1, HF.out.2.1, HF.out.2.2⟩
        case measure => have := HLT.out; simp [intOf]; omega
      · have HF := Lib.hid hJx3
        clear hJx3
        gi_wp2
        refine bodyPost_ret (results_none rfl _ _ _) rfl ?_
        exact ⟨⟨_, rfl⟩, .inr ⟨E.take j ++ [x], by rw [← HTK.out]; exact List.take_prefix _ _, HF.out⟩⟩
    · obtain rfl : j = m := by omega
      clear hR hK hj hlt
      gi_wp2
      go_end0
      exact ⟨⟨_, rfl⟩, .inl ⟨_, rfl, by have := HJJ.out; rwa [HM.out, List.take_length] at this⟩⟩
end Go.Proofs.YtagmlijhgncklaaGreatDoor.Wt
namespace Go.Proofs.YtagmlijhgncklaaGreatDoor.Wt
open Go.RowKit Go.Proofs.YtagmlijhgncklaaGreatDoor

attribute [local go_sem] Oper.semAt_some
attribute [local go_sem] Tab.wide_fn Tab.wide_round_fn

/-- While the first is looked for; and behind it. -/
structure FirstX (w W : World) (t : Int) (is : Bool) : Prop where
  below : Below w.heap.size w W
  a : W.heap[w.heap.size]? = some (.cells #[.int .i64 t] 3 (0, 0))
  b : W.heap[w.heap.size + 1]? = some (.cells #[.bool is] 4 (0, 0))
theorem firstX_own {w X Y : World} {B : Nat} {row : Option Nat} {t : Int} {is : Bool} (hB : w.heap.size + 1 < B) (h : FirstX w X t is) (hg : X.grownBy Y row) (hr : ∀ r, row = some r → B ≤ r ∧ ∃ o : Obj, X.heap[r]? = some o ∧ o.isCells = false) : FirstX w Y t is :=
  ⟨ownFrom_below (β := Unit) (n₀ := w.heap.size) (B := B) (w₀ := w) (Nat.le_refl _) (by omega) () X Y row h.below hg hr, Tab.own_has (β := Unit) (B := B) (by omega) (fun _ => _) () X Y row h.a hg hr, Tab.own_has (β := Unit) (B := B) hB (fun _ => _) () X Y row h.b hg hr⟩
/-- The loop's variable in its box. -/
def BoxW (fa : Act) (x : En) (a' : Act) (W : World) : Prop := ∃ xb, a' = { tmps := (fa.tmps.setIfInBounds 9 (.agg #[.int .i64 x.1, .int .i64 x.2.1])).setIfInBounds 6 (.pointer (some ⟨xb, 0, none⟩)), defers := [] } ∧ W.heap[xb]? = some (.cells #[.int .i64 x.1, .int .i64 x.2.1] 618 (0, 0))
theorem boxW_own {B : Nat} (fa : Act) (x : En) (a' : Act) : OwnFrom B (fun (_ : Unit) W => BoxW fa x a' W) := fun _ X Y row ⟨xb, e, h⟩ hg hr => ⟨xb, e, (hg.block xb (has_lt h) (fun e => by
  obtain ⟨_, o, ho, hc⟩ := hr xb e.symm
  rw [h] at ho
  injection ho with ho
  subst ho
  cases hc)).trans h⟩
set_option maxHeartbeats 1000000 in
set_option maxRecDepth 100000 in
theorem first_c (w : World) (q g : Nat) (last : Int) (x : En) (E : Es) (h : Wq w q g last (x :: E)) (hnd : ((x :: E).map (·.1)).Nodup) (h12 : (x :: E).length ≤ 12) (hs : Srt (x :: E)) : Calls Tryz.prog 472 #[.pointer (some ⟨q, 0, none⟩)] w fun e w' => e = .returned (.tuple #[.int .i64 x.1, .bool true]) ∧ Below w.heap.size w w' := by
  obtain ⟨w0, hw0⟩ : ∃ w0, w0 = (w.alloc (.cells #[.int .i64 0] 3)).alloc (.cells #[.bool false] 4) := ⟨_, rfl⟩
  have F0 : FirstX w w0 0 false := by
    rw [hw0]
    exact ⟨((Below.refl _ w).alloc (Nat.le_refl _) _).alloc (by simp) _, below_alloc_has (heap_alloc_new w _), by have q := heap_alloc_new (w.alloc (.cells #[.int .i64 0] 3)) (.cells #[.bool false] 4); rw [World.size_alloc] at q; exact q⟩
  have h0 := h.reads F0.below
  refine Tab.calls_of_marks 4 Tryz.func472 rfl ?_
  simp only [Tryz.ntmps472, List.size_toArray, List.length_cons, List.length_nil, Nat.reduceAdd, Nat.reduceSub, Array.replicate_succ, Array.replicate_zero, List.push_toArray, List.append_toArray, List.nil_append, List.cons_append]
  refine wpIn_wide.2 ?_
  go_wp2_with fail
  go_step3
  go_upto_region 2 with fail
  rw [← hw0]
  clear hw0
  have HF0 := Lib.hid F0
  have H0 := Lib.hid h0
  have HND := Lib.hid hnd
  have HLE := Lib.hid h12
  have HSR := Lib.hid hs
  clear F0 h0 h hnd h12 hs
  go_step3
  go_wp2_with (go_at_call 570; refine (Mx.all_c _ _).mono ?_; rintro e w6 ⟨rfl, x6, b6⟩; have h6 := H0.out.reads b6; have F6 : FirstX w w6 0 false := ⟨HF0.out.below.trans (b6.mono HF0.out.below.size), below_has b6 HF0.out.a, below_has b6 HF0.out.b⟩; clear b6)
  have s6 : w.heap.size + 1 < w6.heap.size := has_lt F6.b
  refine (wpIn_wide (n := 4)).1 ?_
  refine named ?_
  intro fa hfa
  refine wpIn_rangeFunc_ownH rfl (by decide) (gf := 605) (lb := #[.pointer (some ⟨w0.heap.size, 0, none⟩)]) (by rw [hfa]; rfl) trivial Mx.enters605
    (all_stops 3 (by decide) q g w0.heap.size last (x :: E) w6 h6 x6 HND.out (by simp) HLE.out HSR.out) keepW_t (keepW_b (Nat.le_refl _)) (Below.refl _ _) (fun _ => rfl)
    (fun (pre : List En) W => pre = [] ∧ FirstX w W 0 false ∧ w6.heap.size ≤ W.heap.size) (fun c pre W => c = .exit 0 ∧ ∃ y, pre = [y] ∧ FirstX w W y.1 true)
    (fun pre X Y row h hg hr => ⟨h.1, firstX_own (by omega) h.2.1 hg hr, Nat.le_trans h.2.2 hg.size⟩) (fun c pre X Y row h hg hr => by
      obtain ⟨e, y, e1, f⟩ := h
      exact ⟨e, y, e1, firstX_own (by omega) f hg hr⟩) ⟨rfl, F6, Nat.le_refl _⟩
    (fun x a' W => BoxW fa x a' W) (fun x a' => boxW_own fa x a')
    ?assign ?body ?done ?stop
  case assign =>
    rintro l' pre y W K ⟨rfl, hF, hsz⟩ hK
    subst hfa
    simp only [encW, zip1, fold1, List.setIfInBounds_toArray, List.set_cons_succ, List.set_cons_zero]
    gi_wp2
    exact hK _ _ ((KeepsOthers.alloc _ _).from _) ⟨fun b cs t fz hb => below_alloc_has hb, fun b hb => Below.heap_alloc _ _ _ (by omega)⟩ ⟨by trivial, ⟨hF.below.alloc hF.below.size _, below_alloc_has hF.a, below_alloc_has hF.b⟩, by simp; omega⟩ ⟨W.heap.size, by simp only [List.setIfInBounds_toArray, List.set_cons_succ, List.set_cons_zero], heap_alloc_new _ _⟩
  case body =>
    rintro l' pre y a' W hl0 _ ⟨rfl, hF, hsz⟩ ⟨xb, rfl, hxb⟩ hlen
    subst hfa
    simp only [List.setIfInBounds_toArray, List.set_cons_succ, List.set_cons_zero]
    have x0 := has_cell 0 hxb rfl
    have ca := has_cell 0 hF.a rfl
    have cb := has_cell 0 hF.b rfl
    have fa' := has_free hF.a
    have fb' := has_free hF.b
    gi_wp2
    have U1 := (Upd.refl hF.a).setCell 0 (.int .i64 y.1)
    have U2 := (Upd.refl (U1.other hF.b (by omega))).setCell 0 (.bool true)
    have wl := hF.below.size
    refine ⟨((KeepsOthers.setCell _ _ _).trans (KeepsOthers.setCell _ _ _)).from _, rfl, y, rfl, ⟨hF.below.trans ((U1.below (Nat.le_refl _) wl).trans (U2.below (Nat.le_succ _) (Nat.le_trans wl U1.size))), U2.other U1.1 (by omega), U2.1⟩⟩
  case done =>
    rintro D xs W hD0 rfl ⟨e, _⟩ hK
    cases e
  case stop =>
    rintro D k pre W hD0 hpre ⟨rfl, y, rfl, hF⟩ hK
    obtain rfl : y = x := by
      obtain ⟨t, ht⟩ := hpre
      injection ht
    subst hfa
    refine wpIn_wide.2 ?_
    have ca := has_cell 0 hF.a rfl
    have cb := has_cell 0 hF.b rfl
    have HF := Lib.hid hF
    have HK := Lib.hid hK
    clear hF hK
    go_wp2_with fail
    go_region
    go_wp2_with fail
    refine ⟨by simp, .inl ⟨_, _, rfl, run_takeDeferred HK.out, ?_⟩⟩
    refine ⟨.tuple #[.int .i64 y.1, .bool true], ?_, rfl, ?_⟩
    · simp [results, Tryz.f472, go_sem]
    · exact Tab.below_mark (W := W.drew) HF.out.below.drew (by omega) HK.out _
end Go.Proofs.YtagmlijhgncklaaGreatDoor.Wt
namespace Go.Proofs.YtagmlijhgncklaaGreatDoor.Wt
open Go.RowKit Go.Proofs.YtagmlijhgncklaaGreatDoor

theorem find_mid (x : En) : ∀ (A B : Es) (l : List MapEntry) (i : Nat), l.map (fun e => (e.key, e.val)) = (weL (A ++ x :: B)).map (fun y => (Value.int .i64 y.1, y.2)) → (∀ a ∈ A, a.1 ≠ x.1) → Instr.findNow (.int .i64) (.int .i64 x.1) l i = some (some (i + A.length, .agg #[.int .i64 x.2.1, .int .i64 x.2.2]))
  | [], B, [], i, h, _ => by simp [weL] at h
  | [], B, e :: l, i, h, _ => by
    simp only [weL, List.nil_append, List.map_cons, List.cons.injEq, Prod.mk.injEq] at h
    have hs : Instr.sameNow (.int .i64) (.int .i64 x.1) e.key = some true := by
      rw [h.1.1]
      simp [Instr.sameNow]
    simp only [Instr.findNow, hs, h.1.2]
    rfl
  | a :: A, B, [], i, h, _ => by simp [weL] at h
  | a :: A, B, e :: l, i, h, hn => by
    simp only [weL, List.cons_append, List.map_cons, List.cons.injEq, Prod.mk.injEq] at h
    have hne := hn a (by simp)
    have hs : Instr.sameNow (.int .i64) (.int .i64 x.1) e.key = some false := by
      rw [h.1.1]
      simp [Instr.sameNow]
      omega
    simp only [Instr.findNow, hs]
    rw [find_mid x A B l (i + 1) h.2 (fun y hy => hn y (by simp [hy])), List.length_cons, show i + 1 + A.length = i + (A.length + 1) by omega]
theorem weL_append (A B : Es) : weL (A ++ B) = weL A ++ weL B := List.map_append
/-- One goes. -/
theorem Wq.delete {w : World} {q g : Nat} {last : Int} {A B : Es} {x : En} (h : Wq w q g last (A ++ x :: B)) (hA : ∀ a ∈ A, a.1 ≠ x.1) (hne : q ≠ g) : ∃ w' o, (Builtin.delete_ #[434, 3] 0 #[.map (some g), .int .i64 x.1]).run Tryz.prog w = .ok (.tuple #[]) w' ∧ Wq w' q g last (A ++ B) ∧ Upd w g o w' := by
  obtain ⟨es, c, h1, h2, h3⟩ := h.g
  have hm : Tryz.prog.underlying 434 = some (.map 3 433) := Tryz.underlying434
  have hk : Tryz.prog.underlying 3 = some (.int .i64) := Tryz.underlying3
  have hj := find_mid x A B es.toList 0 h2 hA
  rw [Nat.zero_add] at hj
  have hc : (Instr.checkKey es.isEmpty 10000 3 (.int .i64 x.1)).run Tryz.prog w = .ok () w := MapKept.run_checkKey (k := .int .i64 x.1) hk (by simp [MapKept.IsKey]) _ 9999
  have hlt := has_lt h1
  refine ⟨_, _, by simp [Builtin.delete_, run_underlying hm, MapKept.run_getObj_map h1, hc, MapKept.run_findKey hk hj, MapKept.run_setObj_map _ h1, Result.andThen]; rfl, ?_, set_upd (o := .map (es.eraseIdxIfInBounds A.length) c) hlt⟩
  have U := set_upd (w := w) (o := .map (es.eraseIdxIfInBounds A.length) c) hlt
  refine ⟨(U.other h.q hne), _, c, U.1, ?_, MapKept.stamped_erase h3 _⟩
  have hl : A.length < es.size := by
    have := congrArg List.length h2
    simp [weL] at this
    omega
  rw [Array.eraseIdxIfInBounds, dif_pos hl, Array.toList_eraseIdx, Go.ChangeMaps.map_eraseIdx, h2, weL_append, weL_append]
  rw [← Go.ChangeMaps.map_eraseIdx]
  have e : (weL A ++ weL (x :: B)).eraseIdx A.length = weL A ++ weL B := by
    rw [List.eraseIdx_append_of_length_le (by simp [weL])]
    simp [weL]
  rw [e]
/-- One comes. -/
theorem Wq.insert {w : World} {q g : Nat} {last : Int} {E : Es} (h : Wq w q g last E) (hne : q ≠ g) {t : Nat} (ht : ∀ x ∈ E, x.1 ≠ t) (p c : Int) : ∃ w' o, (Instr.mapUpdate 434 (.map (some g)) (.int .i64 t) (.agg #[.int .i64 p, .int .i64 c])).run Tryz.prog w = .ok () w' ∧ Wq w' q g last (E ++ [(t, p, c)]) ∧ Upd w g o w' := by
  obtain ⟨es, ck, h1, h2, h3⟩ := h.g
  have hm : Tryz.prog.underlying 434 = some (.map 3 433) := Tryz.underlying434
  have hk : Tryz.prog.underlying 3 = some (.int .i64) := Tryz.underlying3
  have hj := find_none (t : Int) es.toList (weL E) 0 h2 (we_any ht)
  have hc : (Instr.checkKey false 10000 3 (.int .i64 t)).run Tryz.prog w = .ok () w := MapKept.run_checkKey (k := .int .i64 t) hk (by simp [MapKept.IsKey]) _ 9999
  have hlt := has_lt h1
  refine ⟨_, _, by simp [Instr.mapUpdate, run_underlying hm, MapKept.run_getObj_map h1, hc, MapKept.run_findKey hk hj, MapKept.run_setObj_map _ h1, Result.andThen]; rfl, ?_, set_upd (o := .map (es.push { key := .int .i64 t, val := .agg #[.int .i64 p, .int .i64 c], born := ck }) (ck + 1)) hlt⟩
  have U := set_upd (w := w) (o := .map (es.push { key := .int .i64 t, val := .agg #[.int .i64 p, .int .i64 c], born := ck }) (ck + 1)) hlt
  refine ⟨(U.other h.q hne), _, _, U.1, by simp [h2, weL_append, weL], MapKept.stamped_push h3 fun e he => ?_⟩
  obtain ⟨x, hx, ek⟩ := (es_of h2).1 e he
  rw [ek]
  intro q1
  injection q1 with _ q2
  exact ht x hx (by omega)
end Go.Proofs.YtagmlijhgncklaaGreatDoor.Wt
namespace Go.Proofs.YtagmlijhgncklaaGreatDoor.Wt
open Go.RowKit Go.Proofs.YtagmlijhgncklaaGreatDoor

set_option maxRecDepth 100000 in
theorem ask_new (w : World) (q g : Nat) (last : Int) (E : Es) (h : Wq w q g last E) (t : Nat) (p : Int) (h16 : t < 16) (p1 : 1 ≤ p) (p2 : p ≤ 31) (ht : ∀ x ∈ E, x.1 ≠ t) : Calls Tryz.prog 327 #[.pointer (some ⟨q, 0, none⟩), .int .i64 t, .int .i64 p, .bool false] w fun e w' => e = .returned (.int .i64 0) ∧ Below w.heap.size w w' := by
  have c := h.cell
  have hl := h.lookNone ht
  have T := there_c w q g last E h
  have i0 : (0 : Int) ≤ t := by omega
  have i1 : (t : Int) < 16 := by omega
  clear h ht
  go_enter Tryz.func327, Tryz.ntmps327
  go_wp2_with (go_at_call 473; refine T.mono ?_; rintro e w' ⟨rfl, rfl⟩)
  go_ret
  exact ⟨rfl, (Below.refl _ _).alloc (Nat.le_refl _) _⟩
set_option maxRecDepth 100000 in
theorem ask_in (w : World) (q g : Nat) (last : Int) (E : Es) (h : Wq w q g last E) (hn : (E.map (·.1)).Nodup) {x : En} (hx : x ∈ E) (h16 : x.1 < 16) (p : Int) (p1 : 1 ≤ p) (p2 : p ≤ 31) : Calls Tryz.prog 327 #[.pointer (some ⟨q, 0, none⟩), .int .i64 x.1, .int .i64 p, .bool true] w fun e w' => e = .returned (.int .i64 0) ∧ Below w.heap.size w w' := by
  have c := h.cell
  have hl := h.look2 hn hx
  have T := there_c w q g last E h
  have i0 : (0 : Int) ≤ x.1 := by omega
  have i1 : (x.1 : Int) < 16 := by omega
  clear h hn hx
  go_enter Tryz.func327, Tryz.ntmps327
  go_wp2_with (go_at_call 473; refine T.mono ?_; rintro e w' ⟨rfl, rfl⟩)
  go_ret
  exact ⟨rfl, (Below.refl _ _).alloc (Nat.le_refl _) _⟩
set_option maxHeartbeats 1000000 in
set_option maxRecDepth 100000 in
theorem put_c (w : World) (q g : Nat) (last : Int) (E : Es) (h : Wq w q g last E) (hne : q ≠ g) (t : Nat) (p : Int) (h16 : t < 16) (p1 : 1 ≤ p) (p2 : p ≤ 31) (ht : ∀ x ∈ E, x.1 ≠ t) (l0 : 0 ≤ last) (l1 : last ≤ 1000000) :
    Calls Tryz.prog 507 #[.pointer (some ⟨q, 0, none⟩), .int .i64 t, .int .i64 p] w fun e w' => e = .returned (.int .i64 0) ∧ Wq w' q g (last + 1) (E ++ [(t, p, last + 1)]) ∧ Upd2 w q g w' := by
  have A := ask_new w q g last E h t p h16 p1 p2 ht
  have HH := Lib.hid h
  have HNE := Lib.hid hne
  have HT := Lib.hid ht
  clear h hne ht
  go_enter Tryz.func507, Tryz.ntmps507
  go_upto_region 3 with (go_at_call 327; refine A.mono ?_; rintro e w1 ⟨rfl, b1⟩; have h1 := HH.out.reads b1; have HB1 := Lib.hid b1; have H1 := Lib.hid h1; have c1 : w1.cell? ⟨q, 1, none⟩ = some (.int .i64 last) := has_cell 1 h1.q rfl; have fz := has_free h1.q; clear b1 h1 A)
  go_upto_region 4 with fail
  have U1 := ((Upd.refl H1.out.q).setCell 1 (.int .i64 (last + 1))).to (o' := .cells #[.map (some g), .int .i64 (last + 1)] 436 (0, 0)) rfl
  have W1 : Wq (w1.setCell ⟨q, 1, none⟩ (.int .i64 (last + 1))) q g (last + 1) E := by
    obtain ⟨es, c, x1, x2⟩ := H1.out.g
    exact ⟨U1.1, es, c, U1.other x1 (fun e => HNE.out e.symm), x2⟩
  refine world_wp (fun W => Wq W q g (last + 1) E ∧ Upd w1 q (.cells #[.map (some g), .int .i64 (last + 1)] 436 (0, 0)) W) ⟨W1, U1⟩ ?_
  clear W1 U1 c1 fz
  rintro W2 ⟨h2, U2⟩
  have f0 : ∀ d os, (Go.Sort.grow (redrawn W2 d) os).cell? ⟨q, 0, none⟩ = some (.map (some g)) := fun d os => cell_regrown h2.cell d os
  have f1 : ∀ d os, (Go.Sort.grow (redrawn W2 d) os).cell? ⟨q, 1, none⟩ = some (.int .i64 (last + 1)) := fun d os => cell_regrown (has_cell 1 h2.q rfl) d os
  have H2 := Lib.hid h2
  have HU2 := Lib.hid U2
  clear h2 U2
  refine quiet_tail_below 11 (by kernel_rfl) (by kernel_rfl) ?_
  simp only [List.take_succ_cons, List.take_zero, List.drop_succ_cons, List.drop_zero]
  repeat (quiet_step (fail))
  refine wpQuiet_nil ?_
  rintro _ ⟨⟨dq, osq⟩, rfl⟩
  have b3 := below_regrown W2 dq osq
  obtain ⟨W3, hW3⟩ : ∃ W3, W3 = Go.Sort.grow (redrawn W2 dq) osq := ⟨_, rfl⟩
  rw [← hW3] at b3 ⊢
  obtain ⟨w4, o4, hrun, h4, U4⟩ := (H2.out.reads b3).insert HNE.out HT.out p (last + 1)
  have HB3 := Lib.hid b3
  have H4 := Lib.hid h4
  have HU4 := Lib.hid U4
  clear b3 h4 U4 hW3 f0 f1
  go_wp2_with fail
  refine bodyPost_ret (v := .int .i64 0) (results_tmp (show Tryz.f507.results = #[.tmp 6] from rfl) _ _ _) rfl ?_
  refine ⟨rfl, H4.out, ?_⟩
  have v := ((((Upd2.refl w q g).reads HB1.out).left HU2.out).reads HB3.out).right HU4.out
  exact v
set_option maxHeartbeats 1000000 in
set_option maxRecDepth 100000 in
theorem leave_c (w : World) (q g : Nat) (last : Int) (E : Es) (x : En) (h : Wq w q g last (E ++ [x])) (hne : q ≠ g) (hn : ((E ++ [x]).map (·.1)).Nodup) (h16 : x.1 < 16) :
    Calls Tryz.prog 478 #[.pointer (some ⟨q, 0, none⟩), .int .i64 x.1] w fun e w' => e = .returned (.int .i64 0) ∧ Wq w' q g last E ∧ Upd2 w q g w' := by
  have A := ask_in w q g last _ h hn (x := x) (by simp) h16 1 (by decide) (by decide)
  have hA : ∀ a ∈ E, a.1 ≠ x.1 := by
    rw [List.map_append] at hn
    exact fun a ha => (List.nodup_append.1 hn).2.2 a.1 (List.mem_map.2 ⟨a, ha, rfl⟩) x.1 (by simp)
  have HH := Lib.hid h
  have HNE := Lib.hid hne
  have HA := Lib.hid hA
  clear h hne hn hA
  go_enter Tryz.func478, Tryz.ntmps478
  go_upto_region 3 with (go_at_call 327; refine A.mono ?_; rintro e w1 ⟨rfl, b1⟩; have h1 := HH.out.reads b1; have HB1 := Lib.hid b1; have H1 := Lib.hid h1; have c1 := h1.cell; clear b1 h1 A)
  obtain ⟨w4, o4, hrun, h4, U4⟩ := H1.out.delete HA.out HNE.out
  rw [List.append_nil] at h4
  have H4 := Lib.hid h4
  have HU4 := Lib.hid U4
  clear h4 U4
  go_wp2_with fail
  go_ret
  exact ⟨rfl, H4.out, ((Upd2.refl w q g).reads HB1.out).right HU4.out⟩
set_option maxHeartbeats 1000000 in
set_option maxRecDepth 100000 in
theorem take_c (w : World) (q g : Nat) (last : Int) (x : En) (E : Es) (h : Wq w q g last (x :: E)) (hne : q ≠ g) (hnd : ((x :: E).map (·.1)).Nodup) (h12 : (x :: E).length ≤ 12) (hs : Srt (x :: E)) :
    Calls Tryz.prog 319 #[.pointer (some ⟨q, 0, none⟩)] w fun e w' => e = .returned (.tuple #[.int .i64 x.1, .bool true]) ∧ Wq w' q g last E ∧ Upd2 w q g w' := by
  have F := first_c w q g last x E h hnd h12 hs
  have HH := Lib.hid h
  have HNE := Lib.hid hne
  clear h hne hnd h12 hs
  go_enter Tryz.func319, Tryz.ntmps319
  go_upto_region 3 with (go_at_call 472; refine F.mono ?_; rintro e w1 ⟨rfl, b1⟩; have h1 := HH.out.reads b1; have HB1 := Lib.hid b1; have H1 := Lib.hid h1; have c1 := h1.cell; clear b1 h1 F)
  obtain ⟨w4, o4, hrun, h4, U4⟩ := Wq.delete (A := []) H1.out (fun a ha => (by cases ha)) HNE.out
  have H4 := Lib.hid h4
  have HU4 := Lib.hid U4
  clear h4 U4
  go_wp2_with fail
  go_ret2
  exact ⟨rfl, H4.out, ((Upd2.refl w q g).reads HB1.out).right HU4.out⟩
end Go.Proofs.YtagmlijhgncklaaGreatDoor.Wt
