/-
  Going over a table's places: the iterator, and At, Len, Drop, over the translation of this seat. Conditions: the blocks that are named hold what is said.
-/
import Derived.Test.YtagmlijhgncklaaGreatDoorW16
import Derived.RangeFuncNested
import Derived.RangeFuncBound
import Derived.RangeFuncCalls
import Derived.RangeFuncLeaves
import Derived.Shelf.Abstract
import Derived.Shelf.RegionOpen
import Derived.OwnWalkIn
import Derived.TacticsInMore
import Derived.LoopNIn
import Derived.LoopIn
set_option linter.unusedVariables false
namespace Go.Proofs.YtagmlijhgncklaaGreatDoor.Tab
open Go.RowKit Go.Shelf
attribute [local go_sem] Oper.semAt_some

theorem wide_fn (k : FuncId) : Fence.wide.fn k = True := rfl
theorem wide_round_fn (l : Nat) (k : FuncId) : (Fence.wide.inRound l).fn k = True := rfl
theorem zip2 (p q : Nat) (a b : Value) : ((#[p, q] : Array Nat).zip #[a, b]) = #[(p, a), (q, b)] := by first | rfl | simp [Array.zip]
theorem fold2 (t : Array Value) (p q : Nat) (a b : Value) : Array.foldl (fun (t : Array Value) (x : Nat × Value) => t.setIfInBounds x.1 x.2) t #[(p, a), (q, b)] = (t.setIfInBounds p a).setIfInBounds q b := by
  first | rfl | simp
attribute [local go_sem] wide_fn wide_round_fn

/-- What a going over a table hands to a round: a place and its handle. -/
def encH (x : Nat × Int) : Array Value := #[.int .i64 x.1, .int .i64 x.2]
def rowsTo (L : List (Bool × Int)) (k : Nat) : List (Nat × Int) := (List.range k).filterMap fun i => if tk L i = true then some (i, (i : Int) + 16 * gn L i) else none
theorem rowsTo_yes {L : List (Bool × Int)} {k : Nat} (h : tk L k = true) : rowsTo L (k + 1) = rowsTo L k ++ [(k, (k : Int) + 16 * gn L k)] := by
  simp [rowsTo, List.range_succ, h]
theorem rowsTo_no {L : List (Bool × Int)} {k : Nat} (h : tk L k = false) : rowsTo L (k + 1) = rowsTo L k := by
  simp [rowsTo, List.range_succ, h]
theorem rowsTo_pre (L : List (Bool × Int)) {j k : Nat} (h : j ≤ k) : rowsTo L j <+: rowsTo L k := by
  induction k with
  | zero => obtain rfl : j = 0 := by omega
            exact List.prefix_refl _
  | succ k ih =>
    by_cases e : j = k + 1
    · subst e; exact List.prefix_refl _
    · refine (ih (by omega)).trans ?_
      cases ht : tk L k
      · rw [rowsTo_no ht]; exact List.prefix_refl _
      · rw [rowsTo_yes ht]; exact ⟨_, rfl⟩
theorem rowsTo_len (L : List (Bool × Int)) (k : Nat) : (rowsTo L k).length ≤ k := by
  have := List.length_filterMap_le (fun i => if tk L i = true then some (i, (i : Int) + 16 * gn L i) else none) (List.range k)
  simpa [rowsTo] using this
/-- Blocks b and c are as they were. -/
def Keep2 (b c : Nat) (W W' : World) : Prop := W'.heap[b]? = W.heap[b]? ∧ W'.heap[c]? = W.heap[c]?
theorem keep2_t {b c : Nat} {A B C : World} (h : Keep2 b c A B) (k : Keep2 b c B C) : Keep2 b c A C := ⟨k.1.trans h.1, k.2.trans h.2⟩
theorem keep2_b {b c : Nat} {w : World} (hb : b < w.heap.size) (hc : c < w.heap.size) (W : World) (l : Nat) (o o' : Obj) (hl : w.heap.size ≤ l) (_ : W.heap[l]? = some o) (_ : o.isCells = false) (_ : o.isWalk = false) : Keep2 b c W (W.putObj l o') :=
  ⟨World.putObj_heap_other (by omega), World.putObj_heap_other (by omega)⟩

theorem all_c (w : World) (a : Option Addr) : Calls Tryz.prog 109 #[.pointer a] w fun e w' => e = .returned (.func (.func 178) #[] #[.pointer (some ⟨w.heap.size, 0, none⟩)]) ∧ w'.heap[w.heap.size]? = some (.cells #[.pointer a] 70 (0, 0)) ∧ Below w.heap.size w w' := by
  go_enter Tryz.func109, Tryz.ntmps109
  go_wp2
  go_ret
  exact ⟨rfl, heap_alloc_new _ _, (Below.refl _ _).alloc (Nat.le_refl _) _⟩

/-- What speaks of blocks below B is the loop's own to keep. -/
theorem own_has {β : Type} {B c : Nat} (hc : c < B) (f : β → Obj) : OwnFrom B (fun s W => W.heap[c]? = some (f s)) :=
  fun _ _ _ _ hs hg hr => (hg.block c (has_lt hs) (fun e => by have := (hr c e.symm).1; omega)).trans hs
theorem own_pure {β : Type} {B : Nat} (p : β → Prop) : OwnFrom B (fun s (_ : World) => p s) := fun _ _ _ _ hs _ _ => hs
theorem below_mark {w W : World} {B D : Nat} {o : Obj} (hB : Below B w W) (hD : B ≤ D) (hK : W.heap[D]? = some o) (x : Obj) : Below B w (W.putObj D x) :=
  hB.trans ((Below.refl B W).grown (grownBy_putObj' W D x) hB' (fun k e => by cases e; exact hD))
where hB' : B ≤ W.heap.size := Nat.le_trans hD (Nat.le_of_lt (has_lt hK))

theorem all_stops (n : Nat) (hn : 1 ≤ n) (tb Bn : Nat) (L : List (Bool × Int)) (w : World) (h : w.heap[tb]? = some (tabO L)) (hB : w.heap[Bn]? = some (.cells #[.pointer (some ⟨tb, 0, none⟩)] 70 (0, 0)))
    (h1 : 1 ≤ L.length) (h2 : L.length ≤ 16) (hg : genOk L 1000) :
    SeqStopsK Fence.wide n Tryz.prog 178 #[.pointer (some ⟨Bn, 0, none⟩)] encH (Keep2 tb Bn) (fun xs => xs = rowsTo L L.length) (fun pre => pre <+: rowsTo L L.length) 16 w := by
  intro l J Jx W hW hJ hJx hY h0
  have hT := below_has hW h
  have hb := below_has hW hB
  refine callsIn_of_wp Tryz.func178 rfl trivial ?_ rfl
  simp only [Tryz.ntmps178, List.size_toArray, List.length_cons, List.length_nil, Nat.reduceAdd, Nat.reduceSub, Array.replicate_succ, Array.replicate_zero, List.push_toArray, List.append_toArray, List.nil_append, List.cons_append]
  have cb := has_cell 0 hb rfl
  gi_wp2_with (gi_at_call 179; refine (callsIn_wide.2 (places_c _ _ _ hT h1 h2)).mono ?_; rintro e w' ⟨rfl, rfl⟩)
  gi_loopw [8] (fun i wr => ∃ j : Nat, i = .int .i64 j ∧ j ≤ L.length ∧ J (rowsTo L j) wr ∧ wr.heap[tb]? = some (tabO L) ∧ wr.heap[Bn]? = some (.cells #[.pointer (some ⟨tb, 0, none⟩)] 70 (0, 0))) (fun i _ => L.length - (intOf i).toNat)
  case atStart => exact ⟨0, rfl, by omega, h0, hT, hb⟩
  case round =>
    obtain ⟨j, rfl, hj, hJj, hTj, hbj⟩ := hrel
    have cbj := has_cell 0 hbj rfl
    clear hT hb cb
    by_cases hlt : j < L.length
    · cases ht : tk L j
      · have hof : ofF L (j : Int) = (0, false) := by simp [ofF, ht]
        have HO := Lib.hid hof
        have HT := Lib.hid ht
        clear hof ht
        gi_wp2_with (gi_at_call 108; refine (callsIn_wide.2 (of_c _ _ _ _ hTj h1 h2 hg HO.out)).mono ?_; rintro e w' ⟨rfl, rfl⟩)
        go_roundw
        case rel => exact ⟨j + 1, by go_num, by omega, by rw [rowsTo_no HT.out]; exact hJj, hTj, hbj⟩
        case measure => simp [intOf]; omega
      · have hof : ofF L (j : Int) = ((j : Int) + 16 * gn L j, true) := by simp [ofF, ht, hlt]
        have HO := Lib.hid hof
        have HT := Lib.hid ht
        clear hof ht
        obtain ⟨fn, tmps, assign, body, hy, hR⟩ := hY (rowsTo L j) (j, (j : Int) + 16 * gn L j) wr hJj (by have := rowsTo_len L j; omega)
        dsimp only [encH] at hy
        gi_wp2_with (gi_at_call 108; refine (callsIn_wide.2 (of_c _ _ _ _ hTj h1 h2 hg HO.out)).mono ?_; rintro e w' ⟨rfl, rfl⟩)
        refine hR.mono ?_
        rintro e W3 (⟨rfl, hJ3, hk3⟩ | ⟨rfl, hJx3⟩)
        · have hT3 := hk3.1.trans hTj
          have hb3 := hk3.2.trans hbj
          gi_wp2
          go_roundw
          case rel => exact ⟨j + 1, by go_num, by omega, by rw [rowsTo_yes HT.out]; exact hJ3, hT3, hb3⟩
          case measure => simp [intOf]; omega
        · gi_wp2
          refine bodyPost_ret (results_none rfl _ _ _) rfl ?_
          exact ⟨⟨_, rfl⟩, .inr ⟨rowsTo L j ++ [(j, (j : Int) + 16 * gn L j)], by rw [← rowsTo_yes HT.out]; exact rowsTo_pre L (by omega), hJx3⟩⟩
    · obtain rfl : j = L.length := by omega
      gi_wp2
      go_end0
      exact ⟨⟨_, rfl⟩, .inl ⟨_, rfl, hJj⟩⟩

/-- What a walk of a function with such a loop ends in, at the widest fence. -/
theorem calls_of_marks {P : Program} {f : FuncId} {fn : Func} {c : Code} {args : Array Value} {w : World} {R : Ending → World → Prop} (n : Nat)
    (hf : P.funcs[f]? = some fn) (hb : fn.body = some c)
    (h : c.wpIn Fence.wide n P (bodyPostM Fence.wide n P fn R) { tmps := args ++ Array.replicate (fn.ntmps - args.size) undef, defers := [] } w) : Calls P f args w R :=
  callsIn_wide.1 (callsIn_of_wp_marks hf hb trivial h rfl)

theorem enters178 : ∀ args w, (callFunc 178 args).run Tryz.prog w = .ok (.enter 178 args) w := enters_of Tryz.func178 (by kernel_rfl) rfl

/-- At: where a handle stands. -/
def atF (L : List (Bool × Int)) (h : Int) : Option Nat := (List.range L.length).find? fun i => tk L i && ((i : Int) + 16 * gn L i == h)
theorem at_some {L : List (Bool × Int)} {h : Int} {i : Nat} (hf : atF L h = some i) : i < L.length ∧ tk L i = true ∧ (i : Int) + 16 * gn L i = h ∧ ∀ j, j < i → ¬ (tk L j = true ∧ (j : Int) + 16 * gn L j = h) := by
  unfold atF at hf
  rw [List.find?_eq_some_iff_getElem] at hf
  obtain ⟨hp, j, hj, he, hb⟩ := hf
  simp at hj he hp
  subst he
  refine ⟨hj, hp.1, hp.2, fun k hk hh => ?_⟩
  have := hb k hk
  simp [hh.1, hh.2] at this
theorem at_none {L : List (Bool × Int)} {h : Int} (hf : atF L h = none) : ∀ j, j < L.length → ¬ (tk L j = true ∧ (j : Int) + 16 * gn L j = h) := by
  unfold atF at hf
  rw [List.find?_eq_none] at hf
  intro j hj hh
  have := hf j (by simpa using hj)
  simp [hh.1, hh.2] at this
theorem mem_rowsTo {L : List (Bool × Int)} {k : Nat} {x : Nat × Int} : x ∈ rowsTo L k ↔ x.1 < k ∧ tk L x.1 = true ∧ x.2 = (x.1 : Int) + 16 * gn L x.1 := by
  simp only [rowsTo, List.mem_filterMap, List.mem_range]
  constructor
  · rintro ⟨i, hi, h⟩
    split at h
    · rename_i ht
      cases h
      exact ⟨hi, ht, rfl⟩
    · cases h
  · rintro ⟨h1, h2, h3⟩
    exact ⟨x.1, h1, by rw [if_pos h2, ← h3]⟩
/-- The value of At. -/
def atV (o : Option Nat) : Value := .tuple #[.int .i64 (o.getD 0 : Nat), .bool o.isSome]

set_option maxRecDepth 100000 in
set_option maxHeartbeats 400000 in
theorem at_c (w : World) (tb : Nat) (L : List (Bool × Int)) (hd : Int) (h : w.heap[tb]? = some (tabO L)) (h1 : 1 ≤ L.length) (h2 : L.length ≤ 16) (hg : genOk L 1000) :
    Calls Tryz.prog 66 #[.pointer (some ⟨tb, 0, none⟩), .int .i64 hd] w fun e w' => e = .returned (atV (atF L hd)) ∧ Below w.heap.size w w' := by
  refine calls_of_marks 4 Tryz.func66 rfl ?_
  simp only [Tryz.ntmps66, List.size_toArray, List.length_cons, List.length_nil, Nat.reduceAdd, Nat.reduceSub, Array.replicate_succ, Array.replicate_zero, List.push_toArray, List.append_toArray, List.nil_append, List.cons_append]
  gi_wp2_with (gi_at_call 109; refine (callsIn_wide.2 (all_c _ _)).mono ?_; rintro e w' ⟨rfl, hcap, hbel⟩)
  have hb00 : Below w.heap.size w (((w.alloc (.cells #[.int .i64 hd] 2)).alloc (.cells #[.int .i64 0] 3)).alloc (.cells #[.bool false] 4)) := (((Below.refl _ w).alloc (Nat.le_refl _) _).alloc (by simp) _).alloc (by simp; omega) _
  have hT := below_has hbel (below_has hb00 h)
  have g1 := below_has hbel (below_alloc_has (o := .cells #[.bool false] 4) (below_alloc_has (o := .cells #[.int .i64 0] 3) (heap_alloc_new w (.cells #[.int .i64 hd] 2))))
  have g2 := below_has hbel (below_alloc_has (o := .cells #[.bool false] 4) (heap_alloc_new (w.alloc (.cells #[.int .i64 hd] 2)) (.cells #[.int .i64 0] 3)))
  have g3 := below_has hbel (heap_alloc_new ((w.alloc (.cells #[.int .i64 hd] 2)).alloc (.cells #[.int .i64 0] 3)) (.cells #[.bool false] 4))
  have hb0 : Below w.heap.size w w' := hb00.trans (hbel.mono hb00.size)
  simp only [World.size_alloc] at hcap g2 g3
  have htb : tb < w.heap.size := has_lt h
  have hsz : w.heap.size + 1 + 1 + 1 < w'.heap.size := has_lt hcap
  clear hbel hb00
  refine wpIn_rangeFunc_ownF rfl (by decide) (gf := 178) (lb := #[.pointer (some ⟨w.heap.size + 1 + 1 + 1, 0, none⟩)]) rfl trivial enters178
    (all_stops 3 (by decide) tb (w.heap.size + 1 + 1 + 1) L w' hT hcap h1 h2 hg) keep2_t (keep2_b (by omega) (by omega)) (Below.refl _ _) (fun _ => rfl)
    (fun (pre : List (Nat × Int)) (W : World) => (∀ y ∈ pre, y.2 ≠ hd) ∧ W.heap[w.heap.size]? = some (.cells #[.int .i64 hd] 2 (0, 0)) ∧ W.heap[w.heap.size + 1]? = some (.cells #[.int .i64 0] 3 (0, 0)) ∧ W.heap[w.heap.size + 1 + 1]? = some (.cells #[.bool false] 4 (0, 0)) ∧ Below w.heap.size w W)
    (fun (c : Code) (pre : List (Nat × Int)) (W : World) => c = .ret ∧ ∃ (q : List (Nat × Int)) (x : Nat × Int), pre = q ++ [x] ∧ x.2 = hd ∧ (∀ y ∈ q, y.2 ≠ hd) ∧ W.heap[w.heap.size + 1]? = some (.cells #[.int .i64 (x.1 : Nat)] 3 (0, 0)) ∧ W.heap[w.heap.size + 1 + 1]? = some (.cells #[.bool true] 4 (0, 0)) ∧ Below w.heap.size w W)
    ((own_pure _).and ((own_has (by omega) _).and ((own_has (by omega) _).and ((own_has (by omega) _).and (ownFrom_below (Nat.le_refl _) (by omega))))))
    (fun c s A B row ⟨hc, q, x, e1, e2, e3, k1, k2, k3⟩ hg hr => ⟨hc, q, x, e1, e2, e3, own_has (β := Unit) (B := w'.heap.size) (by omega) (fun _ => _) () A B row k1 hg hr, own_has (β := Unit) (B := w'.heap.size) (by omega) (fun _ => _) () A B row k2 hg hr, ownFrom_below (β := Unit) (n₀ := w.heap.size) (B := w'.heap.size) (w₀ := w) (Nat.le_refl _) (by omega) () A B row k3 hg hr⟩)
    ⟨(fun y hy => by cases hy), g1, g2, g3, hb0⟩
    (fun x => { tmps := #[.pointer (some ⟨tb, 0, none⟩), .int .i64 hd, undef, .pointer (some ⟨w.heap.size, 0, none⟩), .pointer (some ⟨w.heap.size + 1, 0, none⟩), .pointer (some ⟨w.heap.size + 1 + 1, 0, none⟩), .int .i64 x.1, .int .i64 x.2, .pointer (some ⟨tb, 0, none⟩), .func (.func 178) #[] #[.pointer (some ⟨w.heap.size + 1 + 1 + 1, 0, none⟩)], .int .i64 x.1, .int .i64 x.2, undef, undef, undef, undef], defers := [] })
    ?assign ?body ?done ?stop
  case assign =>
    intro l x W K hK
    simp only [encH, zip2, fold2, List.setIfInBounds_toArray, List.set_cons_succ, List.set_cons_zero]
    gi_wp2
    exact hK
  case body =>
    rintro l pre x W ⟨hp, k1, k2, k3, hB⟩ hlen
    have c0 := has_cell 0 k1 rfl
    have c1 := has_cell 0 k2 rfl
    have c2 := has_cell 0 k3 rfl
    have f1 := has_free k2
    have f2 := has_free k3
    have HP := Lib.hid hp
    clear hp
    by_cases hx : x.2 = hd
    · have hb : (x.2 == hd) = true := by simpa using hx
      have HX := Lib.hid hx
      clear hx
      gi_wp2
      have U1 := (Upd.refl k2).setCell 0 (.int .i64 (x.1 : Nat))
      have k3' := U1.other k3 (by omega)
      have U2 := (Upd.refl k3').setCell 0 (.bool true)
      have k2' := U2.other U1.1 (by omega)
      exact ⟨(KeepsOthers.setCell _ _ _).trans (KeepsOthers.setCell _ _ _), rfl, pre, x, rfl, HX.out, HP.out, by simpa using k2', by simpa using U2.1, (hB.trans (U1.below (by omega) hB.size)).trans (U2.below (by omega) (hB.trans (U1.below (by omega) hB.size)).size)⟩
    · have hb : (x.2 == hd) = false := by simpa using hx
      have HX := Lib.hid hx
      clear hx
      gi_wp2
      exact ⟨KeepsOthers.refl _, ⟨rfl, rfl⟩, fun y hy => (List.mem_append.1 hy).elim (HP.out y) (fun e => by simp at e; subst e; exact HX.out), k1, k2, k3, hB⟩
  case done =>
    rintro D ys W hD rfl ⟨hp, k1, k2, k3, hB⟩ hK
    have c1 := has_cell 0 k2 rfl
    have c2 := has_cell 0 k3 rfl
    have f1 := has_free k2
    have f2 := has_free k3
    gi_wp2
    have U1 := (Upd.refl k2).setCell 0 (.int .i64 0)
    have k3' := U1.other k3 (by omega)
    have U2 := (Upd.refl k3').setCell 0 (.bool false)
    have k2' := U2.other U1.1 (by omega)
    have hK2 := ((KeepsOthers.setCell W ⟨w.heap.size + 1, 0, none⟩ (.int .i64 0)).trans (KeepsOthers.setCell _ ⟨w.heap.size + 1 + 1, 0, none⟩ (.bool false))).same D _ hK rfl
    have hB2 := (hB.trans (U1.below (by omega) hB.size)).trans (U2.below (by omega) (hB.trans (U1.below (by omega) hB.size)).size)
    refine ⟨by simp, .inl ⟨_, _, rfl, run_takeDeferred hK2, ?_⟩⟩
    have q1 := has_cell (w := World.putObj _ D (.deferred none)) (b := w.heap.size + 1) 0 (v := .int .i64 0) ((World.putObj_heap_other (by omega)).trans k2') (by simp)
    have q2 := has_cell (w := World.putObj _ D (.deferred none)) (b := w.heap.size + 1 + 1) 0 (v := .bool false) ((World.putObj_heap_other (by omega)).trans U2.1) (by simp)
    refine ⟨atV none, ?_, ?_, below_mark hB2 (by omega) hK2 _⟩
    · simp [results, Tryz.f66, go_sem, q1, q2, atV]
    · rw [show atF L hd = none from ?_]
      cases hf : atF L hd with
      | none => rfl
      | some i =>
        obtain ⟨i1, i2, i3, _⟩ := at_some hf
        exact absurd i3 (hp (i, (i : Int) + 16 * gn L i) (mem_rowsTo.2 ⟨i1, i2, rfl⟩))
  case stop =>
    rintro D c pre W hD hpre ⟨rfl, q, x, rfl, hx, hq, k2, k3, hB⟩ hK
    have c1 := has_cell 0 k2 rfl
    have c2 := has_cell 0 k3 rfl
    gi_wp2
    refine ⟨by simp, .inl ⟨_, _, rfl, run_takeDeferred hK, ?_⟩⟩
    have q1 := has_cell (w := W.putObj D (.deferred none)) (b := w.heap.size + 1) 0 (v := .int .i64 (x.1 : Nat)) ((World.putObj_heap_other (by omega)).trans k2) (by simp)
    have q2 := has_cell (w := W.putObj D (.deferred none)) (b := w.heap.size + 1 + 1) 0 (v := .bool true) ((World.putObj_heap_other (by omega)).trans k3) (by simp)
    refine ⟨atV (some x.1), ?_, ?_, below_mark hB (by omega) hK _⟩
    · simp [results, Tryz.f66, go_sem, q1, q2, atV]
    · obtain ⟨x1, x2, x3⟩ := mem_rowsTo.1 (hpre.subset (List.mem_append.2 (.inr (List.mem_singleton.2 rfl))))
      rw [show atF L hd = some x.1 from ?_]
      cases hf : atF L hd with
      | none => exact absurd ⟨x2, by omega⟩ (at_none hf x.1 x1)
      | some i =>
        obtain ⟨i1, i2, i3, i4⟩ := at_some hf
        congr 1
        omega

/-! Drop. -/
theorem drop_c (w : World) (b : Nat) (L : List (Bool × Int)) (hd : Int) (i : Nat) (h : w.heap[b]? = some (tabO L)) (h1 : 1 ≤ L.length) (h2 : L.length ≤ 16) (hg : genOk L 1000) (hf : atF L hd = some i) :
    Calls Tryz.prog 487 #[.pointer (some ⟨b, 0, none⟩), .int .i64 hd] w fun e w' => e = .returned (.int .i64 0) ∧ Upd w b (tabO (L.set i (false, gn L i))) w' := by
  have C := at_c w b L hd h h1 h2 hg
  rw [hf] at C
  obtain ⟨hi, _, _, _⟩ := at_some hf
  have HC := Lib.hid C
  clear C hf
  have hi16 : (i : Int) < 16 := by omega
  go_enter Tryz.func487, Tryz.ntmps487
  go_wp2_with fail
  refine HC.out.mono ?_
  rintro e w1 ⟨rfl, hB⟩
  have hT := below_has hB h
  have HT := Lib.hid hT
  obtain ⟨c1, c2⟩ := (tab_cells hT h2).2 i (by omega)
  have fz := has_free hT
  clear hT
  simp only [atV, Option.getD_some, Option.isSome_some]
  go_wp2_with (go_at_call 107; refine (there_c _ _ _ HT.out h1 h2).mono ?_; rintro e w' ⟨rfl, rfl⟩)
  go_ret
  exact ⟨rfl, Upd.after hB (((Upd.refl HT.out).setCell (i * 2) (.bool false)).to (by rw [tabO, tab_set0 false hi h2]))⟩
end Go.Proofs.YtagmlijhgncklaaGreatDoor.Tab
