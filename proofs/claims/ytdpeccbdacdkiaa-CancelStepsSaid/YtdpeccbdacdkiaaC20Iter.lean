/- Going over a cancellation's cleanups: the iterator, and Len, over the translation of this seat. Conditions: the blocks that are named hold what is said. -/
import Derived.Test.YtdpeccbdacdkiaaC20Can3
import Derived.RangeFuncNested
import Derived.RangeFuncBound
import Derived.RangeFuncCalls
import Derived.RangeFuncLeaves
import Derived.Shelf.Abstract
import Derived.Shelf.RegionOpen
import Derived.OwnWalkIn
import Derived.TacticsInMore
import Derived.LoopNIn
import Derived.LoopIn
namespace Go.Proofs.Ytdpeccbdacdkiaa
open Go.RowKit Go.Shelf
attribute [local go_sem] Oper.semAt_some

theorem wide_fn (k : FuncId) : Fence.wide.fn k = True := rfl
theorem wide_round_fn (l : Nat) (k : FuncId) : (Fence.wide.inRound l).fn k = True := rfl
theorem zip1 (p : Nat) (a : Value) : ((#[p] : Array Nat).zip #[a]) = #[(p, a)] := by first | rfl | simp [Array.zip]
theorem fold1 (t : Array Value) (p : Nat) (a : Value) : Array.foldl (fun (t : Array Value) (x : Nat × Value) => t.setIfInBounds x.1 x.2) t #[(p, a)] = t.setIfInBounds p a := by
  first | rfl | simp
attribute [local go_sem] wide_fn wide_round_fn

def encX (x : Int × Int) : Array Value := #[.agg #[.int .i64 x.1, .int .i64 x.2]]
/-- Blocks b and c are as they were. -/
def Keep2 (b c : Nat) (W W' : World) : Prop := W'.heap[b]? = W.heap[b]? ∧ W'.heap[c]? = W.heap[c]?
theorem keep2_t {b c : Nat} {A B C : World} (h : Keep2 b c A B) (k : Keep2 b c B C) : Keep2 b c A C := ⟨k.1.trans h.1, k.2.trans h.2⟩
theorem keep2_b {b c : Nat} {w : World} (hb : b < w.heap.size) (hc : c < w.heap.size) (W : World) (l : Nat) (o o' : Obj) (hl : w.heap.size ≤ l) (_ : W.heap[l]? = some o) (_ : o.isCells = false) (_ : o.isWalk = false) : Keep2 b c W (W.putObj l o') :=
  ⟨World.putObj_heap_other (by omega), World.putObj_heap_other (by omega)⟩
theorem all_c (w : World) (a : Option Addr) : Calls Try.prog 38 #[.pointer a] w fun e w' => e = .returned (.func (.func 40) #[] #[.pointer (some ⟨w.heap.size, 0, none⟩)]) ∧ w'.heap[w.heap.size]? = some (.cells #[.pointer a] 23 (0, 0)) ∧ Below w.heap.size w w' := by
  go_enter Try.func38, Try.ntmps38
  go_wp2
  go_ret
  exact ⟨rfl, heap_alloc_new _ _, (Below.refl _ _).alloc (Nat.le_refl _) _⟩
/-- What speaks of blocks below B is the loop's own to keep. -/
theorem own_has {β : Type} {B c : Nat} (hc : c < B) (f : β → Obj) : OwnFrom B (fun s W => W.heap[c]? = some (f s)) :=
  fun _ _ _ _ hs hg hr => (hg.block c (has_lt hs) (fun e => by have := (hr c e.symm).1; omega)).trans hs
theorem own_pure {β : Type} {B : Nat} (p : β → Prop) : OwnFrom B (fun s (_ : World) => p s) := fun _ _ _ _ hs _ _ => hs
theorem below_mark {w W : World} {B D : Nat} {o : Obj} (hB : Below B w W) (hD : B ≤ D) (hK : W.heap[D]? = some o) (x : Obj) : Below B w (W.putObj D x) :=
  hB.trans ((Below.refl B W).grown (grownBy_putObj' W D x) hB' (fun k e => by cases e; exact hD))
where hB' : B ≤ W.heap.size := Nat.le_trans hD (Nat.le_of_lt (has_lt hK))
theorem rev_take (L : List (Int × Int)) (i k : Nat) (h : i + 1 + k = L.length) : L.reverse.take (k + 1) = L.reverse.take k ++ [(at0 L i, at1 L i)] := by
  have hk : k < L.reverse.length := by simp; omega
  rw [List.take_add_one, List.getElem?_eq_getElem hk]
  congr 1
  rw [List.getElem_reverse]
  simp only [Option.toList_some, List.cons.injEq, and_true]
  unfold at0 at1
  have e : L.length - 1 - k = i := by omega
  simp only [e]
  rw [List.getD_eq_getElem?_getD, List.getElem?_eq_getElem (by omega)]
  rfl

theorem all_stops (n : Nat) (hn : 1 ≤ n) (cb Bn : Nat) (s : Cs) (w : World) (h : w.heap[cb]? = some (canO s)) (hB : w.heap[Bn]? = some (.cells #[.pointer (some ⟨cb, 0, none⟩)] 23 (0, 0))) (hl : s.L.length ≤ 8) :
    SeqStopsK Fence.wide n Try.prog 40 #[.pointer (some ⟨Bn, 0, none⟩)] encX (Keep2 cb Bn) (fun xs => xs = s.L.reverse) (fun pre => pre <+: s.L.reverse) 8 w := by
  intro l J Jx W hW hJ hJx hY h0
  have hT := below_has hW h
  have hb := below_has hW hB
  refine callsIn_of_wp Try.func40 rfl trivial ?_ rfl
  simp only [Try.ntmps40, List.size_toArray, List.length_cons, List.length_nil, Nat.reduceAdd, Nat.reduceSub, Array.replicate_succ, Array.replicate_zero, List.push_toArray, List.append_toArray, List.nil_append, List.cons_append]
  have cb0 := has_cell 0 hb rfl
  have c21 := (can_flags hT hl).2.2.2.2.2
  have hw1 : IntKind.i64.wrap ((s.L.length : Int) - 1) = (s.L.length : Int) - 1 := IntWalk.i64_in _ (by omega)
  gi_wp2_with (gi_at_call 32; refine (callsIn_wide.2 (there_c _ _ _ hT hl)).mono ?_; rintro e w' ⟨rfl, rfl⟩)
  clear hw1
  gi_loopw [3] (fun i wr => ∃ (z : Int) (m k : Nat), i = .int .i64 z ∧ z = (m : Int) - 1 ∧ m + k = s.L.length ∧ J (s.L.reverse.take k) wr ∧ wr.heap[cb]? = some (canO s) ∧ wr.heap[Bn]? = some (.cells #[.pointer (some ⟨cb, 0, none⟩)] 23 (0, 0))) (fun i _ => (intOf i + 1).toNat)
  case atStart => exact ⟨_, s.L.length, 0, rfl, rfl, rfl, by simpa using h0, hT, hb⟩
  case round =>
    obtain ⟨z, m, k, rfl, hz, hmk, hJj, hTj, hbj⟩ := hrel
    have cbj := has_cell 0 hbj rfl
    clear hT hb cb0 c21
    cases m with
    | zero =>
      obtain rfl : z = -1 := by omega
      clear hz
      have hk : s.L.reverse.take k = s.L.reverse := List.take_of_length_le (by simp; omega)
      rw [hk] at hJj
      gi_wp2
      go_end0
      exact ⟨⟨_, rfl⟩, .inl ⟨_, rfl, hJj⟩⟩
    | succ i =>
      obtain rfl : z = (i : Int) := by omega
      have HK := Lib.hid hmk
      clear hz
      have hi8 : i < 8 := by omega
      have hii : (i : Int) < 8 := by omega
      have hi0 : ¬ (i : Int) < 0 := by omega
      obtain ⟨d0, d1⟩ := can_row hTj hl i hi8
      have hw1 : IntKind.i64.wrap ((i : Int) - 1) = (i : Int) - 1 := IntWalk.i64_in _ (by omega)
      obtain ⟨fn, tmps, assign, body, hy, hR⟩ := hY (s.L.reverse.take k) (at0 s.L i, at1 s.L i) wr hJj (by simp; omega)
      rw [← rev_take s.L i k hmk] at hR
      dsimp only [encX] at hy
      gi_wp2
      refine hR.mono ?_
      rintro e W3 (⟨rfl, hJ3, hk3⟩ | ⟨rfl, hJx3⟩)
      · have hT3 := hk3.1.trans hTj
        have hb3 := hk3.2.trans hbj
        gi_wp2
        go_roundw
        case rel => exact ⟨(i : Int) - 1, i, k + 1, rfl, rfl, by omega, hJ3, hT3, hb3⟩
        case measure => simp [intOf]
      · gi_wp2
        refine bodyPost_ret (results_none rfl _ _ _) rfl ?_
        exact ⟨⟨_, rfl⟩, .inr ⟨s.L.reverse.take (k + 1), List.take_prefix _ _, hJx3⟩⟩

/-- What a walk of a function with such a loop ends in, at the widest fence. -/
theorem calls_of_marks {P : Program} {f : FuncId} {fn : Func} {c : Code} {args : Array Value} {w : World} {R : Ending → World → Prop} (n : Nat)
    (hf : P.funcs[f]? = some fn) (hb : fn.body = some c)
    (h : c.wpIn Fence.wide n P (bodyPostM Fence.wide n P fn R) { tmps := args ++ Array.replicate (fn.ntmps - args.size) undef, defers := [] } w) : Calls P f args w R :=
  callsIn_wide.1 (callsIn_of_wp_marks hf hb trivial h rfl)
theorem enters40 : ∀ args w, (callFunc 40 args).run Try.prog w = .ok (.enter 40 args) w := enters_of Try.func40 (by kernel_rfl) rfl

set_option maxRecDepth 100000 in
theorem len_c (w : World) (cb : Nat) (s : Cs) (h : w.heap[cb]? = some (canO s)) (hl : s.L.length ≤ 8) :
    Calls Try.prog 23 #[.pointer (some ⟨cb, 0, none⟩)] w fun e w' => e = .returned (.int .i64 s.L.length) ∧ Below w.heap.size w w' := by
  refine calls_of_marks 4 Try.func23 rfl ?_
  simp only [Try.ntmps23, List.size_toArray, List.length_cons, List.length_nil, Nat.reduceAdd, Nat.reduceSub, Array.replicate_succ, Array.replicate_zero, List.push_toArray, List.append_toArray, List.nil_append, List.cons_append]
  gi_wp2_with (gi_at_call 38; refine (callsIn_wide.2 (all_c _ _)).mono ?_; rintro e w' ⟨rfl, hcap, hbel⟩)
  have hT := below_has hbel (below_alloc_has (o := .cells #[.int .i64 0] 3) h)
  have hc0 := below_has hbel (heap_alloc_new w (.cells #[.int .i64 0] 3))
  have hb0 : Below w.heap.size w w' := below_news (hbel.mono (by simp))
  rw [World.size_alloc] at hcap
  have htb : cb < w.heap.size := has_lt h
  have hsz : w.heap.size + 1 < w'.heap.size := has_lt hcap
  refine wpIn_rangeFunc_ownF rfl (by decide) (gf := 40) (lb := #[.pointer (some ⟨w.heap.size + 1, 0, none⟩)]) rfl trivial enters40
    (all_stops 3 (by decide) cb (w.heap.size + 1) s w' hT hcap hl) keep2_t (keep2_b (by omega) (by omega)) (Below.refl _ _) (fun _ => rfl)
    (fun (pre : List (Int × Int)) W => W.heap[w.heap.size]? = some (.cells #[.int .i64 (pre.length : Nat)] 3 (0, 0)) ∧ Below w.heap.size w W) (fun _ _ _ => False)
    (OwnFrom.and (own_has (by omega) _) (ownFrom_below (Nat.le_refl _) (by omega))) (fun _ => own_pure _) ⟨hc0, hb0⟩
    (fun x => { tmps := #[.pointer (some ⟨cb, 0, none⟩), undef, .int .i64 0, .pointer (some ⟨w.heap.size, 0, none⟩), .pointer (some ⟨cb, 0, none⟩), .func (.func 40) #[] #[.pointer (some ⟨w.heap.size + 1, 0, none⟩)], .agg #[.int .i64 x.1, .int .i64 x.2], undef, undef, undef], defers := [] })
    ?assign ?body ?done ?stop
  case assign =>
    intro l x W K hK
    simp only [encX, zip1, fold1, List.setIfInBounds_toArray, List.set_cons_succ, List.set_cons_zero]
    gi_wp2
    exact hK
  case body =>
    rintro l pre x W ⟨hc, hB⟩ hlen
    have c0 := has_cell 0 hc rfl
    have f0 := has_free hc
    have hw : IntKind.i64.wrap ((pre.length : Int) + 1) = (pre.length : Int) + 1 := IntWalk.i64_in _ (by omega)
    gi_wp2
    have U := (Upd.refl hc).setCell 0 (.int .i64 ((pre.length : Int) + 1))
    exact ⟨KeepsOthers.setCell _ _ _, ⟨Below.heap_setCell _ _ _ _ (by simp; omega), Below.heap_setCell _ _ _ _ (by simp)⟩, by simpa using U.1, hB.trans (U.below (Nat.le_refl _) hB.size)⟩
  case done =>
    rintro D ys W hD rfl ⟨hc, hB⟩ hK
    rw [List.length_reverse] at hc
    have c0 := has_cell 0 hc rfl
    gi_wp2
    refine ⟨by simp, .inl ⟨_, _, rfl, run_takeDeferred hK, ?_⟩⟩
    exact ⟨_, results_tmp rfl _ _ _, rfl, below_mark hB (by omega) hK _⟩
  case stop =>
    rintro D c pre W _ _ h _
    exact h.elim
end Go.Proofs.Ytdpeccbdacdkiaa
