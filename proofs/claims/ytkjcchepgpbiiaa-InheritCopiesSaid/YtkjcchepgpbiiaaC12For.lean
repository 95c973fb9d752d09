/- Going over those that wait for one: the iterator, over the translation of this seat. Conditions: the blocks that are named hold what is said. -/
import Derived.Test.YtkjcchepgpbiiaaC12Do
import Derived.RangeFuncNested
import Derived.RangeFuncBound
import Derived.RangeFuncCalls
import Derived.RangeFuncLeaves
import Derived.Shelf.Abstract
import Derived.Shelf.RegionOpen
import Derived.OwnWalkIn
import Derived.TacticsInMore
import Derived.LoopNIn
import Derived.LoopIn
namespace Go.Proofs.Ytkjcchepgpbiiaa
open Go.RowKit Go.Shelf
attribute [local go_sem] Oper.semAt_some

theorem wide_fn (k : FuncId) : Fence.wide.fn k = True := rfl
theorem wide_round_fn (l : Nat) (k : FuncId) : (Fence.wide.inRound l).fn k = True := rfl
theorem zip1 (p : Nat) (a : Value) : ((#[p] : Array Nat).zip #[a]) = #[(p, a)] := by first | rfl | simp [Array.zip]
theorem fold1 (t : Array Value) (p : Nat) (a : Value) : Array.foldl (fun (t : Array Value) (x : Nat × Value) => t.setIfInBounds x.1 x.2) t #[(p, a)] = t.setIfInBounds p a := by
  first | rfl | simp
attribute [local go_sem] wide_fn wide_round_fn

/-- Those that wait for t, of the first k. -/
def forTo (wt : Nat → Int) (t : Int) (k : Nat) : List Int := nL ((List.range k).filter (fun i => decide (wt i = t)))
def forL (s : Gs) (t : Int) : List Int := if inF s t = true then forTo s.wt t s.n else []
theorem forTo_yes {wt : Nat → Int} {t : Int} {k : Nat} (h : wt k = t) : forTo wt t (k + 1) = forTo wt t k ++ [(k : Int)] := by
  unfold forTo
  rw [List.range_succ, List.filter_append, ← nL_one]
  simp [h]
theorem forTo_no {wt : Nat → Int} {t : Int} {k : Nat} (h : wt k ≠ t) : forTo wt t (k + 1) = forTo wt t k := by
  unfold forTo
  rw [List.range_succ, List.filter_append]
  simp [h]
theorem forTo_length (wt : Nat → Int) (t : Int) (k : Nat) : (forTo wt t k).length ≤ k := by
  unfold forTo
  rw [nL_length]
  exact Nat.le_trans (List.length_filter_le _ _) (by simp)
theorem own_not {w : World} {base b : Nat} {v : Value} {l : List Int} (h : OwnL w base v l) (hb : b < base) : v.ownBlock = none ∨ v.ownBlock ≠ some b := by
  rcases h.2 with ⟨rfl, _⟩ | ⟨g, cap, cur, rfl, hg, _⟩
  · exact .inl rfl
  · refine .inr ?_
    simp [Value.ownBlock]; omega
theorem own_upd {W W' : World} {c B : Nat} {v : Value} {l : List Int} {o : Obj} (h : OwnL W B v l) (u : Upd W c o W') (hc : c < B) : OwnL W' B v l := World.ownsRow.kept h u.2 (own_not h hc)
theorem block_kept {w w' : World} {c B : Nat} {v : Value} {l : List Int} {o : Obj} (h : OwnL w B v l) (hg : w.grownBy w' v.ownBlock) (hc : w.heap[c]? = some o) (hB : c < B) : w'.heap[c]? = some o := by
  refine (hg.block c (has_lt hc) ?_).trans hc
  rcases own_not h hB with e | e
  · rw [e]; simp
  · exact fun e' => e e'.symm
set_option maxHeartbeats 1000000 in
theorem for_c (w : World) (b : Nat) (s : Gs) (t : Int) (h : w.heap[b]? = some (gO s)) (ok : GOk s) : Calls Try.prog 21 #[.pointer (some ⟨b, 0, none⟩), .int .i64 t] w fun e w' => ∃ v : Value, e = .returned (.func (.func 31) #[] #[.pointer (some ⟨w.heap.size, 0, none⟩)]) ∧ w'.heap[w.heap.size]? = some (.cells #[v] 33 (0, 0)) ∧ OwnL w' (w.heap.size + 1) v (forL s t) ∧ Below w.heap.size w w' ∧ w.heap.size < w'.heap.size := by
  have n2 := ok.n2
  have hbw := has_lt h
  by_cases hin : inF s t = true
  · have hF : forL s t = forTo s.wt t s.n := if_pos hin
    rw [hF]
    obtain ⟨t, rfl, ht⟩ := inF_nat hin
    go_enter Try.func21, Try.ntmps21
    go_upto_region 2 with fail
    refine world_wp (fun W => Below w.heap.size w W ∧ W.heap[w.heap.size]? = some (.cells #[.slice none 0 0] 33 (0, 0)) ∧ w.heap.size < W.heap.size) ⟨(Below.refl _ _).alloc (Nat.le_refl _) _, heap_alloc_new _ _, by simp⟩ ?_
    rintro W ⟨hB, hX, hz⟩
    have hG := below_has hB h
    have c0 := (g_cells hG).1
    go_wp2_with (first | (go_at_call 24; refine (is_c _ _ _ hG ok).mono ?_; rintro e w' ⟨rfl, rfl⟩) | (go_at_call 26; refine (in_c _ _ _ _ hG hin).mono ?_; rintro e w' ⟨rfl, rfl⟩))
    clear c0 hG
    have HT := Lib.hid ht
    have HI := Lib.hid hin
    have HF := Lib.hid hF
    clear ht hin hF
    have ht16 : (t : Int) < 16 := by have := HT.out; omega
    go_loopw [18] (fun i wr => ∃ (k : Nat) (v : Value), i = .int .i64 k ∧ k ≤ s.n ∧ wr.heap[w.heap.size]? = some (.cells #[v] 33 (0, 0)) ∧ OwnL wr (w.heap.size + 1) v (forTo s.wt t k) ∧ Below w.heap.size w wr ∧ w.heap.size < wr.heap.size) (fun i _ => s.n - (intOf i).toNat)
    case atStart => exact ⟨0, _, rfl, Nat.zero_le _, hX, own_nil _ _, hB, hz⟩
    case round =>
      clear hX hB hz
      obtain ⟨k, v, rfl, hk, hX, hO, hB, hz⟩ := hrel
      have hG := below_has hB h
      by_cases hlt : k < s.n
      · have hk16 : k < 16 := by omega
        have cw := ((g_cells hG).2 k hk16).2.2
        have hki : (k : Int) < 16 := by omega
        have HK := Lib.hid hlt
        have hkn : (k : Int) < s.n := by omega
        have cx := has_cell 0 hX rfl
        clear hlt
        by_cases hw : s.wt k = t
        · have hO1 := own_below hO ((Below.refl wr.heap.size wr).alloc (Nat.le_refl _) (.cells #[.int .i64 k] 3))
          have hX1 := below_alloc_has (o := .cells #[.int .i64 k] 3) hX
          have hl16 := forTo_length s.wt t k
          rw [hw] at cw
          go_upto_region 8 with (refine app_int (base := w.heap.size + 1) rfl (.tmp 30) (.tmp 32) rfl v (forTo s.wt t k) rfl hO1 wr.heap.size rfl (k : Int) (has_cell 0 (heap_alloc_new _ _) rfl) (by omega) (by simp; omega) ?_; intro v2 W2 hO2 hG2; obtain ⟨ad2, cap2, rfl, _⟩ := own_reads hO2; have hX2 := block_kept hO1 hG2 hX1 (by omega); have cx2 := has_cell 0 hX2 rfl; have fx2 := has_free hX2)
          have hB2 := hB.trans ((((Below.refl wr.heap.size wr).alloc (Nat.le_refl _) (.cells #[.int .i64 k] 3)).mono hB.size).trans (below_of_grown hO1 hG2 (by omega) (by simp; omega)))
          rw [← forTo_yes hw] at hO2
          have hlen : (forTo s.wt t (k + 1)).length = (forTo s.wt t k).length + 1 := by rw [forTo_yes hw]; simp
          have HLEN := Lib.hid hlen
          clear hlen
          refine world_wp (fun W => Upd W2 w.heap.size (.cells #[.slice ad2 _ cap2] 33 (0, 0)) W) ((Upd.refl hX2).setCell 0 (.slice ad2 _ cap2)) ?_
          have hX2H := Lib.hid hX2
          clear hX hO hB hG hO1 hX1 hX2 cx2 fx2 cx cw
          intro W3 u3
          have hO3 := own_upd hO2 u3 (by omega)
          rw [HLEN.out] at hO3
          have hB3 := hB2.trans (u3.below (Nat.le_refl _) hB2.size)
          go_wp2_with fail
          go_roundw
          case rel => exact ⟨k + 1, _, by go_num, HK.out, u3.1, hO3, hB3, Nat.lt_of_lt_of_le (has_lt hX2H.out) u3.size⟩
          case measure => have := HK.out; simp [intOf]; omega
        · have hO' := hO
          rw [← forTo_no hw] at hO'
          obtain ⟨x, hx⟩ : ∃ x, x = s.wt k + 1 := ⟨_, rfl⟩
          rw [← hx] at cw
          have hne : (x == (t : Int) + 1) = false := by rw [beq_eq_false_iff_ne]; omega
          clear hx hw hO
          go_wp2_with fail
          go_roundw
          case rel => exact ⟨k + 1, v, by go_num, HK.out, hX, hO', hB, hz⟩
          case measure => have := HK.out; simp [intOf]; omega
      · obtain rfl : k = s.n := by omega
        go_wp2_with fail
        go_ret
        exact ⟨v, rfl, hX, hO, hB, hz⟩
  · have hin : inF s t = false := by simpa using hin
    have hF : forL s t = [] := by unfold forL; rw [hin]; rfl
    rw [hF]
    go_enter Try.func21, Try.ntmps21
    go_upto_region 2 with fail
    refine world_wp (fun W => Below w.heap.size w W ∧ W.heap[w.heap.size]? = some (.cells #[.slice none 0 0] 33 (0, 0)) ∧ w.heap.size < W.heap.size) ⟨(Below.refl _ _).alloc (Nat.le_refl _) _, heap_alloc_new _ _, by simp⟩ ?_
    rintro W ⟨hB, hX, hz⟩
    have hG := below_has hB h
    go_wp2_with (first | (go_at_call 24; refine (is_c _ _ _ hG ok).mono ?_; rintro e w' ⟨rfl, rfl⟩) | (go_at_call 26; refine (in_c _ _ _ _ hG hin).mono ?_; rintro e w' ⟨rfl, rfl⟩))
    go_ret
    exact ⟨_, rfl, hX, own_nil _ _, hB, hz⟩

/-! The iterator. -/
def encI (x : Int) : Array Value := #[.int .i64 x]
/-- Blocks b and c are as they were. -/
def Keep2 (b c : Nat) (W W' : World) : Prop := W'.heap[b]? = W.heap[b]? ∧ W'.heap[c]? = W.heap[c]?
theorem keep2_t {b c : Nat} {A B C : World} (h : Keep2 b c A B) (k : Keep2 b c B C) : Keep2 b c A C := ⟨k.1.trans h.1, k.2.trans h.2⟩
theorem keep2_b {b c : Nat} {w : World} (hb : b < w.heap.size) (hc : c < w.heap.size) (W : World) (l : Nat) (o o' : Obj) (hl : w.heap.size ≤ l) (_ : W.heap[l]? = some o) (_ : o.isCells = false) (_ : o.isWalk = false) : Keep2 b c W (W.putObj l o') :=
  ⟨World.putObj_heap_other (by omega), World.putObj_heap_other (by omega)⟩
/-- The box of a list, and the list. -/
def ListB (W : World) (c : Nat) (v : Value) (l : List Int) : Prop := W.heap[c]? = some (.cells #[v] 33 (0, 0)) ∧ ReadsL W v l
def rowOf (v : Value) (c : Nat) : Nat := v.ownBlock.getD c
theorem listB_keep {W W' : World} {c : Nat} {v : Value} {l : List Int} (h : ListB W c v l) (k : Keep2 c (rowOf v c) W W') : ListB W' c v l := by
  refine ⟨k.1.trans h.1, ?_⟩
  obtain ⟨a, cap, rfl, hr⟩ := h.2
  refine ⟨a, cap, rfl, fun hl => ?_⟩
  obtain ⟨g, rfl, hc⟩ := hr hl
  refine ⟨g, rfl, fun i hi => ?_⟩
  have e : W'.heap[g]? = W.heap[g]? := k.2
  have := hc i hi
  unfold World.cell? at this ⊢
  rw [e]
  exact this
theorem rowOf_lt {W : World} {c B : Nat} {v : Value} {l : List Int} (h : OwnL W B v l) (hc : c < W.heap.size) : rowOf v c < W.heap.size := by
  rcases h.2 with ⟨rfl, _⟩ | ⟨g, cap, cur, rfl, hg, hb, _⟩
  · exact hc
  · exact has_lt hb
theorem take_next {l : List Int} {k : Nat} (h : k < l.length) : l.take (k + 1) = l.take k ++ [l.getD k 0] := by
  rw [List.take_add_one, List.getElem?_eq_getElem h, List.getD_eq_getElem?_getD, List.getElem?_eq_getElem h]
  rfl
theorem for_stops (n : Nat) (hn : 1 ≤ n) (c : Nat) (v : Value) (ls : List Int) (w : World) (hb : ListB w c v ls) (hl : ls.length ≤ 16) :
    SeqStopsK Fence.wide n Try.prog 31 #[.pointer (some ⟨c, 0, none⟩)] encI (Keep2 c (rowOf v c)) (fun xs => xs = ls) (fun pre => pre <+: ls) 16 w := by
  intro l J Jx W hW hJ hJx hY h0
  have hT : ListB W c v ls := ⟨below_has hW hb.1, reads_below hb.2 hW⟩
  refine callsIn_of_wp Try.func31 rfl trivial ?_ rfl
  simp only [Try.ntmps31, List.size_toArray, List.length_cons, List.length_nil, Nat.reduceAdd, Nat.reduceSub, Array.replicate_succ, Array.replicate_zero, List.push_toArray, List.append_toArray, List.nil_append, List.cons_append]
  have cb0 := has_cell 0 hT.1 rfl
  obtain ⟨ad, cap, rfl, hrd⟩ := hT.2
  gi_wp2
  gi_loopw [7] (fun i wr => ∃ k : Nat, i = .int .i64 k ∧ k ≤ ls.length ∧ J (ls.take k) wr ∧ ListB wr c (.slice ad ls.length cap) ls) (fun i _ => ls.length - (intOf i).toNat)
  case atStart => exact ⟨0, rfl, Nat.zero_le _, by simpa using h0, hT⟩
  case round =>
    clear hT cb0 hrd
    obtain ⟨k, rfl, hk, hJj, hTj⟩ := hrel
    by_cases hlt : k < ls.length
    · obtain ⟨a', cap', e, hrd⟩ := hTj.2
      injection e with e1 e2 e3
      subst e1 e3
      obtain ⟨g, rfl, hg⟩ := hrd (by omega)
      have cg := hg k hlt
      have HTJ := Lib.hid hTj
      have HK := Lib.hid hlt
      have HL := Lib.hid hl
      have hki : (k : Int) < ls.length := by omega
      have hl1 : ls.length ≤ 1000 := by omega
      have htk := take_next hlt
      obtain ⟨x, hx⟩ : ∃ x, x = ls.getD k 0 := ⟨_, rfl⟩
      rw [← hx] at cg htk
      obtain ⟨fn, tmps, assign, body, hy, hR⟩ := hY (ls.take k) x wr hJj (by simp; omega)
      rw [← htk] at hR
      dsimp only [encI] at hy
      clear hrd hg e2 hTj hx htk
      gi_wp2
      refine hR.mono ?_
      rintro e W3 (⟨rfl, hJ3, hk3⟩ | ⟨rfl, hJx3⟩)
      · have hT3 := listB_keep HTJ.out hk3
        gi_wp2
        go_roundw
        case rel => exact ⟨k + 1, by go_num, HK.out, hJ3, hT3⟩
        case measure => have := HK.out; simp [intOf]; omega
      · gi_wp2
        refine bodyPost_ret (results_none rfl _ _ _) rfl ?_
        exact ⟨⟨_, rfl⟩, .inr ⟨ls.take (k + 1), List.take_prefix _ _, hJx3⟩⟩
    · obtain rfl : k = ls.length := by omega
      rw [List.take_of_length_le (Nat.le_refl _)] at hJj
      gi_wp2
      go_end0
      exact ⟨⟨_, rfl⟩, .inl ⟨_, rfl, hJj⟩⟩
/-- What a walk of a function with such a loop ends in, at the widest fence. -/
theorem calls_of_marks {P : Program} {f : FuncId} {fn : Func} {c : Code} {args : Array Value} {w : World} {R : Ending → World → Prop} (n : Nat)
    (hf : P.funcs[f]? = some fn) (hb : fn.body = some c)
    (h : c.wpIn Fence.wide n P (bodyPostM Fence.wide n P fn R) { tmps := args ++ Array.replicate (fn.ntmps - args.size) undef, defers := [] } w) : Calls P f args w R :=
  callsIn_wide.1 (callsIn_of_wp_marks hf hb trivial h rfl)
theorem enters31 : ∀ args w, (callFunc 31 args).run Try.prog w = .ok (.enter 31 args) w := enters_of Try.func31 (by kernel_rfl) rfl
/-- What speaks of blocks below B is the loop's own to keep. -/
theorem own_has {β : Type} {B c : Nat} (hc : c < B) (f : β → Obj) : OwnFrom B (fun s W => W.heap[c]? = some (f s)) :=
  fun _ _ _ _ hs hg hr => (hg.block c (has_lt hs) (fun e => by have := (hr c e.symm).1; omega)).trans hs
theorem own_pure {β : Type} {B : Nat} (p : β → Prop) : OwnFrom B (fun s (_ : World) => p s) := fun _ _ _ _ hs _ _ => hs
theorem below_mark {w W : World} {B D : Nat} {o : Obj} (hB : Below B w W) (hD : B ≤ D) (hK : W.heap[D]? = some o) (x : Obj) : Below B w (W.putObj D x) :=
  hB.trans ((Below.refl B W).grown (grownBy_putObj' W D x) hB' (fun k e => by cases e; exact hD))
where hB' : B ≤ W.heap.size := Nat.le_trans hD (Nat.le_of_lt (has_lt hK))
end Go.Proofs.Ytkjcchepgpbiiaa
