/-
  Signals of which none is pending, over the translation of this seat. Conditions: the blocks that are named hold what is said.
  Nothing is pending: going over it, clearing it, over the translation of this seat. Conditions: the blocks that are named hold what is said.
-/
import Derived.Test.YtagmlijhgncklaaGreatDoorW17
import Derived.Test.YtagmlijhgncklaaGreatDoorW14
import Derived.Carry
import Derived.WalkSpells
set_option linter.unusedVariables false
namespace Go.Proofs.YtagmlijhgncklaaGreatDoor
open Go.RowKit

def sgC (n s : Int) (mb : Nat) : List Value := .int .i64 n :: .int .i64 s :: .int .i64 0 :: (List.replicate 32 (.int .u32 0) ++ [.map (some mb)])
def sgO (n s : Int) (mb : Nat) : Obj := .cells (sgC n s mb).toArray 176 (0, 0)
theorem sg_zero {n s : Int} {mb : Nat} {i : Nat} (h : i < 32) : (sgC n s mb)[3 + i]? = some (.int .u32 0) := by
  rw [show 3 + i = i + 1 + 1 + 1 by omega]
  simp only [sgC, List.getElem?_cons_succ]
  rw [List.getElem?_append_left (by simpa using h), List.getElem?_replicate, if_pos h]
theorem sg_same {n s : Int} {mb : Nat} {i : Nat} (h : i < 32) : (sgC n s mb).toArray.setIfInBounds (3 + i) (.int .u32 0) = (sgC n s mb).toArray := by
  rw [List.setIfInBounds_toArray]
  congr 1
  apply List.ext_getElem?
  intro k
  by_cases e : 3 + i = k
  · subst e
    rw [List.getElem?_set_self (by simp [sgC]; omega), sg_zero h]
  · rw [List.getElem?_set_ne e]
set_option maxRecDepth 100000 in
theorem sig_new (w : World) (n s : Int) (h0 : 1 ≤ n) (h1 : n ≤ 16) (h2 : 1 ≤ s) (h3 : s ≤ 32) : Calls Tryz.prog 27 #[.int .i64 n, .int .i64 s] w fun e w' => ∃ b mb, e = .returned (.tuple #[.pointer (some ⟨b, 0, none⟩), .int .i64 0]) ∧ w'.heap[b]? = some (sgO n s mb) ∧ Below w.heap.size w w' ∧ w.heap.size ≤ b := by
  have hmm := @run_makeMap Tryz.prog
  go_enter Tryz.func27, Tryz.ntmps27
  go_wp2
  go_ret2
  have hx := heap_alloc_new (w.alloc (.map #[] 0)) (sgO n s w.heap.size)
  rw [World.size_alloc] at hx
  exact ⟨w.heap.size + 1, w.heap.size, rfl, hx, ((Below.refl _ _).alloc (Nat.le_refl _) _).alloc (by simp) _, by simp⟩
set_option maxRecDepth 100000 in
theorem ask_c (w : World) (b mb : Nat) (n s t : Int) (h : w.heap[b]? = some (sgO n s mb)) (h0 : 0 ≤ t) (h1 : t < n) : Calls Tryz.prog 93 #[.pointer (some ⟨b, 0, none⟩), .int .i64 t] w fun e w' => e = .returned (.int .i64 0) ∧ w = w' := by
  have c0 : w.cell? ⟨b, 0, none⟩ = some (.int .i64 n) := has_cell 0 h rfl
  have c35 : w.cell? ⟨b, 35, none⟩ = some (.map (some mb)) := has_cell 35 h rfl
  have hm := fun (w : World) (r : Option Nat) => run_eql_map_nil (P := Tryz.prog) w 173 _ _ r Tryz.underlying173
  clear h
  go_enter Tryz.func93, Tryz.ntmps93
  go_wp2
  go_ret
  exact ⟨rfl, rfl⟩
set_option maxRecDepth 100000 in
theorem mask_c (w : World) (b mb t : Nat) (n s : Int) (h : w.heap[b]? = some (sgO n s mb)) (ht : t < 16) (h1 : (t : Int) < n) : Calls Tryz.prog 50 #[.pointer (some ⟨b, 0, none⟩), .int .i64 t] w fun e w' => e = .returned (.int .u32 0) ∧ w = w' := by
  have hti : (t : Int) < 16 := by omega
  have A := ask_c w b mb n s t h (by omega) h1
  have c := has_cell (3 + t) h (by rw [List.getElem?_toArray]; exact sg_zero (by omega))
  clear h
  go_enter Tryz.func50, Tryz.ntmps50
  go_wp2_with (go_at_call 93; refine A.mono ?_; rintro e w' ⟨rfl, rfl⟩)
  go_ret
  exact ⟨rfl, rfl⟩
set_option maxRecDepth 100000 in
theorem pend_c (w : World) (b mb t : Nat) (n s : Int) (h : w.heap[b]? = some (sgO n s mb)) (ht : t < 16) (h1 : (t : Int) < n) : Calls Tryz.prog 51 #[.pointer (some ⟨b, 0, none⟩), .int .i64 t] w fun e w' => e = .returned (.int .u32 0) ∧ w = w' := by
  have hti : (t : Int) < 16 := by omega
  have A := ask_c w b mb n s t h (by omega) h1
  have c : w.cell? ⟨b, 19 + t, none⟩ = some (.int .u32 0) := has_cell (19 + t) h (by rw [List.getElem?_toArray, show 19 + t = 3 + (16 + t) by omega]; exact sg_zero (by omega))
  clear h
  go_enter Tryz.func51, Tryz.ntmps51
  go_wp2_with (go_at_call 93; refine A.mono ?_; rintro e w' ⟨rfl, rfl⟩)
  go_ret
  exact ⟨rfl, rfl⟩
set_option maxRecDepth 100000 in
theorem open_c (w : World) (b mb t : Nat) (n s : Int) (h : w.heap[b]? = some (sgO n s mb)) (ht : t < 16) (h1 : (t : Int) < n) : Calls Tryz.prog 136 #[.pointer (some ⟨b, 0, none⟩), .int .i64 t] w fun e w' => e = .returned (.int .u32 0) ∧ w = w' := by
  go_enter Tryz.func136, Tryz.ntmps136
  go_wp2_with (first | (go_at_call 51; refine (pend_c _ _ _ _ _ _ h ht h1).mono ?_; rintro e w' ⟨rfl, rfl⟩) | (go_at_call 50; refine (mask_c _ _ _ _ _ _ h ht h1).mono ?_; rintro e w' ⟨rfl, rfl⟩))
  go_ret
  exact ⟨rfl, rfl⟩
set_option maxRecDepth 100000 in
theorem setmask_c (w : World) (b mb t : Nat) (n s : Int) (h : w.heap[b]? = some (sgO n s mb)) (ht : t < 16) (h1 : (t : Int) < n) : Calls Tryz.prog 141 #[.pointer (some ⟨b, 0, none⟩), .int .i64 t, .int .u32 0] w fun e w' => e = .returned (.tuple #[.int .u32 0, .int .i64 0]) ∧ Upd w b (sgO n s mb) w' := by
  have hti : (t : Int) < 16 := by omega
  have A := ask_c w b mb n s t h (by omega) h1
  have c := has_cell (3 + t) h (by rw [List.getElem?_toArray]; exact sg_zero (by omega))
  have fz := has_free h
  have u := ((Upd.refl h).setCell (3 + t) (.int .u32 0)).to (o' := sgO n s mb) (by rw [sg_same (by omega)]; rfl)
  have U := Lib.hid u
  clear h u
  go_enter Tryz.func141, Tryz.ntmps141
  go_wp2_with (go_at_call 93; refine A.mono ?_; rintro e w' ⟨rfl, rfl⟩)
  go_ret2
  exact ⟨rfl, U.out⟩
end Go.Proofs.YtagmlijhgncklaaGreatDoor
namespace Go.Proofs.YtagmlijhgncklaaGreatDoor
open Go.RowKit Go.Shelf
attribute [local go_sem] Oper.semAt_some
attribute [local go_sem] Tab.wide_fn Tab.wide_round_fn

set_option maxRecDepth 100000 in
theorem sall_c (w : World) (b t : Nat) : Calls Tryz.prog 486 #[.pointer (some ⟨b, 0, none⟩), .int .i64 t] w fun e w' => e = .returned (.func (.func 573) #[] #[.pointer (some ⟨w.heap.size, 0, none⟩), .pointer (some ⟨w.heap.size + 1, 0, none⟩)]) ∧
    w'.heap[w.heap.size]? = some (.cells #[.pointer (some ⟨b, 0, none⟩)] 77 (0, 0)) ∧ w'.heap[w.heap.size + 1]? = some (.cells #[.int .i64 t] 3 (0, 0)) ∧ Below w.heap.size w w' := by
  go_enter Tryz.func486, Tryz.ntmps486
  go_wp2
  go_ret
  have x2 := heap_alloc_new (w.alloc (.cells #[.pointer (some ⟨b, 0, none⟩)] 77)) (.cells #[.int .i64 t] 3)
  rw [World.size_alloc] at x2
  exact ⟨rfl, below_alloc_has (heap_alloc_new w _), x2, ((Below.refl _ _).alloc (Nat.le_refl _) _).alloc (by simp) _⟩
theorem enters573 : ∀ args w, (callFunc 573 args).run Tryz.prog w = .ok (.enter 573 args) w := enters_of Tryz.func573 (by kernel_rfl) rfl
def encS (_ : Unit) : Array Value := #[.agg #[.int .i64 0, .int .i64 0]]
set_option maxRecDepth 100000 in
set_option maxHeartbeats 400000 in
theorem sall_none (m : Nat) (hm : 1 ≤ m) (b mb t Bx By : Nat) (n s : Int) (w : World) (h : w.heap[b]? = some (sgO n s mb)) (ht : t < 16) (h1 : (t : Int) < n) (hx : w.heap[Bx]? = some (.cells #[.pointer (some ⟨b, 0, none⟩)] 77 (0, 0))) (hy : w.heap[By]? = some (.cells #[.int .i64 t] 3 (0, 0))) :
    SeqStopsK Fence.wide m Tryz.prog 573 #[.pointer (some ⟨Bx, 0, none⟩), .pointer (some ⟨By, 0, none⟩)] encS (fun _ _ => True) (fun xs => xs = []) (fun _ => False) 0 w := by
  intro l J Jx W hW hJ hJx hY h0
  have hb := below_has hW h
  have hX := below_has hW hx
  have hYy := below_has hW hy
  have z1 : bits .and .u32 0 1 = 0 := by decide
  refine callsIn_of_wp Tryz.func573 rfl trivial ?_ rfl
  simp only [Tryz.ntmps573, List.size_toArray, List.length_cons, List.length_nil, Nat.reduceAdd, Nat.reduceSub, Array.replicate_succ, Array.replicate_zero, List.push_toArray, List.append_toArray, List.nil_append, List.cons_append]
  have cx := has_cell 0 hX rfl
  have cy := has_cell 0 hYy rfl
  gi_wp2_with (gi_at_call 51; refine (callsIn_wide.2 (pend_c _ b mb t n s hb ht h1)).mono ?_; rintro e w' ⟨rfl, rfl⟩)
  clear cx cy
  gi_loopw [5] (fun i wr => ∃ j : Nat, i = .int .i64 j ∧ 1 ≤ j ∧ j ≤ 32 ∧ J [] wr ∧ wr.heap[b]? = some (sgO n s mb)) (fun i _ => 32 - (intOf i).toNat)
  case atStart => exact ⟨1, rfl, by omega, by omega, h0, hb⟩
  case round =>
    clear hb hX hYy h0
    obtain ⟨j, rfl, hj1, hj, hJj, hbj⟩ := hrel
    by_cases hlt : j < 32
    · have hji : (j : Int) < 32 := by omega
      have hal := hJ [] wr (wr.alloc (.cells #[.int .i64 0] 2)) none hJj (World.grownBy_alloc _ _ _) (fun r e => by cases e)
      have hba := below_alloc_has (o := .cells #[.int .i64 0] 2) hbj
      have c0 := has_cell 0 (heap_alloc_new wr (.cells #[.int .i64 0] 2)) rfl
      by_cases hge : j < 16
      · have hgi : decide (16 ≤ (j : Int)) = false := by simp; omega
        gi_wp2_with fail
        obtain ⟨wo, hwo⟩ : ∃ wo : World, wo = wr.alloc (.cells #[.int .i64 0] 2) := ⟨_, rfl⟩
        rw [← hwo] at hal hba c0 ⊢
        have HJ := Lib.hid hal
        have HB := Lib.hid hba
        have HO := Lib.hid hwo
        clear hal hba hJj hbj hwo
        gi_loopw [36] (fun i W2 => ∃ q : Nat, i = .int .i64 q ∧ q ≤ 1 ∧ W2 = wo) (fun i _ => 1 - (intOf i).toNat)
        case atStart => exact ⟨0, rfl, by omega, rfl⟩
        case round =>
          obtain ⟨q, rfl, hq, rfl⟩ := hrel
          by_cases hq0 : q < 1
          · obtain rfl : q = 0 := by omega
            gi_wp2_with fail
            go_roundw
            case rel => exact ⟨1, rfl, by omega, trivial⟩
            case measure => simp [intOf]
          · obtain rfl : q = 1 := by omega
            gi_wp2_with fail
            go_roundw
            case rel => exact ⟨j + 1, by go_num, by omega, by omega, HJ.out, HB.out⟩
            case measure => simp [intOf]; omega
      · have hgi : decide (16 ≤ (j : Int)) = true := by simp; omega
        gi_wp2_with fail
        obtain ⟨wo, hwo⟩ : ∃ wo : World, wo = wr.alloc (.cells #[.int .i64 0] 2) := ⟨_, rfl⟩
        rw [← hwo] at hal hba c0 ⊢
        have HJ := Lib.hid hal
        have HB := Lib.hid hba
        have HO := Lib.hid hwo
        clear hal hba hJj hbj hwo
        gi_loopw [36] (fun i W2 => ∃ q : Nat, i = .int .i64 q ∧ q ≤ 1 ∧ W2 = wo) (fun i _ => 1 - (intOf i).toNat)
        case atStart => exact ⟨0, rfl, by omega, rfl⟩
        case round =>
          obtain ⟨q, rfl, hq, rfl⟩ := hrel
          by_cases hq0 : q < 1
          · obtain rfl : q = 0 := by omega
            gi_wp2_with fail
            go_roundw
            case rel => exact ⟨1, rfl, by omega, trivial⟩
            case measure => simp [intOf]
          · obtain rfl : q = 1 := by omega
            gi_wp2_with fail
            go_roundw
            case rel => exact ⟨j + 1, by go_num, by omega, by omega, HJ.out, HB.out⟩
            case measure => simp [intOf]; omega
    · obtain rfl : j = 32 := by omega
      gi_wp2
      go_end0
      exact ⟨⟨_, rfl⟩, .inl ⟨_, rfl, hJj⟩⟩
theorem zip1 (p : Nat) (a : Value) : ((#[p] : Array Nat).zip #[a]) = #[(p, a)] := by first | rfl | simp [Array.zip]
theorem fold1 (t : Array Value) (p : Nat) (a : Value) : Array.foldl (fun (t : Array Value) (x : Nat × Value) => t.setIfInBounds x.1 x.2) t #[(p, a)] = t.setIfInBounds p a := by
  first | rfl | simp
theorem named {F : Fence} {n : Nat} {P : Program} {c : Code} {Q : Exit → Act → World → Prop} {a : Act} {w : World} (h : ∀ fa, fa = a → c.wpIn F n P Q fa w) : c.wpIn F n P Q a w := h a rfl
theorem Upd.putObj {w w' : World} {b D : Nat} {o : Obj} (h : Upd w b o w') (hD : w.heap.size ≤ D) (hb : b < w.heap.size) (x : Obj) : Upd w b o (w'.putObj D x) :=
  have g := grownBy_putObj' w' D x
  ⟨(World.putObj_heap_other (by omega)).trans h.1, g.os.trans h.2.os, g.tape.trans h.2.tape, g.output.trans h.2.output, Nat.le_trans h.2.size g.size, fun k hk hne => (World.putObj_heap_other (by omega)).trans (h.2.block k hk hne)⟩
/-- What stands while nothing is cleared: the signals, the number. -/
structure SgW (w W : World) (b nb mb : Nat) (n s : Int) : Prop where
  below : Below w.heap.size w W
  sg : W.heap[b]? = some (sgO n s mb)
  num : W.heap[nb]? = some (.cells #[.int .i64 0] 3 (0, 0))
set_option maxRecDepth 100000 in
set_option maxHeartbeats 400000 in
theorem clear_c (w : World) (b mb t : Nat) (n s : Int) (h : w.heap[b]? = some (sgO n s mb)) (ht : t < 16) (h1 : (t : Int) < n) :
    Calls Tryz.prog 342 #[.pointer (some ⟨b, 0, none⟩), .int .i64 t] w fun e w' => e = .returned (.tuple #[.int .i64 0, .int .i64 0]) ∧ Upd w b (sgO n s mb) w' := by
  have hti : (t : Int) < 16 := by omega
  have A := ask_c w b mb n s t h (by omega) h1
  have hbw := has_lt h
  refine Tab.calls_of_marks 4 Tryz.func342 rfl ?_
  simp only [Tryz.ntmps342, List.size_toArray, List.length_cons, List.length_nil, Nat.reduceAdd, Nat.reduceSub, Array.replicate_succ, Array.replicate_zero, List.push_toArray, List.append_toArray, List.nil_append, List.cons_append]
  gi_wp2_with (first | (gi_at_call 93; refine (callsIn_wide.2 A).mono ?_; rintro e w' ⟨rfl, rfl⟩) | (gi_at_call 486; refine (callsIn_wide.2 (sall_c _ b t)).mono ?_; rintro e w1 ⟨rfl, x1, x2, hbel⟩))
  have B0 : Below w.heap.size w (w.alloc (.cells #[.int .i64 0] 3)) := (Below.refl _ _).alloc (Nat.le_refl _) _
  have hc := below_has hbel (heap_alloc_new w (.cells #[.int .i64 0] 3))
  have hb1 := below_has hbel (below_has B0 h)
  have hB : Below w.heap.size w w1 := B0.trans (hbel.mono B0.size)
  rw [World.size_alloc] at x1 x2
  have hsz : w.heap.size + 1 + 1 < w1.heap.size := has_lt x2
  clear A hbel B0
  refine named ?_
  intro fa hfa
  refine wpIn_rangeFunc_ownF rfl (by decide) (gf := 573) (lb := #[.pointer (some ⟨w.heap.size + 1, 0, none⟩), .pointer (some ⟨w.heap.size + 1 + 1, 0, none⟩)]) (by rw [hfa]; rfl) trivial enters573
    (sall_none 3 (by decide) b mb t (w.heap.size + 1) (w.heap.size + 1 + 1) n s w1 hb1 ht h1 x1 x2) (fun _ _ => trivial) (fun _ _ _ _ _ _ _ _ => trivial) (Below.refl _ _) (fun _ => rfl)
    (fun (_ : List Unit) W => SgW w W b w.heap.size mb n s) (fun _ _ _ => False)
    (fun _ X Y row hs hg hr => ⟨ownFrom_below (β := Unit) (n₀ := w.heap.size) (B := w1.heap.size) (w₀ := w) (Nat.le_refl _) (by omega) () X Y row hs.below hg hr, Tab.own_has (β := Unit) (B := w1.heap.size) (by omega) (fun _ => _) () X Y row hs.sg hg hr, Tab.own_has (β := Unit) (B := w1.heap.size) (by omega) (fun _ => _) () X Y row hs.num hg hr⟩) (fun _ => Tab.own_pure _) ⟨hB, hb1, hc⟩
    (fun _ => { tmps := fa.tmps.setIfInBounds 17 (.agg #[.int .i64 0, .int .i64 0]), defers := [] })
    ?assign ?body ?done ?stop
  case assign =>
    intro l x W K hK
    subst hfa
    simp only [encS, zip1, fold1, List.setIfInBounds_toArray, List.set_cons_succ, List.set_cons_zero] at hK ⊢
    gi_wp2
    exact hK
  case body =>
    intro l pre x W _ hlen
    exact absurd hlen (Nat.not_lt_zero _)
  case stop =>
    rintro D c pre W _ h _ _
    exact h.elim
  case done =>
    rintro D ys W hD rfl hS hK
    subst hfa
    have c0 := has_cell 0 hS.num rfl
    have cm := has_cell (3 + t) hS.sg (by rw [List.getElem?_toArray]; exact sg_zero (by omega))
    have fz := has_free hS.sg
    have u := ((Upd.refl hS.sg).setCell (3 + t) (.int .u32 0)).to (o' := sgO n s mb) (by rw [sg_same (by omega)]; rfl)
    have c1 := u.other hS.num (by omega)
    have c2 := has_cell 0 c1 rfl
    have HU := Lib.hid u
    have HS := Lib.hid hS
    have hKD := u.other hK (by omega)
    have HK := Lib.hid hKD
    clear u hS c1 hKD
    gi_wp2_with fail
    refine wpIn_loop_rounds 1 ?_
    rw [roundsIn_succ]
    gi_wp2_with fail
    refine ⟨by simp, .inl ⟨_, _, rfl, run_takeDeferred HK.out, ?_⟩⟩
    refine ⟨_, results_tmp2 rfl _ _ _, rfl, ?_⟩
    exact Upd.putObj (Upd.after HS.out.below HU.out) (by have := HS.out.below.size; omega) hbw _
end Go.Proofs.YtagmlijhgncklaaGreatDoor
