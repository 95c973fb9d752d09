/- CancelNil: cancellations that are not there, as many cleanups as may be. No conditions. -/
import Derived.Test.YtdpeccbdacdkiaaC20Known
import Derived.Test.YtdpeccbdacdkiaaC20Iter
namespace Go.Proofs.Ytdpeccbdacdkiaa
open Go.RowKit Go.Shelf
attribute [local go_sem] Oper.semAt_some
attribute [local go_sem] wide_fn wide_round_fn

def zeroO : Obj := .cells ((.bool false : Value) :: .bool false :: .bool false :: .bool false :: .bool false :: List.replicate 17 (.int .i64 0)).toArray 55 (0, 0)
/-- One that is not there. -/
inductive Gone (w : World) : Option Addr → Prop
  | nil : Gone w none
  | zero (b : Nat) (h : w.heap[b]? = some zeroO) : Gone w (some ⟨b, 0, none⟩)
theorem Gone.reads {w w' : World} {a : Option Addr} (h : Gone w a) (u : Below w.heap.size w w') : Gone w' a := by
  cases h with
  | nil => exact .nil
  | zero b h => exact .zero b (below_has u h)
theorem Gone.drew {w : World} {a : Option Addr} (h : Gone w a) : Gone w.drew a := h.reads (below_drewN (Below.refl _ _) 1)
theorem there_gone (w : World) (a : Option Addr) (h : Gone w a) : Calls Try.prog 32 #[.pointer a] w fun e w' => e = .returned (.bool false) ∧ w = w' := by
  cases h with
  | nil => exact there_nil w
  | zero b h =>
    have c := has_cell 0 h rfl
    clear h
    go_enter Try.func32, Try.ntmps32
    go_wp2
    go_ret
    exact ⟨rfl, rfl⟩
theorem set_gone (w : World) (a : Option Addr) (v : Value) (x : Bool) (h : Gone w a) : Calls Try.prog 33 #[.pointer a, v, .bool x] w fun e w' => e = .returned (.tuple #[.bool false, .int .i64 1]) ∧ w = w' := by
  go_enter Try.func33, Try.ntmps33
  go_wp2_with (go_at_call 32; refine (there_gone _ _ h).mono ?_; rintro e w' ⟨rfl, rfl⟩)
  go_ret2
  exact ⟨rfl, rfl⟩
theorem ask_gone (w : World) (a : Option Addr) (h : Gone w a) : Calls Try.prog 13 #[.pointer a] w fun e w' => e = .returned (.tuple #[.bool false, .int .i64 1]) ∧ Below w.heap.size w w' := by
  go_enter Try.func13, Try.ntmps13
  go_wp2_with (go_at_call 33; refine (set_gone _ _ _ _ (h.reads ((Below.refl _ _).alloc (Nat.le_refl _) _))).mono ?_; rintro e w' ⟨rfl, rfl⟩)
  go_ret2
  exact ⟨rfl, (Below.refl _ _).alloc (Nat.le_refl _) _⟩
theorem enable_gone (w : World) (a : Option Addr) (x : Bool) (h : Gone w a) : Calls Try.prog 14 #[.pointer a, .bool x] w fun e w' => e = .returned (.tuple #[.bool false, .int .i64 1]) ∧ Below w.heap.size w w' := by
  go_enter Try.func14, Try.ntmps14
  go_wp2_with (go_at_call 33; refine (set_gone _ _ _ _ (h.reads ((Below.refl _ _).alloc (Nat.le_refl _) _))).mono ?_; rintro e w' ⟨rfl, rfl⟩)
  go_ret2
  exact ⟨rfl, (Below.refl _ _).alloc (Nat.le_refl _) _⟩
theorem async_gone (w : World) (a : Option Addr) (x : Bool) (h : Gone w a) : Calls Try.prog 15 #[.pointer a, .bool x] w fun e w' => e = .returned (.tuple #[.bool false, .int .i64 1]) ∧ Below w.heap.size w w' := by
  go_enter Try.func15, Try.ntmps15
  go_wp2_with (go_at_call 33; refine (set_gone _ _ _ _ (h.reads ((Below.refl _ _).alloc (Nat.le_refl _) _))).mono ?_; rintro e w' ⟨rfl, rfl⟩)
  go_ret2
  exact ⟨rfl, (Below.refl _ _).alloc (Nat.le_refl _) _⟩
theorem unwind_gone (w : World) (a : Option Addr) (h : Gone w a) : Calls Try.prog 19 #[.pointer a] w fun e w' => e = .returned (.int .i64 1) ∧ Below w.heap.size w w' := by
  go_enter Try.func19, Try.ntmps19
  go_wp2_with (go_at_call 33; refine (set_gone _ _ _ _ (h.reads ((Below.refl _ _).alloc (Nat.le_refl _) _))).mono ?_; rintro e w' ⟨rfl, rfl⟩)
  go_ret
  exact ⟨rfl, (Below.refl _ _).alloc (Nat.le_refl _) _⟩
theorem asked_gone (w : World) (a : Option Addr) (h : Gone w a) : Calls Try.prog 25 #[.pointer a] w fun e w' => e = .returned (.bool false) ∧ w = w' := by
  go_enter Try.func25, Try.ntmps25
  go_wp2_with (go_at_call 32; refine (there_gone _ _ h).mono ?_; rintro e w' ⟨rfl, rfl⟩)
  go_ret
  exact ⟨rfl, rfl⟩
theorem enabled_gone (w : World) (a : Option Addr) (h : Gone w a) : Calls Try.prog 21 #[.pointer a] w fun e w' => e = .returned (.bool false) ∧ w = w' := by
  go_enter Try.func21, Try.ntmps21
  go_wp2_with (go_at_call 32; refine (there_gone _ _ h).mono ?_; rintro e w' ⟨rfl, rfl⟩)
  go_ret
  exact ⟨rfl, rfl⟩
theorem once_gone (w : World) (a : Option Addr) (h : Gone w a) : Calls Try.prog 22 #[.pointer a] w fun e w' => e = .returned (.bool false) ∧ w = w' := by
  go_enter Try.func22, Try.ntmps22
  go_wp2_with (go_at_call 32; refine (there_gone _ _ h).mono ?_; rintro e w' ⟨rfl, rfl⟩)
  go_ret
  exact ⟨rfl, rfl⟩
theorem unwinds_gone (w : World) (a : Option Addr) (h : Gone w a) : Calls Try.prog 26 #[.pointer a] w fun e w' => e = .returned (.bool false) ∧ w = w' := by
  go_enter Try.func26, Try.ntmps26
  go_wp2_with (go_at_call 32; refine (there_gone _ _ h).mono ?_; rintro e w' ⟨rfl, rfl⟩)
  go_ret
  exact ⟨rfl, rfl⟩
theorem acts_gone (w : World) (a : Option Addr) (x : Bool) (h : Gone w a) : Calls Try.prog 20 #[.pointer a, .bool x] w fun e w' => e = .returned (.bool false) ∧ w = w' := by
  go_enter Try.func20, Try.ntmps20
  go_wp2_with (go_at_call 25; refine (asked_gone _ _ h).mono ?_; rintro e w' ⟨rfl, rfl⟩)
  go_ret
  exact ⟨rfl, rfl⟩
theorem push_gone (w : World) (a : Option Addr) (p q : Int) (h : Gone w a) : Calls Try.prog 17 #[.pointer a, .agg #[.int .i64 p, .int .i64 q]] w fun e w' => e = .returned (.int .i64 1) ∧ Below w.heap.size w w' := by
  go_enter Try.func17, Try.ntmps17
  go_wp2_with (go_at_call 32; refine (there_gone _ _ (h.reads ((Below.refl _ _).alloc (Nat.le_refl _) _))).mono ?_; rintro e w' ⟨rfl, rfl⟩)
  go_ret
  exact ⟨rfl, (Below.refl _ _).alloc (Nat.le_refl _) _⟩
theorem pop_gone (w : World) (a : Option Addr) (h : Gone w a) : Calls Try.prog 18 #[.pointer a] w fun e w' => e = .returned (.tuple #[.agg #[.int .i64 0, .int .i64 0], .int .i64 1]) ∧ Below w.heap.size w w' := by
  go_enter Try.func18, Try.ntmps18
  go_upto_region 1 with fail
  refine world_wp (fun W => Below w.heap.size w W ∧ W.heap[w.heap.size]? = some (.cells #[.int .i64 0, .int .i64 0] 30 (0, 0))) ⟨(Below.refl _ _).alloc (Nat.le_refl _) _, heap_alloc_new _ _⟩ ?_
  rintro W ⟨hB, hX⟩
  have hG := h.reads hB
  have x0 := has_cell 0 hX rfl
  have x1 := has_cell 1 hX rfl
  have fx := has_free hX
  have hB2 : Below w.heap.size w ((W.setCell ⟨w.heap.size, 0, none⟩ (.int .i64 0)).setCell ⟨w.heap.size, 1, none⟩ (.int .i64 0)) := (hB.setCell (Nat.le_refl _) _).setCell (Nat.le_refl _) _
  have hX2 := (((Upd.refl hX).setCell 0 (.int .i64 0)).setCell 1 (.int .i64 0)).1
  have q0 := has_cell 0 hX2 rfl
  have q1 := has_cell 1 hX2 rfl
  go_wp2_with (go_at_call 32; refine (there_gone _ _ hG).mono ?_; rintro e w' ⟨rfl, rfl⟩)
  refine bodyPost_ret (v := .tuple #[.agg #[.int .i64 0, .int .i64 0], .int .i64 1]) ?_ rfl ⟨rfl, hB2⟩
  simp [results, Try.f18, go_sem, q0, q1]
theorem copy_gone (w : World) (a : Option Addr) (h : Gone w a) : Calls Try.prog 31 #[.pointer a] w fun e w' => e = .returned (.pointer none) ∧ w = w' := by
  go_enter Try.func31, Try.ntmps31
  go_wp2_with (go_at_call 32; refine (there_gone _ _ h).mono ?_; rintro e w' ⟨rfl, rfl⟩)
  go_ret
  exact ⟨rfl, rfl⟩
theorem same_gone (w : World) (a b : Option Addr) (h : Gone w a) (h' : Gone w b) : Calls Try.prog 10 #[.pointer a, .pointer b] w fun e w' => e = .returned (.bool true) ∧ w = w' := by
  go_enter Try.func10, Try.ntmps10
  go_wp2_with (go_at_call 32; first | ((with_reducible refine (there_gone _ _ h).mono ?_); rintro e w' ⟨rfl, rfl⟩) | ((with_reducible refine (there_gone _ _ h').mono ?_); rintro e w' ⟨rfl, rfl⟩))
  go_ret
  exact ⟨rfl, rfl⟩
theorem same_one (w : World) (c : Nat) (s : Cs) (h : w.heap[c]? = some (canO s)) (hl : s.L.length ≤ 8) : Calls Try.prog 10 #[.pointer (some ⟨c, 0, none⟩), .pointer none] w fun e w' => e = .returned (.bool false) ∧ w = w' := by
  go_enter Try.func10, Try.ntmps10
  go_wp2_with (go_at_call 32; first | ((with_reducible refine (there_c _ _ _ h hl).mono ?_); rintro e w' ⟨rfl, rfl⟩) | ((with_reducible refine (there_nil _).mono ?_); rintro e w' ⟨rfl, rfl⟩))
  go_ret
  exact ⟨rfl, rfl⟩
theorem all_none (n : Nat) (hn : 1 ≤ n) (a : Option Addr) (Bn : Nat) (w : World) (h : Gone w a) (hB : w.heap[Bn]? = some (.cells #[.pointer a] 23 (0, 0))) :
    SeqStopsK Fence.wide n Try.prog 40 #[.pointer (some ⟨Bn, 0, none⟩)] encX (fun _ _ => True) (fun xs => xs = []) (fun _ => False) 0 w := by
  intro l J Jx W hW hJ hJx hY h0
  have hG := h.reads hW
  have hb := below_has hW hB
  refine callsIn_of_wp Try.func40 rfl trivial ?_ rfl
  simp only [Try.ntmps40, List.size_toArray, List.length_cons, List.length_nil, Nat.reduceAdd, Nat.reduceSub, Array.replicate_succ, Array.replicate_zero, List.push_toArray, List.append_toArray, List.nil_append, List.cons_append]
  have cb0 := has_cell 0 hb rfl
  gi_wp2_with (gi_at_call 32; refine (callsIn_wide.2 (there_gone _ _ hG)).mono ?_; rintro e w' ⟨rfl, rfl⟩)
  refine bodyPost_ret (results_none rfl _ _ _) rfl ?_
  exact ⟨⟨_, rfl⟩, .inl ⟨[], rfl, h0⟩⟩
set_option maxRecDepth 100000 in
theorem len_gone (w : World) (a : Option Addr) (h : Gone w a) : Calls Try.prog 23 #[.pointer a] w fun e w' => e = .returned (.int .i64 0) ∧ Below w.heap.size w w' := by
  refine calls_of_marks 4 Try.func23 rfl ?_
  simp only [Try.ntmps23, List.size_toArray, List.length_cons, List.length_nil, Nat.reduceAdd, Nat.reduceSub, Array.replicate_succ, Array.replicate_zero, List.push_toArray, List.append_toArray, List.nil_append, List.cons_append]
  gi_wp2_with (gi_at_call 38; refine (callsIn_wide.2 (all_c _ _)).mono ?_; rintro e w' ⟨rfl, hcap, hbel⟩)
  have hc0 := below_has hbel (heap_alloc_new w (.cells #[.int .i64 0] 3))
  have hb0 : Below w.heap.size w w' := below_news (hbel.mono (by simp))
  have hG := h.reads hb0
  rw [World.size_alloc] at hcap
  have hsz : w.heap.size + 1 < w'.heap.size := has_lt hcap
  refine wpIn_rangeFunc_ownF rfl (by decide) (gf := 40) (lb := #[.pointer (some ⟨w.heap.size + 1, 0, none⟩)]) rfl trivial enters40
    (all_none 3 (by decide) a (w.heap.size + 1) w' hG hcap) (fun _ _ => trivial) (fun _ _ _ _ _ _ _ _ => trivial) (Below.refl _ _) (fun _ => rfl)
    (fun (pre : List (Int × Int)) W => pre = [] → W.heap[w.heap.size]? = some (.cells #[.int .i64 0] 3 (0, 0)) ∧ Below w.heap.size w W) (fun _ _ _ => False)
    (fun s X Y row hs hg hr hp => ⟨own_has (β := Unit) (B := w'.heap.size) (by omega) (fun _ => _) () X Y row (hs hp).1 hg hr, ownFrom_below (β := Unit) (n₀ := w.heap.size) (B := w'.heap.size) (w₀ := w) (Nat.le_refl _) (by omega) () X Y row (hs hp).2 hg hr⟩) (fun _ => own_pure _) (fun _ => ⟨hc0, hb0⟩)
    (fun x => { tmps := #[.pointer a, undef, .int .i64 0, .pointer (some ⟨w.heap.size, 0, none⟩), .pointer a, .func (.func 40) #[] #[.pointer (some ⟨w.heap.size + 1, 0, none⟩)], .agg #[.int .i64 x.1, .int .i64 x.2], undef, undef, undef], defers := [] })
    ?assign ?body ?done ?stop
  case assign =>
    intro l x W K hK
    simp only [encX, zip1, fold1, List.setIfInBounds_toArray, List.set_cons_succ, List.set_cons_zero]
    gi_wp2
    exact hK
  case body =>
    intro l pre x W _ hlen
    exact absurd hlen (Nat.not_lt_zero _)
  case done =>
    rintro D ys W hD rfl hI hK
    obtain ⟨hc, hB⟩ := hI rfl
    have c0 := has_cell 0 hc rfl
    gi_wp2
    refine ⟨by simp, .inl ⟨_, _, rfl, run_takeDeferred hK, ?_⟩⟩
    exact ⟨_, results_tmp rfl _ _ _, rfl, below_mark hB (by omega) hK _⟩
  case stop =>
    rintro D c pre W _ h _ _
    exact h.elim
/-- Where nothing stands while it asks one that is not there. -/
structure NSt (w W : World) (a : Option Addr) : Prop where
  below : Below w.heap.size w W
  res : W.heap[w.heap.size]? = some (.cells #[.bool false] 4 (0, 0))
  gone : Gone W a
theorem NSt.reads {w W W' : World} {a : Option Addr} (h : NSt w W a) (u : Below W.heap.size W W') : NSt w W' a := ⟨below_reads h.below u h.below.size, below_has u h.res, h.gone.reads u⟩
theorem stay_cells {B b : Nat} {cs : Array Value} {T : TypeId} {fz : Nat × Nat} {X Y : World} {row : Option Nat} (h : X.heap[b]? = some (.cells cs T fz)) (hg : X.grownBy Y row) (hr : ∀ r, row = some r → B ≤ r ∧ ∃ o : Obj, X.heap[r]? = some o ∧ o.isCells = false) : Y.heap[b]? = some (.cells cs T fz) :=
  (hg.block b (has_lt h) (fun e => by
    obtain ⟨_, o, ho, hc⟩ := hr b e.symm
    rw [h] at ho
    cases ho
    cases hc)).trans h
theorem nst_own {β : Type} {B : Nat} {w : World} {a : Option Addr} (hB : w.heap.size ≤ B) : OwnFrom B (fun (_ : β) W => NSt w W a) := fun _ X Y row h hg hr =>
  ⟨ownFrom_below (β := Unit) (n₀ := w.heap.size) (B := B) (w₀ := w) (Nat.le_refl _) hB () X Y row h.below hg hr, stay_cells (B := B) h.res hg hr, by
    have hgo := h.gone
    revert hgo
    cases a with
    | none => exact fun _ => .nil
    | some p =>
      intro hgo
      cases hgo with
      | zero b hz => exact .zero b (stay_cells (B := B) hz hg hr)⟩
theorem named {F : Fence} {n : Nat} {P : Program} {c : Code} {Q : Exit → Act → World → Prop} {a : Act} {w : World} (h : ∀ fa, fa = a → c.wpIn F n P Q fa w) : c.wpIn F n P Q a w := h a rfl
theorem run_eq_fn (a : Value) (w : World) : (binOp .eql 65 (.func (.func 40) #[] #[a]) .nilFunc).run Try.prog w = .ok (.bool false) w := by kernel_rfl

set_option maxRecDepth 100000 in
set_option maxHeartbeats 2000000 in
theorem nothing_c (w : World) (a : Option Addr) (h : Gone w a) : Calls Try.prog 27 #[.pointer a] w fun e w' => e = .returned (.bool true) ∧ Below w.heap.size w w' := by
  refine calls_of_marks 4 Try.func27 rfl ?_
  simp only [Try.ntmps27, List.size_toArray, List.length_cons, List.length_nil, Nat.reduceAdd, Nat.reduceSub, Array.replicate_succ, Array.replicate_zero, List.push_toArray, List.append_toArray, List.nil_append, List.cons_append]
  refine wpIn_wide.2 ?_
  go_upto_region 1 with fail
  refine world_wp (fun W => NSt w W a) ⟨(Below.refl _ _).alloc (Nat.le_refl _) _, heap_alloc_new _ _, h.reads ((Below.refl _ _).alloc (Nat.le_refl _) _)⟩ ?_
  intro W hS
  go_wp2_with fail
  refine (ask_gone _ _ hS.gone).mono ?_; rintro e w1 ⟨rfl, b1⟩
  have hS1 := hS.reads b1
  clear hS b1
  go_wp2_with fail
  refine (enable_gone _ _ _ hS1.gone).mono ?_; rintro e w2 ⟨rfl, b1⟩
  have hS2 := hS1.reads b1
  clear hS1 b1
  go_wp2_with fail
  refine (async_gone _ _ _ hS2.gone).mono ?_; rintro e w3 ⟨rfl, b1⟩
  have hS3 := hS2.reads b1
  clear hS2 b1
  go_wp2_with fail
  refine (pop_gone _ _ hS3.gone).mono ?_; rintro e w4 ⟨rfl, b1⟩
  have hS4 := hS3.reads b1
  clear hS3 b1
  go_wp2_with fail
  refine calls_world (fun W => NSt w W a) (hS4.reads ((Below.refl _ _).alloc (Nat.le_refl _) _)) ?_
  clear hS4
  intro W5 hS5
  refine (all_c _ _).mono ?_; rintro e w6 ⟨rfl, hcap, b1⟩
  have hS6 := hS5.reads b1
  clear hS5 b1
  have rf := fun a w => run_eq_fn a w
  go_wp2_with fail
  refine (wpIn_wide (n := 4)).1 ?_
  refine named ?_
  intro fa hfa
  refine wpIn_rangeFunc_ownF rfl (by decide) (gf := 40) (lb := #[.pointer (some ⟨W5.heap.size, 0, none⟩)]) (by rw [hfa]; rfl) trivial enters40
    (all_none 3 (by decide) a W5.heap.size w6 hS6.gone hcap) (fun _ _ => trivial) (fun _ _ _ _ _ _ _ _ => trivial) (Below.refl _ _) (fun _ => rfl)
    (fun (_ : List (Int × Int)) W => NSt w W a) (fun _ _ _ => False) (nst_own hS6.below.size) (fun _ => own_pure _) hS6
    (fun x => { tmps := fa.tmps.setIfInBounds 37 (.agg #[.int .i64 x.1, .int .i64 x.2]), defers := [] })
    ?assign ?body ?done ?stop
  case assign =>
    intro l x W K hK
    subst hfa
    simp only [encX, zip1, fold1, List.setIfInBounds_toArray, List.set_cons_succ, List.set_cons_zero] at hK ⊢
    gi_wp2
    exact hK
  case body =>
    intro l pre x W _ hlen
    exact absurd hlen (Nat.not_lt_zero _)
  case stop =>
    rintro D c pre W _ h _ _
    exact h.elim
  case done =>
    rintro D ys W hD rfl hS hK
    subst hfa
    have hz := hS6.below.size
    clear hS6 hcap
    go_wp2_with (go_at_call 16; refine (num_c _ _).mono ?_; rintro e w' ⟨rfl, rfl⟩)
    refine (push_gone _ _ 0 0 hS.gone).mono ?_; rintro e w7 ⟨rfl, b1⟩
    have hS7 := hS.reads b1
    have hK7 := below_has b1 hK
    clear hS hK b1
    go_wp2_with (go_at_call 16; refine (num_c _ _).mono ?_; rintro e w' ⟨rfl, rfl⟩)
    refine (unwind_gone _ _ hS7.gone).mono ?_; rintro e w8 ⟨rfl, b1⟩
    have hS8 := hS7.reads b1
    have hK8 := below_has b1 hK7
    clear hS7 hK7 b1
    go_wp2_with (first
      | (go_at_call 16; refine (num_c _ _).mono ?_; rintro e w' ⟨rfl, rfl⟩)
      | (go_at_call 25; refine (asked_gone _ _ hS8.gone).mono ?_; rintro e w' ⟨rfl, rfl⟩)
      | (go_at_call 21; refine (enabled_gone _ _ hS8.gone).mono ?_; rintro e w' ⟨rfl, rfl⟩)
      | (go_at_call 22; refine (once_gone _ _ hS8.gone).mono ?_; rintro e w' ⟨rfl, rfl⟩)
      | (go_at_call 20; refine (acts_gone _ _ _ hS8.gone).mono ?_; rintro e w' ⟨rfl, rfl⟩)
      | (go_at_call 26; refine (unwinds_gone _ _ hS8.gone).mono ?_; rintro e w' ⟨rfl, rfl⟩))
    refine (len_gone _ _ hS8.gone).mono ?_; rintro e w9 ⟨rfl, b1⟩
    have hS9 := hS8.reads b1
    have hK9 := below_has b1 hK8
    clear hS8 hK8 b1
    have c0 := has_cell 0 hS9.res rfl
    have f0 := has_free hS9.res
    have u := (Upd.refl hS9.res).setCell 0 (.bool true)
    have hDr : D ≠ w.heap.size := by
      rintro rfl
      rw [hS9.res] at hK9
      cases hK9
    have hKf := u.other hK9 hDr
    have bl := hS9.below.trans (u.below (Nat.le_refl _) hS9.below.size)
    have r8 := u.1
    simp only [List.setIfInBounds_toArray, List.set_cons_zero] at r8
    go_wp2_with (first
      | (go_at_call 31; refine (copy_gone _ _ hS9.gone).mono ?_; rintro e w' ⟨rfl, rfl⟩)
      | (go_at_call 10; refine (same_gone _ _ _ hS9.gone Gone.nil).mono ?_; rintro e w' ⟨rfl, rfl⟩))
    refine ⟨by simp, .inl ⟨_, _, rfl, run_takeDeferred hKf, ?_⟩⟩
    have q1 := has_cell (w := World.putObj _ D (.deferred none)) (b := w.heap.size) 0 (v := .bool true) ((World.putObj_heap_other (Ne.symm hDr)).trans r8) rfl
    refine ⟨.bool true, ?_, rfl, below_mark bl (by omega) hKf _⟩
    simp [results, Try.f27, go_sem, q1]

def pushes (j : Nat) : List (Int × Int) := (List.range j).map fun (i : Nat) => ((31 : Int), (i : Int))
theorem pushes_succ (j : Nat) : pushes (j + 1) = pushes j ++ [(31, (j : Int))] := by simp [pushes, List.range_succ]

set_option maxRecDepth 100000 in
set_option maxHeartbeats 2000000 in
theorem nil_claim (w : World) : Calls Try.prog 6 #[] w fun e w' => e = .returned (.bool true) ∧ Below w.heap.size w w' := by
  go_enter Try.func6, Try.ntmps6
  go_wp2_with fail
  refine (new_c _).mono ?_; rintro e w1 ⟨rfl, hC1, b1, z1⟩
  have hC1' : w1.heap[w.heap.size]? = some (canO ⟨false, true, false, false, pushes 0⟩) := hC1
  clear hC1 z1
  go_wp2_with fail
  go_loopw [2] (fun i wr => ∃ j : Nat, i = .int .i64 j ∧ j ≤ 8 ∧ wr.heap[w.heap.size]? = some (canO ⟨false, true, false, false, pushes j⟩) ∧ Below w.heap.size w wr) (fun i _ => 8 - (intOf i).toNat)
  case atStart => exact ⟨0, rfl, by omega, hC1', b1⟩
  case round =>
    clear hC1' b1
    obtain ⟨j, rfl, hj, hC, hB⟩ := hrel
    by_cases hlt : j < 8
    · have HB := Lib.hid hB
      have HL := Lib.hid hlt
      have hli : (j : Int) < 8 := by omega
      clear hB
      go_wp2_with fail
      refine (push_x 31 (j : Int) hC (by show (pushes j).length < 8; simpa [pushes] using HL.out) (by decide) (by decide) rfl).mono ?_; rintro e w2 ⟨rfl, u⟩
      have hC2 := u.1
      have hB2 : Below w.heap.size w w2 := HB.out.trans (u.below (Nat.le_refl _) HB.out.size)
      clear hC u
      go_wp2_with (go_at_call 16; refine (num_c _ _).mono ?_; rintro e w' ⟨rfl, rfl⟩)
      go_roundw
      case rel => exact ⟨j + 1, by go_num, HL.out, by rw [pushes_succ]; exact hC2, hB2⟩
      case measure => have := HL.out; simp [intOf]; omega
    · obtain rfl : j = 8 := by omega
      clear hlt hj
      have hl8 : (pushes 8).length = 8 := rfl
      obtain ⟨L8, hL8⟩ : ∃ L8, L8 = pushes 8 := ⟨_, rfl⟩
      rw [← hL8] at hC hl8
      clear hL8
      have HL8 := Lib.hid hl8
      clear hl8
      go_wp2_with fail
      refine (new_c _).mono ?_; rintro e w2 ⟨rfl, hX, b2, z2⟩
      have hC2 := below_has b2 hC
      have hB2 := below_reads hB b2 hB.size
      have hcl := has_lt hC
      clear hC
      go_wp2_with fail
      refine (push_x (s' := ⟨false, true, false, false, [(5, 9)]⟩) 5 9 hX (by decide) (by decide) (by decide) rfl).mono ?_; rintro e w3 ⟨rfl, u⟩
      have hX3 := u.1
      have hC3 := u.other hC2 (by omega)
      have hB3 := hB2.trans (u.below (by have := hB.size; omega) hB2.size)
      clear hX hC2 u
      go_wp2_with fail
      refine (pop_x (s' := ⟨false, true, false, false, []⟩) [] 5 9 hX3 (by decide) rfl rfl).mono ?_; rintro e w4 ⟨rfl, u⟩
      have hX4 := u.1
      have hC4 := u.other hC3 (by omega)
      have hB4 := hB3.trans (u.below (by have := hB.size; omega) hB3.size)
      clear hX3 hC3 u
      go_wp2_with fail
      refine (new_c _).mono ?_; rintro e w5 ⟨rfl, hY, b5, z5⟩
      have hX5 := below_has b5 hX4
      have hC5 := below_has b5 hC4
      have hB5 := below_reads hB4 b5 hB4.size
      clear hX4 hC4 b5
      go_wp2_with fail
      refine (same_c _ _ _ _ _ hX5 (by decide) hY (by decide)).mono ?_; rintro e w6 ⟨rfl, b6⟩
      rw [show sameC ⟨false, true, false, false, []⟩ newS = true by rfl]
      have hC6 := below_has b6 hC5
      have hB6 := below_reads hB5 b6 hB5.size
      clear hX5 hY hC5 b6
      go_wp2_with fail
      refine (push_full _ _ _ 0 0 hC6 HL8.out (by decide) (by decide)).mono ?_; rintro e w7 ⟨rfl, b7⟩
      have hC7 := below_has b7 hC6
      have hB7 := below_reads hB6 b7 hB6.size
      clear hC6 b7
      go_wp2_with fail
      refine (push_bad _ _ _ (-1) 0 hC7 (by show L8.length ≤ 8; exact Nat.le_of_eq HL8.out) (Or.inl (by decide))).mono ?_; rintro e w8 ⟨rfl, b8⟩
      have hC8 := below_has b8 hC7
      have hB8 := below_reads hB7 b8 hB7.size
      clear hC7 b8
      go_wp2_with fail
      refine (push_bad _ _ _ 32 0 hC8 (by show L8.length ≤ 8; exact Nat.le_of_eq HL8.out) (Or.inr (by decide))).mono ?_; rintro e w9 ⟨rfl, b9⟩
      have hC9 := below_has b9 hC8
      have hB9 := below_reads hB8 b9 hB8.size
      clear hC8 b9
      go_wp2_with (go_at_call 16; refine (num_c _ _).mono ?_; rintro e w' ⟨rfl, rfl⟩)
      refine (len_c _ _ _ hC9 (by show L8.length ≤ 8; exact Nat.le_of_eq HL8.out)).mono ?_; rintro e w10 ⟨rfl, b10⟩
      rw [show (Cs.L ⟨false, true, false, false, L8⟩).length = 8 from HL8.out]
      have hC10 := below_has b10 hC9
      have hB10 := below_reads hB9 b10 hB9.size
      clear hC9 b10
      have ht : (Cs.L ⟨false, true, false, false, L8⟩).length ≤ 8 := Nat.le_of_eq HL8.out
      go_wp2_with (first
        | (go_at_call 21; refine (enabled_c _ _ _ hC10 ht).mono ?_; rintro e w' ⟨rfl, rfl⟩)
        | (go_at_call 22; refine (once_c _ _ _ hC10 ht).mono ?_; rintro e w' ⟨rfl, rfl⟩)
        | (go_at_call 25; refine (asked_c _ _ _ hC10 ht).mono ?_; rintro e w' ⟨rfl, rfl⟩)
        | (go_at_call 26; refine (unwinds_c _ _ _ hC10 ht).mono ?_; rintro e w' ⟨rfl, rfl⟩))
      refine (nothing_c _ none .nil).mono ?_; rintro e w11 ⟨rfl, b11⟩
      have hC11 := below_has b11 hC10
      have hB11 := below_reads hB10 b11 hB10.size
      clear hC10 b11
      go_wp2_with fail
      refine calls_world (fun W => W.heap[w11.heap.size]? = some zeroO ∧ Below w11.heap.size w11 W) ⟨heap_alloc_new _ _, (Below.refl _ _).alloc (Nat.le_refl _) _⟩ ?_
      rintro W12 ⟨hZ, b12⟩
      have hC12 := below_has b12 hC11
      have hB12 := below_reads hB11 b12 hB11.size
      clear hC11 b12
      refine (nothing_c _ _ (.zero _ hZ)).mono ?_; rintro e w13 ⟨rfl, b13⟩
      have hC13 := below_has b13 hC12
      have hB13 := below_reads hB12 b13 hB12.size
      clear hC12 b13 hZ
      go_wp2_with (go_at_call 10; refine (same_one _ _ _ hC13 ht).mono ?_; rintro e w' ⟨rfl, rfl⟩)
      refine (known_c _).mono ?_; rintro e w14 ⟨rfl, b14⟩
      have hB14 := below_reads hB13 b14 hB13.size
      clear hC13 b14
      go_wp2_with fail
      go_ret
      exact ⟨rfl, hB14⟩
end Go.Proofs.Ytdpeccbdacdkiaa
