/- Copy, Same of a graph, over the translation of this seat. Conditions: the blocks that are named hold what is said. -/
import Derived.Test.YtkjcchepgpbiiaaC12Ref
namespace Go.Proofs.Ytkjcchepgpbiiaa
open Go.RowKit

theorem four_one (n : Nat) (a b c : Nat → Int) : ∀ v ∈ fourC n a b c, v.oneCell' = true := by
  intro v hv
  simp only [fourC, List.mem_cons, List.mem_append] at hv
  rcases hv with rfl | hv | hv | hv
  · rfl
  · exact rowI_one _ _ v hv
  · exact rowI_one _ _ v hv
  · exact rowI_one _ _ v hv
def zeroG : Obj := .cells (List.replicate 49 (.int .i64 0)).toArray 52 (0, 0)
theorem alloc_zero (w : World) : (w.alloc (.cells #[.int .i64 0, .int .i64 0, .int .i64 0, .int .i64 0, .int .i64 0, .int .i64 0, .int .i64 0, .int .i64 0, .int .i64 0, .int .i64 0, .int .i64 0, .int .i64 0, .int .i64 0, .int .i64 0, .int .i64 0, .int .i64 0, .int .i64 0, .int .i64 0, .int .i64 0, .int .i64 0, .int .i64 0, .int .i64 0, .int .i64 0, .int .i64 0, .int .i64 0, .int .i64 0, .int .i64 0, .int .i64 0, .int .i64 0, .int .i64 0, .int .i64 0, .int .i64 0, .int .i64 0, .int .i64 0, .int .i64 0, .int .i64 0, .int .i64 0, .int .i64 0, .int .i64 0, .int .i64 0, .int .i64 0, .int .i64 0, .int .i64 0, .int .i64 0, .int .i64 0, .int .i64 0, .int .i64 0, .int .i64 0, .int .i64 0] 52)).heap[w.heap.size]? = some zeroG ∧ Below w.heap.size w (w.alloc (.cells #[.int .i64 0, .int .i64 0, .int .i64 0, .int .i64 0, .int .i64 0, .int .i64 0, .int .i64 0, .int .i64 0, .int .i64 0, .int .i64 0, .int .i64 0, .int .i64 0, .int .i64 0, .int .i64 0, .int .i64 0, .int .i64 0, .int .i64 0, .int .i64 0, .int .i64 0, .int .i64 0, .int .i64 0, .int .i64 0, .int .i64 0, .int .i64 0, .int .i64 0, .int .i64 0, .int .i64 0, .int .i64 0, .int .i64 0, .int .i64 0, .int .i64 0, .int .i64 0, .int .i64 0, .int .i64 0, .int .i64 0, .int .i64 0, .int .i64 0, .int .i64 0, .int .i64 0, .int .i64 0, .int .i64 0, .int .i64 0, .int .i64 0, .int .i64 0, .int .i64 0, .int .i64 0, .int .i64 0, .int .i64 0, .int .i64 0] 52)) := ⟨heap_alloc_new _ _, (Below.refl _ _).alloc (Nat.le_refl _) _⟩
theorem store_graph {w W : World} {p : Nat} {ops : Array Oper} {rest : List Oper} {Q : Exit → Act → World → Prop} {a : Act} {o : Oper} (x y : Operand) (l : List Value) (h1 : o.guard = none) (h2 : o.op = .store 52 x y) (h3 : a.eval x = .pointer (some ⟨p, 0, none⟩)) (h4 : a.eval y = .agg l.toArray) (hlen : l.length = 49) (hone : ∀ v ∈ l, v.oneCell' = true) (h5 : W.heap[p]? = some zeroG ∧ Below p w W)
    (h6 : ∀ W', W'.heap[p]? = some (.cells l.toArray 52 (0, 0)) → Below p w W' → wpList Try.prog ops Q rest (a.put o.dst undef) W') : wpList Try.prog ops Q (o :: rest) a W := by
  refine wpList_store_mid h1 52 x y h2 p 0 l.toArray h3 h4 ?ht ?hi ?ho ?_
  case ht => exact has_there h5.1 0 _ (by simp [hlen])
  case hi => rw [List.size_toArray, hlen]; kernel_rfl
  case ho => exact all_oneCell_toArray hone
  have U := Upd.setCells (fz := (0, 0)) l 0 _ _ (Upd.refl h5.1)
  rw [spl_all l _ (by simp [hlen])] at U
  exact h6 _ U.1 (h5.2.trans (U.below (Nat.le_refl _) (Nat.le_of_lt (has_lt h5.1))))
theorem copy_c (w : World) (b : Nat) (s : Gs) (h : w.heap[b]? = some (gO s)) (ok : GOk s) :
    Calls Try.prog 19 #[.pointer (some ⟨b, 0, none⟩)] w fun e w' => ∃ b', e = .returned (.pointer (some ⟨b', 0, none⟩)) ∧ w.heap.size ≤ b' ∧ w'.heap[b']? = some (gO s) ∧ Below w.heap.size w w' := by
  obtain ⟨l, hl⟩ : ∃ l, l = fourC s.n s.ba s.ce (fun i => s.wt i + 1) := ⟨_, rfl⟩
  have hlen : l.length = 49 := by rw [hl, four_length]
  have hone : ∀ v ∈ l, v.oneCell' = true := by rw [hl]; exact four_one _ _ _ _
  have hg : gO s = .cells l.toArray 52 (0, 0) := by rw [hl]; rfl
  have hr : w.rangeAt b 0 l := by rw [hg] at h; exact has_range h _ _ (by simp)
  have hsz : (Try.prog.info? 52).map (·.size) = some l.length := by rw [hlen]; kernel_rfl
  clear hl
  go_enter Try.func19, Try.ntmps19
  go_upto_region 3 with (go_at_call 24; refine (is_c _ _ _ h ok).mono ?_; rintro e w' ⟨rfl, rfl⟩)
  go_wp2_with (first | (refine wpList_load_mid rfl 52 (.tmp 8) rfl b 0 rfl l _ hr Try.underlying52 rfl hsz ?_) | (refine store_graph (.tmp 3) (.tmp 9) l rfl rfl rfl rfl hlen hone (alloc_zero _) ?_; intro W hW hB))
  go_ret
  rw [hg]
  exact ⟨w.heap.size, rfl, Nat.le_refl _, hW, hB⟩
def eqI (f g : Nat → Int) : Bool := eqs (rowI f 16) (rowI g 16)
theorem fit_rowI (f : Nat → Int) : ∀ m, Fit (List.replicate m (.i .i64)) (rowI f m)
  | 0 => trivial
  | m + 1 => by
    rw [rowI_map, outL, List.range_succ_eq_map, List.replicate_succ]
    refine ⟨⟨_, rfl⟩, ?_⟩
    have := fit_rowI (fun i => f (i + 1)) m
    rw [rowI_map] at this
    simpa [outL, List.map_map, Function.comp_def] using this
theorem flat50 : flatAt Try.prog 3 50 = some (List.replicate 16 (.i .i64)) := by kernel_rfl
theorem eqI_iff (f g : Nat → Int) : eqI f g = true ↔ ∀ i, i < 16 → f i = g i := by
  unfold eqI
  rw [eqs_iff (fit_rowI f 16) (fit_rowI g 16)]
  exact ⟨fun h i hi => rowI_inj h i hi, fun h => rowI_congr h⟩
theorem run_eq16 {xs ys : List Value} (hx : Fit (List.replicate 16 (.i .i64)) xs) (hy : Fit (List.replicate 16 (.i .i64)) ys) (w : World) : (binOp .eql 50 (.agg xs.toArray) (.agg ys.toArray)).run Try.prog w = .ok (.bool (eqs xs ys)) w :=
  run_eql_flat (P := Try.prog) w 3 (t := 50) (xs := xs.toArray) (ys := ys.toArray) flat50 (by decide) (by kernel_rfl) hx hy
theorem run_eqI (f g : Nat → Int) (w : World) : (binOp .eql 50 (.agg (rowI f 16).toArray) (.agg (rowI g 16).toArray)).run Try.prog w = .ok (.bool (eqI f g)) w := run_eq16 (fit_rowI f 16) (fit_rowI g 16) w
def sameG (s s' : Gs) : Bool := decide (s.n = s'.n) && eqI s.ba s'.ba && eqI s.ce s'.ce && eqI (fun i => s.wt i + 1) (fun i => s'.wt i + 1)
theorem sameG_iff (s s' : Gs) : sameG s s' = true ↔ s.n = s'.n ∧ (∀ i, i < 16 → s.ba i = s'.ba i) ∧ (∀ i, i < 16 → s.ce i = s'.ce i) ∧ ∀ i, i < 16 → s.wt i = s'.wt i := by
  simp only [sameG, Bool.and_eq_true, decide_eq_true_eq, eqI_iff, and_assoc]
  refine and_congr_right fun _ => and_congr_right fun _ => and_congr_right fun _ => ⟨fun h i hi => by have := h i hi; omega, fun h i hi => by rw [h i hi]⟩
theorem sameG_self (s : Gs) : sameG s s = true := (sameG_iff s s).2 ⟨rfl, fun _ _ => rfl, fun _ _ => rfl, fun _ _ => rfl⟩
theorem g_ranges {w : World} {b : Nat} {s : Gs} (h : w.heap[b]? = some (gO s)) : w.rangeAt b 1 (rowI s.ba 16) ∧ w.rangeAt b 17 (rowI s.ce 16) ∧ w.rangeAt b 33 (rowI (fun i => s.wt i + 1) 16) := by
  refine ⟨has_range h _ _ fun j hj => ?_, has_range h _ _ fun j hj => ?_, has_range h _ _ fun j hj => ?_⟩
  all_goals
    rw [rowI_length] at hj
    obtain ⟨g1, g2, g3⟩ := four_get s.n s.ba s.ce (fun i => s.wt i + 1) hj
    first
    | (rw [rowI_get _ hj]; simpa using g1)
    | (rw [rowI_get _ hj]; simpa using g2)
    | (rw [rowI_get _ hj]; simpa using g3)
end Go.Proofs.Ytkjcchepgpbiiaa
