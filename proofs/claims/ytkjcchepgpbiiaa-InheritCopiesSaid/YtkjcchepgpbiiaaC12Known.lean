/- The chapter's rows: known tells true. Conditions: none. -/
import Derived.Test.YtkjcchepgpbiiaaC12For
namespace Go.Proofs.Ytkjcchepgpbiiaa
open Go.RowKit Go.Shelf
attribute [local go_sem] Oper.semAt_some wide_fn wide_round_fn

theorem low_of_origin {n : Nat} {own wt l : Nat → Int} (hf : Fine n wt) (h : ∀ t, t < n → ∃ s, s < n ∧ ∃ k, k < n ∧ stepsTo wt k s = some t ∧ l t = own s) : Low n own wt l := by
  intro f hP t ht
  obtain ⟨s, hs, k, _, hk, e⟩ := h t ht
  rw [e]
  have up : ∀ (k s u : Nat), s < n → stepsTo wt k s = some u → f s ≤ f u := by
    intro k
    induction k with
    | zero => intro s u _ e; cases e; exact Int.le_refl _
    | succ k ih =>
      intro s u hs e
      simp only [stepsTo] at e
      cases hk : stepsTo wt k s with
      | none => rw [hk] at e; cases e
      | some a => rw [hk] at e; exact Int.le_trans (ih s a hs hk) (hP.2 a u (steps_lt hf hs hk) e)
  exact Int.le_trans (hP.1 s hs) (up k s t hs hk)
theorem least_of {n : Nat} {own wt l : Nat → Int} (hf : Fine n wt) (h1 : ∀ t, t < n → own t ≤ l t) (h2 : ∀ t, t < n → (match nxt wt t with | some w => decide (l t ≤ l w) | none => true) = true)
    (h3 : ∀ t, t < n → ∃ s, s < n ∧ ∃ k, k < n ∧ stepsTo wt k s = some t ∧ l t = own s) : Least n own wt l :=
  ⟨⟨h1, fun t w ht hw => by have := h2 t ht; rw [hw] at this; simpa using this⟩, low_of_origin hf h3⟩
def ofL (l : List Int) : Nat → Int := fun i => l.getD i 0
section
variable {w : World} {b : Nat} {s s' : Gs}
theorem base_x (t : Nat) (ti p : Int) (e : ti = (t : Int)) (h : w.heap[b]? = some (gO s)) (ok : GOk s) (ht : t < s.n) (hp : 0 ≤ p ∧ p ≤ 31) (hs : { s with ba := upd s.ba t p } = s') :
    Calls Try.prog 15 #[.pointer (some ⟨b, 0, none⟩), .int .i64 ti, .int .i64 p] w fun e w' => e = .returned (.int .i64 0) ∧ Upd w b (gO s') w' := by subst hs e; exact base_c w b s t p h ok ht hp
theorem ceil_x (t : Nat) (ti p : Int) (e : ti = (t : Int)) (h : w.heap[b]? = some (gO s)) (ok : GOk s) (ht : t < s.n) (hp : 0 ≤ p ∧ p ≤ 31) (hs : { s with ce := upd s.ce t p } = s') :
    Calls Try.prog 16 #[.pointer (some ⟨b, 0, none⟩), .int .i64 ti, .int .i64 p] w fun e w' => e = .returned (.int .i64 0) ∧ Upd w b (gO s') w' := by subst hs e; exact ceil_c w b s t p h ok ht hp
theorem waits_x (t : Nat) (ti p : Int) (e : ti = (t : Int)) (h : w.heap[b]? = some (gO s)) (ok : GOk s) (ht : t < s.n) (hp : -1 ≤ p ∧ p < s.n) (hs : { s with wt := upd s.wt t p } = s') :
    Calls Try.prog 17 #[.pointer (some ⟨b, 0, none⟩), .int .i64 ti, .int .i64 p] w fun e w' => e = .returned (.int .i64 0) ∧ Upd w b (gO s') w' := by subst hs e; exact waits_c w b s t p h ok ht hp
theorem gall_x (l : List Int) (h : w.heap[b]? = some (gO s)) (ok : GOk s) (hl : Least s.n s.own s.wt (ofL l)) (hn : outL (ofL l) s.n = l) :
    Calls Try.prog 12 #[.pointer (some ⟨b, 0, none⟩)] w fun e w' => ∃ v : Value, e = .returned v ∧ OwnL w' w.heap.size v l ∧ Below w.heap.size w w' := by
  refine (gall_c w b s h ok).mono ?_
  rintro e w' ⟨v, out, rfl, hO, hL, hB⟩
  rw [outL_congr (g := ofL l) (least_unique hL hl), hn] at hO
  exact ⟨v, rfl, hO, hB⟩
theorem reads_lit {W : World} {p cap : Nat} {l : List Int} (h : W.heap[p]? = some (.cells (l.map (.int .i64)).toArray 3 (0, 0))) : ReadsL W (.slice (some ⟨p, 0, none⟩) l.length cap) l :=
  ⟨_, cap, rfl, fun _ => ⟨p, rfl, fun k hk => has_cell k h (by rw [List.getElem?_toArray, List.getElem?_map, List.getElem?_eq_getElem hk, List.getD_eq_getElem?_getD, List.getElem?_eq_getElem hk]; rfl)⟩⟩
/-- A list that was made, beside one that is written out. -/
theorem same_x (l : List Int) (n p : Nat) {v : Value} (W : World) (hn : l.length = n) (hv : ReadsL W v l) (hp : W.heap[p]? = some (.cells (l.map (.int .i64)).toArray 3 (0, 0))) (h1 : l.length ≤ 1000) :
    Calls Try.prog 22 #[v, .slice (some ⟨p, 0, none⟩) n n] W fun e w' => e = .returned (.bool true) ∧ Below W.heap.size W w' := by
  subst hn
  exact same_c W v _ l l hv (reads_lit hp) h1 h1 (by simp)
end
theorem rowOf_ne {W : World} {c p B : Nat} {v : Value} {l : List Int} (h : OwnL W B v l) (hc : p < B ∧ p < c) : rowOf v c ≠ p := by
  rcases h.2 with ⟨rfl, _⟩ | ⟨g, cap, cur, rfl, hg, hb, _⟩
  · show c ≠ p
    omega
  · show g ≠ p
    omega
theorem own_size {β : Type} {B m : Nat} : OwnFrom B (fun (_ : β) W => m ≤ W.heap.size) := fun _ _ _ _ hs hg _ => Nat.le_trans hs hg.size
theorem named {F : Fence} {n : Nat} {P : Program} {c : Code} {Q : Exit → Act → World → Prop} {a : Act} {w : World} (h : ∀ fa, fa = a → c.wpIn F n P Q fa w) : c.wpIn F n P Q a w := h a rfl
theorem run_eq_fn (a : Value) (w : World) : (binOp .eql 55 (.func (.func 31) #[] #[a]) .nilFunc).run Try.prog w = .ok (.bool false) w := by kernel_rfl
theorem own_list {B pl lo : Nat} : OwnFrom B (fun (pre : List Int) W => ∃ v, W.heap[pl]? = some (.cells #[v] 33 (0, 0)) ∧ OwnL W lo v pre) := by
  rintro pre W W' row ⟨v, hX, hO⟩ hg hr
  refine ⟨v, (hg.block pl (has_lt hX) (fun e => ?_)).trans hX, World.ownsRow.kept hO hg ?_⟩
  · obtain ⟨_, o, ho, hc⟩ := hr pl e.symm
    rw [hX] at ho
    cases ho
    cases hc
  · rcases hO.2 with ⟨rfl, _⟩ | ⟨g, cap, cur, rfl, _, hgg, _⟩
    · exact .inl rfl
    · refine .inr ?_
      intro e
      obtain ⟨_, o, ho, hc⟩ := hr g e.symm
      rw [hgg] at ho
      cases ho
      cases hc
theorem list_round {W W3 : World} {pl lo : Nat} {u v' : Value} {pre : List Int} {x : Int} (hP : W.heap[pl]? = some (.cells #[u] 33 (0, 0))) (hO1 : OwnL (W.alloc (.cells #[.int .i64 x] 3)) lo u pre) (hG3 : (W.alloc (.cells #[.int .i64 x] 3)).grownBy W3 u.ownBlock) (hO3 : OwnL W3 lo v' (pre ++ [x])) (hpl : pl < lo) :
    KeepsOthers W (W3.setCell ⟨pl, 0, none⟩ v') ∧ (∀ k, k < lo → k < W.heap.size → k ≠ pl → (W3.setCell ⟨pl, 0, none⟩ v').heap[k]? = W.heap[k]?) ∧ (W3.setCell ⟨pl, 0, none⟩ v').heap[pl]? = some (.cells #[v'] 33 (0, 0)) ∧ OwnL (W3.setCell ⟨pl, 0, none⟩ v') lo v' (pre ++ [x]) ∧ W.heap.size ≤ (W3.setCell ⟨pl, 0, none⟩ v').heap.size ∧ ∀ B, B ≤ pl → B ≤ W.heap.size → Below B W (W3.setCell ⟨pl, 0, none⟩ v') := by
  have hX1 := below_alloc_has (o := .cells #[.int .i64 x] 3) hP
  have hX3 := block_kept hO1 hG3 hX1 hpl
  have u4 : Upd W3 pl (.cells #[v'] 33 (0, 0)) (W3.setCell ⟨pl, 0, none⟩ v') := (Upd.refl hX3).setCell 0 v'
  have hs : W.heap.size ≤ W3.heap.size := Nat.le_trans (by simp) hG3.size
  have hk : ∀ k, k < lo → k < W.heap.size → W3.heap[k]? = W.heap[k]? := fun k h1 h2 => by
    refine (hG3.block k (by simp; omega) ?_).trans (Below.heap_alloc _ _ _ h2)
    rcases own_not hO1 h1 with e | e
    · rw [e]; simp
    · exact fun e' => e e'.symm
  refine ⟨((KeepsOthers.alloc _ _).trans (KeepsOthers.of_grownBy hG3 ?_)).trans (KeepsOthers.setCell _ _ _), fun k h1 h2 h3 => (u4.2.block k (by omega) (by simpa using h3)).trans (hk k h1 h2), u4.1, own_upd hO3 u4 hpl, Nat.le_trans hs u4.size, fun B h1 h2 => ?_⟩
  · intro j o hj ho
    rcases hO1.2 with ⟨rfl, _⟩ | ⟨g, cap, cur, rfl, _, hgg, _⟩
    · cases hj
    · cases hj
      rw [hgg] at ho
      cases ho
      rfl
  · exact (((Below.refl B W).alloc h2 (.cells #[.int .i64 x] 3)).trans (below_of_grown hO1 hG3 (by omega) (by simp; omega))).trans (u4.below h1 (by omega))
theorem app_intIn {F : Fence} {n : Nat} {ops : Array Oper} {rest : List Oper} {o : Oper} {a : Act} {Q : Exit → Act → World → Prop} {w : World} {base : Nat} (hgd : o.guard = none) (s x : Operand)
    (ho : o.op = .call { callee := .builtin .append, args := #[s, x], argTypes := #[33, 33] }) (v : Value) (l : List Int) (hs : a.eval s = v) (hown : OwnL w base v l)
    (g : Nat) (hx : a.eval x = .slice (some ⟨g, 0, none⟩) 1 1) (u : Int) (hu : w.cell? ⟨g, 0, none⟩ = some (.int .i64 u)) (hm : l.length ≤ 1000) (hbase : base ≤ w.heap.size)
    (h : ∀ v' w', OwnL w' base v' (l ++ [u]) → w.grownBy w' v.ownBlock → wpListIn F n Try.prog ops Q rest (a.put o.dst v') w') : wpListIn F n Try.prog ops Q (o :: rest) a w := by
  obtain ⟨i, hi, hz0, hz1, hz2⟩ := info_parts info3
  exact wpListIn_append_own w hgd s x 33 ho base 3 i (.int .i64 0) 1 8 Try.underlying33 hi hz0 hz1 hz2 rfl (by decide) v l.length _ hs hown ⟨g, 0, none⟩ 1 1 [.int .i64 u] hx rfl
    (fun j y hy => by
      match j with
      | 0 => simp at hy; subst hy; simpa [Addr.add] using hu
      | j + 1 => simp at hy) (by intro y hy; simp at hy; subst hy; rfl) (by unfold maxLen; omega) (by omega) hbase (fun v' w' h1 h2 _ => h v' w' (by unfold OwnL; rw [List.length_append, List.map_append]; exact h1) h2)

def k0 : Gs := newG 4
theorem k0_ok : GOk k0 := newG_ok (by decide) (by decide)
def k1 : Gs := { k0 with ba := upd k0.ba 0 1 }
theorem k1_ok : GOk k1 := k0_ok.ba' (t := 0) (x := 1) (by decide) (by decide)
def k2 : Gs := { k1 with ba := upd k1.ba 1 5 }
theorem k2_ok : GOk k2 := k1_ok.ba' (t := 1) (x := 5) (by decide) (by decide)
def k3 : Gs := { k2 with ba := upd k2.ba 2 3 }
theorem k3_ok : GOk k3 := k2_ok.ba' (t := 2) (x := 3) (by decide) (by decide)
def k4 : Gs := { k3 with ba := upd k3.ba 3 2 }
theorem k4_ok : GOk k4 := k3_ok.ba' (t := 3) (x := 2) (by decide) (by decide)
def k5 : Gs := { k4 with wt := upd k4.wt 1 0 }
theorem k5_ok : GOk k5 := k4_ok.wt' (t := 1) (x := 0) (by decide) (by decide)
def k6 : Gs := { k5 with wt := upd k5.wt 0 3 }
theorem k6_ok : GOk k6 := k5_ok.wt' (t := 0) (x := 3) (by decide) (by decide)
def k7 : Gs := { k6 with wt := upd k6.wt 2 3 }
theorem k7_ok : GOk k7 := k6_ok.wt' (t := 2) (x := 3) (by decide) (by decide)
def k8 : Gs := { k7 with ce := upd k7.ce 3 7 }
theorem k8_ok : GOk k8 := k7_ok.ce' (t := 3) (x := 7) (by decide) (by decide)
def k9 : Gs := { k8 with wt := upd k8.wt 3 0 }
theorem k9_ok : GOk k9 := k8_ok.wt' (t := 3) (x := 0) (by decide) (by decide)
theorem k5_least : Least k5.n k5.own k5.wt (ofL [5, 5, 3, 2]) := least_of k5_ok.fine (by decide) (by decide) (by decide)
theorem k7_least : Least k7.n k7.own k7.wt (ofL [5, 5, 3, 5]) := least_of k7_ok.fine (by decide) (by decide) (by decide)
theorem k8_least : Least k8.n k8.own k8.wt (ofL [5, 5, 3, 7]) := least_of k8_ok.fine (by decide) (by decide) (by decide)
theorem k9_least : Least k9.n k9.own k9.wt (ofL [7, 5, 3, 7]) := least_of k9_ok.fine (by decide) (by decide) (by decide)
theorem k7_for : forL k7 3 = [0, 2] := by decide
theorem k9_ring : ringF k9.n k9.wt 3 = some [3, 0] := by decide
theorem ring_x {w : World} {b : Nat} (h : w.heap[b]? = some (gO k9)) : Calls Try.prog 13 #[.pointer (some ⟨b, 0, none⟩), .int .i64 3] w fun e w' => ∃ v : Value, e = .returned (.tuple #[v, .bool true]) ∧ OwnL w' w.heap.size v [3, 0] ∧ Below w.heap.size w w' := by
  have := ring_c w b k9 3 h k9_ok (by decide)
  rw [k9_ring] at this
  exact this

set_option maxRecDepth 100000 in
set_option maxHeartbeats 4000000 in
theorem known_c (w : World) : Calls Try.prog 10 #[] w fun e w' => e = .returned (.bool true) ∧ Below w.heap.size w w' := by
  refine calls_of_marks 4 Try.func10 rfl ?_
  simp only [Try.ntmps10, List.size_toArray, List.length_cons, List.length_nil, Nat.reduceAdd, Nat.reduceSub, Array.replicate_succ, Array.replicate_zero, List.push_toArray, List.append_toArray, List.nil_append, List.cons_append]
  refine wpIn_wide.2 ?_
  go_wp2_with fail
  refine (new_c w 4 (by decide) (by decide)).mono ?_; rintro e w0 ⟨rfl, hG, hB, hz⟩
  obtain ⟨b, hb⟩ : ∃ b, b = w.heap.size := ⟨_, rfl⟩
  rw [← hb] at hG
  have hG : w0.heap[b]? = some (gO k0) := hG
  have HB := Lib.hid hb
  rw [← hb]
  clear hb hz
  go_wp2_with fail
  refine (base_x (s := k0) (s' := k1) 0 0 1 rfl hG k0_ok (by decide) (by decide) rfl).mono ?_; rintro e w1 ⟨rfl, hU⟩
  replace hB := hB.trans (hU.below (Nat.le_of_eq HB.out.symm) hB.size)
  replace hG := hU.1
  clear hU
  go_wp2_with fail
  refine (base_x (s := k1) (s' := k2) 1 1 5 rfl hG k1_ok (by decide) (by decide) rfl).mono ?_; rintro e w2 ⟨rfl, hU⟩
  replace hB := hB.trans (hU.below (Nat.le_of_eq HB.out.symm) hB.size)
  replace hG := hU.1
  clear hU
  go_wp2_with fail
  refine (base_x (s := k2) (s' := k3) 2 2 3 rfl hG k2_ok (by decide) (by decide) rfl).mono ?_; rintro e w3 ⟨rfl, hU⟩
  replace hB := hB.trans (hU.below (Nat.le_of_eq HB.out.symm) hB.size)
  replace hG := hU.1
  clear hU
  go_wp2_with fail
  refine (base_x (s := k3) (s' := k4) 3 3 2 rfl hG k3_ok (by decide) (by decide) rfl).mono ?_; rintro e w4 ⟨rfl, hU⟩
  replace hB := hB.trans (hU.below (Nat.le_of_eq HB.out.symm) hB.size)
  replace hG := hU.1
  clear hU
  go_wp2_with fail
  refine (waits_x (s := k4) (s' := k5) 1 1 0 rfl hG k4_ok (by decide) (by decide) rfl).mono ?_; rintro e w5 ⟨rfl, hU⟩
  replace hB := hB.trans (hU.below (Nat.le_of_eq HB.out.symm) hB.size)
  replace hG := hU.1
  clear hU
  go_wp2_with fail
  refine (gall_x (s := k5) [5, 5, 3, 2] hG k5_ok k5_least rfl).mono ?_; rintro e w6 ⟨v6, rfl, hO, hb⟩
  replace hB := hB.trans (hb.mono hB.size)
  replace hG := below_has hb hG
  have hR := own_reads hO
  clear hb hO
  go_wp2_with fail
  refine calls_world (fun W => W.heap[w6.heap.size]? = some (.cells (([5, 5, 3, 2] : List Int).map (.int .i64)).toArray 3 (0, 0)) ∧ W.heap[b]? = some (gO k5) ∧ ReadsL W v6 [5, 5, 3, 2] ∧ Below w.heap.size w W) ⟨heap_alloc_new _ _, below_alloc_has hG, reads_below hR ((Below.refl _ _).alloc (Nat.le_refl _) _), hB.alloc hB.size _⟩ ?_
  clear hG hR hB
  rintro w7 ⟨hX, hG, hR, hB⟩
  refine (same_x [5, 5, 3, 2] 4 w6.heap.size w7 rfl hR hX (by decide)).mono ?_; rintro e w8 ⟨rfl, hb⟩
  replace hB := hB.trans (hb.mono hB.size)
  replace hG := below_has hb hG
  clear hb hX hR
  go_wp2_with fail
  refine (waits_x (s := k5) (s' := k6) 0 0 3 rfl hG k5_ok (by decide) (by decide) rfl).mono ?_; rintro e w9 ⟨rfl, hU⟩
  replace hB := hB.trans (hU.below (Nat.le_of_eq HB.out.symm) hB.size)
  replace hG := hU.1
  clear hU
  go_wp2_with fail
  refine (waits_x (s := k6) (s' := k7) 2 2 3 rfl hG k6_ok (by decide) (by decide) rfl).mono ?_; rintro e w10 ⟨rfl, hU⟩
  replace hB := hB.trans (hU.below (Nat.le_of_eq HB.out.symm) hB.size)
  replace hG := hU.1
  clear hU
  go_wp2_with fail
  refine (gall_x (s := k7) [5, 5, 3, 5] hG k7_ok k7_least rfl).mono ?_; rintro e w11 ⟨v11, rfl, hO, hb⟩
  replace hB := hB.trans (hb.mono hB.size)
  replace hG := below_has hb hG
  have hR := own_reads hO
  clear hb hO
  go_wp2_with fail
  refine calls_world (fun W => W.heap[w11.heap.size]? = some (.cells (([5, 5, 3, 5] : List Int).map (.int .i64)).toArray 3 (0, 0)) ∧ W.heap[b]? = some (gO k7) ∧ ReadsL W v11 [5, 5, 3, 5] ∧ Below w.heap.size w W) ⟨heap_alloc_new _ _, below_alloc_has hG, reads_below hR ((Below.refl _ _).alloc (Nat.le_refl _) _), hB.alloc hB.size _⟩ ?_
  clear hG hR hB
  rintro w12 ⟨hX, hG, hR, hB⟩
  refine (same_x [5, 5, 3, 5] 4 w11.heap.size w12 rfl hR hX (by decide)).mono ?_; rintro e w13 ⟨rfl, hb⟩
  replace hB := hB.trans (hb.mono hB.size)
  replace hG := below_has hb hG
  clear hb hX hR
  go_upto_region 7 with fail
  refine world_wp (fun W => W.heap[w13.heap.size]? = some (.cells #[.slice none 0 0] 33 (0, 0)) ∧ W.heap[b]? = some (gO k7) ∧ Below w.heap.size w W) ⟨heap_alloc_new _ _, below_alloc_has hG, hB.alloc hB.size _⟩ ?_
  have HB13 := Lib.hid hB.size
  have HG13 := Lib.hid (has_lt hG)
  clear hG hB
  rintro W1 ⟨hP, hG, hB⟩
  obtain ⟨pl, hpl⟩ : ∃ pl, w13.heap.size = pl := ⟨_, rfl⟩
  rw [hpl] at hP HB13 HG13 ⊢
  clear hpl
  have hpl1 := has_lt hP
  go_wp2_with fail
  refine (for_c W1 b k7 3 hG k7_ok).mono ?_; rintro e W2 ⟨v, rfl, hX, hO, hb, hz⟩
  rw [k7_for] at hO
  replace hB := hB.trans (hb.mono hB.size)
  replace hG := below_has hb hG
  replace hP := below_has hb hP
  clear hb
  have hgl := has_lt hG
  obtain ⟨c, hc⟩ : ∃ c, W1.heap.size = c := ⟨_, rfl⟩
  rw [hc] at hX hO hz hpl1 ⊢
  clear hc
  have hBS := hB.size
  have hnf := run_eq_fn (.pointer (some ⟨c, 0, none⟩))
  go_wp2_with fail
  refine (wpIn_wide (n := 4)).1 ?_
  refine named ?_
  intro fa hfa
  refine wpIn_rangeFunc_ownF rfl (by decide) (gf := 31) (lb := #[.pointer (some ⟨c, 0, none⟩)]) (by rw [hfa]; rfl) trivial enters31
    (for_stops 3 (by decide) c v [0, 2] W2 ⟨hX, own_reads hO⟩ (by decide)) keep2_t (keep2_b hz (rowOf_lt hO hz)) (Below.refl _ _) (fun _ => rfl)
    (fun (pre : List Int) (W : World) => (∃ u, W.heap[pl]? = some (.cells #[u] 33 (0, 0)) ∧ OwnL W W2.heap.size u pre) ∧ (W.heap[b]? = some (gO k7) ∧ Below w.heap.size w W ∧ W2.heap.size ≤ W.heap.size)) (fun _ _ _ => False)
    (own_list.and (OwnFrom.and (own_has (by omega) _) (OwnFrom.and (ownFrom_below (Nat.le_refl _) hB.size) own_size))) (fun _ => own_pure _) ⟨⟨_, hP, own_nil _ _⟩, hG, hB, Nat.le_refl _⟩
    (fun x => { tmps := (fa.tmps.setIfInBounds 72 (.int .i64 x)).setIfInBounds 5 (.int .i64 x), defers := [] })
    ?assign ?body ?done ?stop
  case assign =>
    intro l x W K hK
    subst hfa
    simp only [encI, zip1, fold1, List.setIfInBounds_toArray, List.set_cons_succ, List.set_cons_zero]
    simp only [List.setIfInBounds_toArray, List.set_cons_succ, List.set_cons_zero] at hK
    gi_wp2
    exact hK
  case body =>
    rintro l pre x W ⟨⟨u, hP, hO2⟩, hG, hB, hz2⟩ hlen
    subst hfa
    simp only [List.setIfInBounds_toArray, List.set_cons_succ, List.set_cons_zero]
    have cx := has_cell 0 hP rfl
    have hO1 := own_below hO2 ((Below.refl W.heap.size W).alloc (Nat.le_refl _) (.cells #[.int .i64 x] 3))
    have hX1 := below_alloc_has (o := .cells #[.int .i64 x] 3) hP
    have hplW := has_lt hP
    gi_wp2_with (refine app_intIn (base := W2.heap.size) rfl (.tmp 73) (.tmp 75) rfl u pre rfl hO1 W.heap.size rfl x (has_cell 0 (heap_alloc_new _ _) rfl) (by omega) (by simp; omega) ?_; intro v2 W3 hO3 hG3; obtain ⟨ad2, cap2, rfl, _⟩ := own_reads hO3; have hX2 := block_kept hO1 hG3 hX1 (by omega); have cx2 := has_cell 0 hX2 rfl; have fx2 := has_free hX2; have HL := Lib.hid (list_round hP hO1 hG3 hO3 (by omega)))
    obtain ⟨r1, r2, r3, r4, r5, r6⟩ := HL.out
    have h13 := HG13.out
    have h14 := HB13.out
    rw [List.length_append] at r1 r2 r3 r4 r5 r6
    exact ⟨r1, ⟨r2 c (by omega) (by omega) (by omega), r2 _ (rowOf_lt hO hz) (Nat.lt_of_lt_of_le (rowOf_lt hO hz) hz2) (rowOf_ne hO (by omega))⟩, ⟨_, r3, r4⟩, (r2 b (by omega) (by omega) (by omega)).trans hG, hB.trans (r6 _ (by omega) hB.size), Nat.le_trans hz2 r5⟩
  case done =>
    rintro D ys W hD rfl ⟨⟨u, hP, hO2⟩, hG, hB, hz2⟩ hK
    subst hfa
    have cx := has_cell 0 hP rfl
    have hDb : D ≠ b := by omega
    have hBX := Lib.hid hBS
    have hR := own_reads hO2
    clear hP hO2 hnf hX hO
    go_wp2_with fail
    refine calls_world (fun W' => W'.heap[W.heap.size]? = some (.cells (([0, 2] : List Int).map (.int .i64)).toArray 3 (0, 0)) ∧ W'.heap[b]? = some (gO k7) ∧ ReadsL W' u [0, 2] ∧ Below w.heap.size w W' ∧ W'.heap[D]? = some (.deferred (some []))) ⟨heap_alloc_new _ _, below_alloc_has hG, reads_below hR ((Below.refl _ _).alloc (Nat.le_refl _) _), hB.alloc hB.size _, below_alloc_has hK⟩ ?_
    clear hG hR hB hK
    rintro w14 ⟨hX, hG, hR, hB, hK⟩
    refine (same_x [0, 2] 2 W.heap.size w14 rfl hR hX (by decide)).mono ?_; rintro e w15 ⟨rfl, hb⟩
    replace hB := hB.trans (hb.mono hB.size)
    replace hG := below_has hb hG
    replace hK := below_has hb hK
    clear hb hX hR
    go_wp2_with fail
    refine (ceil_x (s := k7) (s' := k8) 3 3 7 rfl hG k7_ok (by decide) (by decide) rfl).mono ?_; rintro e w16 ⟨rfl, hU⟩
    replace hB := hB.trans (hU.below (Nat.le_of_eq HB.out.symm) hB.size)
    replace hK := hU.other hK hDb
    replace hG := hU.1
    clear hU
    go_wp2_with fail
    refine (gall_x (s := k8) [5, 5, 3, 7] hG k8_ok k8_least rfl).mono ?_; rintro e w17 ⟨v17, rfl, hO, hb⟩
    replace hB := hB.trans (hb.mono hB.size)
    replace hG := below_has hb hG
    replace hK := below_has hb hK
    have hR := own_reads hO
    clear hO
    clear hb
    go_wp2_with fail
    refine calls_world (fun W' => W'.heap[w17.heap.size]? = some (.cells (([5, 5, 3, 7] : List Int).map (.int .i64)).toArray 3 (0, 0)) ∧ W'.heap[b]? = some (gO k8) ∧ ReadsL W' v17 [5, 5, 3, 7] ∧ Below w.heap.size w W' ∧ W'.heap[D]? = some (.deferred (some []))) ⟨heap_alloc_new _ _, below_alloc_has hG, reads_below hR ((Below.refl _ _).alloc (Nat.le_refl _) _), hB.alloc hB.size _, below_alloc_has hK⟩ ?_
    clear hG hR hB hK
    rintro w18 ⟨hX, hG, hR, hB, hK⟩
    refine (same_x [5, 5, 3, 7] 4 w17.heap.size w18 rfl hR hX (by decide)).mono ?_; rintro e w19 ⟨rfl, hb⟩
    replace hB := hB.trans (hb.mono hB.size)
    replace hG := below_has hb hG
    replace hK := below_has hb hK
    clear hb hX hR
    go_wp2_with fail
    refine (waits_x (s := k8) (s' := k9) 3 3 0 rfl hG k8_ok (by decide) (by decide) rfl).mono ?_; rintro e w20 ⟨rfl, hU⟩
    replace hB := hB.trans (hU.below (Nat.le_of_eq HB.out.symm) hB.size)
    replace hK := hU.other hK hDb
    replace hG := hU.1
    clear hU
    go_wp2_with fail
    refine (gall_x (s := k9) [7, 5, 3, 7] hG k9_ok k9_least rfl).mono ?_; rintro e w21 ⟨v21, rfl, hO, hb⟩
    replace hB := hB.trans (hb.mono hB.size)
    replace hG := below_has hb hG
    replace hK := below_has hb hK
    have hR := own_reads hO
    clear hO
    clear hb
    go_wp2_with fail
    refine calls_world (fun W' => W'.heap[w21.heap.size]? = some (.cells (([7, 5, 3, 7] : List Int).map (.int .i64)).toArray 3 (0, 0)) ∧ W'.heap[b]? = some (gO k9) ∧ ReadsL W' v21 [7, 5, 3, 7] ∧ Below w.heap.size w W' ∧ W'.heap[D]? = some (.deferred (some []))) ⟨heap_alloc_new _ _, below_alloc_has hG, reads_below hR ((Below.refl _ _).alloc (Nat.le_refl _) _), hB.alloc hB.size _, below_alloc_has hK⟩ ?_
    clear hG hR hB hK
    rintro w22 ⟨hX, hG, hR, hB, hK⟩
    refine (same_x [7, 5, 3, 7] 4 w21.heap.size w22 rfl hR hX (by decide)).mono ?_; rintro e w23 ⟨rfl, hb⟩
    replace hB := hB.trans (hb.mono hB.size)
    replace hG := below_has hb hG
    replace hK := below_has hb hK
    clear hb hX hR
    go_wp2_with fail
    refine (ring_x hG).mono ?_; rintro e w24 ⟨vr, rfl, hO, hb⟩
    replace hB := hB.trans (hb.mono hB.size)
    replace hG := below_has hb hG
    replace hK := below_has hb hK
    have hR := own_reads hO
    clear hO
    clear hb
    go_wp2_with fail
    refine (new_bad _ 0 (.inl (by decide))).mono ?_; rintro e w' ⟨rfl, rfl⟩
    go_wp2_with fail
    refine calls_world (fun W' => W'.heap[w24.heap.size]? = some (.cells (([3, 0] : List Int).map (.int .i64)).toArray 3 (0, 0)) ∧ W'.heap[b]? = some (gO k9) ∧ ReadsL W' vr [3, 0] ∧ Below w.heap.size w W' ∧ W'.heap[D]? = some (.deferred (some []))) ⟨heap_alloc_new _ _, below_alloc_has hG, reads_below hR ((Below.refl _ _).alloc (Nat.le_refl _) _), hB.alloc hB.size _, below_alloc_has hK⟩ ?_
    clear hG hR hB hK
    rintro w25 ⟨hX, hG, hR, hB, hK⟩
    refine (same_x [3, 0] 2 w24.heap.size w25 rfl hR hX (by decide)).mono ?_; rintro e w26 ⟨rfl, hb⟩
    replace hB := hB.trans (hb.mono hB.size)
    replace hG := below_has hb hG
    replace hK := below_has hb hK
    clear hb hX hR
    go_wp2_with fail
    refine (waits_no _ b k9 0 4 hG k9_ok (by decide)).mono ?_; rintro e w' ⟨rfl, rfl⟩
    go_wp2_with fail
    refine (base_no _ b k9 0 32 hG k9_ok (by decide)).mono ?_; rintro e w' ⟨rfl, rfl⟩
    go_wp2_with fail
    refine ⟨by simp, .inl ⟨_, _, rfl, run_takeDeferred hK, ?_⟩⟩
    exact ⟨_, results_tmp rfl _ _ _, rfl, below_mark hB (Nat.le_trans hBX.out hD) hK _⟩
  case stop =>
    rintro D c pre W _ _ h _
    exact h.elim
end Go.Proofs.Ytkjcchepgpbiiaa
