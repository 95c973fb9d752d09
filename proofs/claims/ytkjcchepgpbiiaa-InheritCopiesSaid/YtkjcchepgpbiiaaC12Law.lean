/- The plain law of effective priorities: the least numbers that are at least one's own and never less than those of who waits; rings. Conditions: as each theorem says; no program in sight. -/
import Derived.Test.YtkjcchepgpbiiaaBase
namespace Go.Proofs.Ytkjcchepgpbiiaa

/-- For whom a thread waits. -/
def nxt (wt : Nat → Int) (t : Nat) : Option Nat := if 0 ≤ wt t then some (wt t).toNat else none
/-- Numbers that are at least one's own, and never less than those of who waits. -/
def Pre (n : Nat) (own wt : Nat → Int) (f : Nat → Int) : Prop := (∀ t, t < n → own t ≤ f t) ∧ ∀ t w, t < n → nxt wt t = some w → f t ≤ f w
def Low (n : Nat) (own wt : Nat → Int) (l : Nat → Int) : Prop := ∀ f, Pre n own wt f → ∀ t, t < n → l t ≤ f t
def Least (n : Nat) (own wt : Nat → Int) (l : Nat → Int) : Prop := Pre n own wt l ∧ Low n own wt l
def Fine (n : Nat) (wt : Nat → Int) : Prop := ∀ t, t < n → -1 ≤ wt t ∧ wt t < n
def upd (l : Nat → Int) (i : Nat) (x : Int) : Nat → Int := fun j => if j = i then x else l j
theorem nxt_lt {n : Nat} {wt : Nat → Int} (h : Fine n wt) {t w : Nat} (ht : t < n) (hw : nxt wt t = some w) : w < n ∧ wt t = (w : Int) := by
  unfold nxt at hw
  split at hw
  · cases hw
    have := h t ht
    omega
  · cases hw
theorem least_unique {n : Nat} {own wt l m : Nat → Int} (h : Least n own wt l) (k : Least n own wt m) (t : Nat) (ht : t < n) : l t = m t :=
  Int.le_antisymm (h.2 m k.1 t ht) (k.2 l h.1 t ht)
theorem low_own {n : Nat} {own wt : Nat → Int} : Low n own wt own := fun _ hf t ht => hf.1 t ht
/-- Raising along an edge keeps the numbers low. -/
theorem low_raise {n : Nat} {own wt l : Nat → Int} (h : Low n own wt l) {a w : Nat} (ha : a < n) (hw : nxt wt a = some w) : Low n own wt (upd l w (l a)) := by
  intro f hf t ht
  unfold upd
  split
  · rename_i e
    subst e
    exact Int.le_trans (h f hf a ha) (hf.2 a t ha hw)
  · exact h f hf t ht
theorem low_same {n : Nat} {own wt l m : Nat → Int} (h : Low n own wt l) (e : ∀ t, t < n → m t = l t) : Low n own wt m := fun f hf t ht => by rw [e t ht]; exact h f hf t ht

/-- After k steps. -/
def stepsTo (wt : Nat → Int) : Nat → Nat → Option Nat
  | 0, s => some s
  | k + 1, s => (stepsTo wt k s).bind (nxt wt)
theorem steps_lt {n : Nat} {wt : Nat → Int} (h : Fine n wt) {s : Nat} (hs : s < n) : ∀ {k t : Nat}, stepsTo wt k s = some t → t < n
  | 0, t, e => by cases e; exact hs
  | k + 1, t, e => by
    simp only [stepsTo] at e
    cases hk : stepsTo wt k s with
    | none => rw [hk] at e; cases e
    | some a => rw [hk] at e; exact (nxt_lt h (steps_lt h hs hk) e).1
theorem steps_add (wt : Nat → Int) (s : Nat) (j : Nat) : ∀ k, stepsTo wt (j + k) s = (stepsTo wt j s).bind (stepsTo wt k)
  | 0 => by simp [stepsTo]
  | k + 1 => by
    rw [show j + (k + 1) = (j + k) + 1 by omega]
    simp only [stepsTo, steps_add wt s j k]
    cases stepsTo wt j s <;> rfl
/-- Each of the least numbers is one's own of a thread from which a row of waiting ones leads there. -/
theorem least_origin {n : Nat} {own wt l : Nat → Int} (hf : Fine n wt) (h : Least n own wt l) (t : Nat) (ht : t < n) : ∃ s k, s < n ∧ stepsTo wt k s = some t ∧ own s = l t := by
  have hup : ∀ (k s u : Nat), s < n → stepsTo wt k s = some u → l s ≤ l u := by
    intro k
    induction k with
    | zero => intro s u _ e; cases e; exact Int.le_refl _
    | succ k ih =>
      intro s u hs e
      simp only [stepsTo] at e
      cases hk : stepsTo wt k s with
      | none => rw [hk] at e; cases e
      | some a => rw [hk] at e; exact Int.le_trans (ih s a hs hk) (h.1.2 a u (steps_lt hf hs hk) e)
  classical
  let good : Nat → Prop := fun u => ∃ s k, s < n ∧ stepsTo wt k s = some u ∧ l u ≤ own s
  have hP : Pre n own wt (fun u => if good u then l u else l u - 1) := by
    refine ⟨fun u hu => ?_, fun u w hu hw => ?_⟩
    · show own u ≤ if good u then l u else l u - 1
      split
      · exact h.1.1 u hu
      · rename_i hg
        have h1 := h.1.1 u hu
        have h2 : ¬ l u ≤ own u := fun e => hg ⟨u, 0, hu, rfl, e⟩
        omega
    · show (if good u then l u else l u - 1) ≤ if good w then l w else l w - 1
      have h1 := h.1.2 u w hu hw
      split
      · rename_i hg
        obtain ⟨s, k, hs, hk, ho⟩ := hg
        split
        · exact h1
        · rename_i hn
          have : ¬ l w ≤ own s := fun e => hn ⟨s, k + 1, hs, by simp only [stepsTo, hk]; exact hw, e⟩
          omega
      · split <;> omega
  have := h.2 _ hP t ht
  have hg : good t := by
    by_cases hg : good t
    · exact hg
    · simp only [hg, if_false] at this
      omega
  obtain ⟨s, k, hs, hk, ho⟩ := hg
  exact ⟨s, k, hs, hk, Int.le_antisymm (Int.le_trans (h.1.1 s hs) (hup k s t hs hk)) ho⟩
/-- Numbers below n, more than n of them: two are the same. -/
theorem pigeon : ∀ (n : Nat) (f : Nat → Nat), (∀ i, i ≤ n → f i < n) → ∃ i j, i < j ∧ j ≤ n ∧ f i = f j
  | 0, f, h => absurd (h 0 (Nat.le_refl _)) (Nat.not_lt_zero _)
  | n + 1, f, h => by
    by_cases hx : ∃ i, i ≤ n ∧ f i = f (n + 1)
    · obtain ⟨i, hi, e⟩ := hx
      exact ⟨i, n + 1, by omega, Nat.le_refl _, e⟩
    · have hne : ∀ i, i ≤ n → f i ≠ f (n + 1) := fun i hi e => hx ⟨i, hi, e⟩
      obtain ⟨i, j, hij, hj, e⟩ := pigeon n (fun i => if f i < f (n + 1) then f i else f i - 1) (fun i hi => by
        have h1 := h i (by omega)
        have h2 := h (n + 1) (Nat.le_refl _)
        have h3 := hne i hi
        show (if f i < f (n + 1) then f i else f i - 1) < n
        split <;> omega)
      refine ⟨i, j, hij, by omega, ?_⟩
      have h1 := hne i (by omega)
      have h2 := hne j hj
      split at e <;> split at e <;> omega
/-- The shortest way there has less than n steps. -/
theorem short_way {n : Nat} {wt : Nat → Int} (hf : Fine n wt) {s t : Nat} (hs : s < n) : ∀ (k : Nat), stepsTo wt k s = some t → ∃ j, j < n ∧ j ≤ k ∧ stepsTo wt j s = some t := by
  intro k
  induction k using Nat.strongRecOn with
  | _ k ih =>
    intro hk
    by_cases hkn : k < n
    · exact ⟨k, hkn, Nat.le_refl _, hk⟩
    · have hpre : ∀ i, i ≤ k → ∃ u, stepsTo wt i s = some u ∧ stepsTo wt (k - i) u = some t := by
        intro i hi
        have e := steps_add wt s i (k - i)
        rw [show i + (k - i) = k by omega, hk] at e
        cases hu : stepsTo wt i s with
        | none => rw [hu] at e; cases e
        | some u => rw [hu] at e; exact ⟨u, rfl, e.symm⟩
      obtain ⟨i, j, hij, hj, e⟩ := pigeon n (fun i => (stepsTo wt i s).getD 0) (fun i hi => by
        obtain ⟨u, hu, _⟩ := hpre i (by omega)
        show (stepsTo wt i s).getD 0 < n
        rw [hu]
        exact steps_lt hf hs hu)
      obtain ⟨u, hu, hu2⟩ := hpre i (by omega)
      obtain ⟨v, hv, hv2⟩ := hpre j (by omega)
      simp only [hu, hv, Option.getD_some] at e
      subst e
      have hk' : stepsTo wt (i + (k - j)) s = some t := by rw [steps_add, hu]; exact hv2
      obtain ⟨m, h1, h2, h3⟩ := ih (i + (k - j)) (by omega) hk'
      exact ⟨m, h1, by omega, h3⟩
/-- Greater own numbers and more that wait make the least numbers no less. -/
theorem least_mono {n : Nat} {own own' wt wt' l l' : Nat → Int} (h : Least n own wt l) (k : Least n own' wt' l') (ho : ∀ t, t < n → own t ≤ own' t) (hw : ∀ t w, t < n → nxt wt t = some w → nxt wt' t = some w) (t : Nat) (ht : t < n) : l t ≤ l' t :=
  h.2 l' ⟨fun u hu => Int.le_trans (ho u hu) (k.1.1 u hu), fun u w hu e => k.1.2 u w hu (hw u w hu e)⟩ t ht
/-- Who is in no ring and stops waiting keeps its number. -/
theorem least_stop {n : Nat} {own wt l l' : Nat → Int} {t : Nat} (hf : Fine n wt) (h : Least n own wt l) (k : Least n own (upd wt t (-1)) l') (ht : t < n) (hr : ∀ j, stepsTo wt (j + 1) t ≠ some t) : l t ≤ l' t := by
  obtain ⟨s, j, hs, hj, ho⟩ := least_origin hf h t ht
  have key : ∀ i u, stepsTo wt i s = some u → (∃ d, stepsTo wt d u = some t) → stepsTo (upd wt t (-1)) i s = some u := by
    intro i
    induction i with
    | zero => intro u e _; exact e
    | succ i ih =>
      intro u e hd
      obtain ⟨d, hd⟩ := hd
      simp only [stepsTo] at e ⊢
      cases ha : stepsTo wt i s with
      | none => rw [ha] at e; cases e
      | some a =>
        rw [ha] at e
        have e : nxt wt a = some u := e
        have hda : stepsTo wt (1 + d) a = some t := by
          rw [steps_add]
          simp only [stepsTo, Option.bind_some, e]
          exact hd
        have hat : a ≠ t := by
          rintro rfl
          exact hr d (by rw [show d + 1 = 1 + d by omega]; exact hda)
        rw [ih a ha ⟨1 + d, hda⟩]
        show nxt (upd wt t (-1)) a = some u
        unfold nxt upd at *
        rw [if_neg hat]
        exact e
  have hj' := key j t hj ⟨0, rfl⟩
  have hup : ∀ (m a u : Nat), a < n → stepsTo (upd wt t (-1)) m a = some u → l' a ≤ l' u := by
    have hf' : Fine n (upd wt t (-1)) := fun i hi => by
      unfold upd
      have := hf i hi
      split <;> omega
    intro m
    induction m with
    | zero => intro a u _ e; cases e; exact Int.le_refl _
    | succ m ih =>
      intro a u ha e
      simp only [stepsTo] at e
      cases hk : stepsTo (upd wt t (-1)) m a with
      | none => rw [hk] at e; cases e
      | some b => rw [hk] at e; exact Int.le_trans (ih a b ha hk) (k.1.2 b u (steps_lt hf' ha hk) e)
  have := hup j s t hs hj'
  have h2 := k.1.1 s hs
  omega
/-! How far the numbers are from the greatest one. -/
def gap (n : Nat) (l : Nat → Int) : Nat := match n with
  | 0 => 0
  | n + 1 => gap n l + (31 - l n).toNat
theorem gap_same {l m : Nat → Int} : ∀ {n : Nat}, (∀ t, t < n → m t = l t) → gap n m = gap n l
  | 0, _ => rfl
  | n + 1, h => by rw [gap, gap, gap_same (fun t ht => h t (by omega)), h n (by omega)]
theorem gap_raise {l : Nat → Int} {w : Nat} {x : Int} (hx : l w < x) (h31 : x ≤ 31) : ∀ {n : Nat}, w < n → gap n (upd l w x) < gap n l
  | 0, h => absurd h (Nat.not_lt_zero _)
  | n + 1, h => by
    rw [gap, gap]
    by_cases e : w = n
    · subst e
      rw [gap_same (l := l) (fun t ht => by unfold upd; rw [if_neg (by omega)])]
      have : upd l w x w = x := by simp [upd]
      rw [this]
      omega
    · have h1 := gap_raise hx h31 (n := n) (by omega)
      have : upd l w x n = l n := by unfold upd; rw [if_neg (by omega)]
      rw [this]
      omega
theorem low_top {n : Nat} {own wt l : Nat → Int} (h : Low n own wt l) (ho : ∀ t, t < n → own t ≤ 31) (t : Nat) (ht : t < n) : l t ≤ 31 := h (fun _ => 31) ⟨ho, fun _ _ _ _ => Int.le_refl _⟩ t ht

/-! The program's way: each thread raises those for whom it waits, one behind the other. -/
def maxF (f g : Nat → Int) : Nat → Int := fun i => max (f i) (g i)
/-- Behind thread number t: what is out is low; threads below t have no less than their own, and raise nobody any more. -/
structure Upto (n : Nat) (own wt out : Nat → Int) (t : Nat) : Prop where
  low : Low n own wt (maxF out own)
  has : ∀ s, s < t → own s ≤ out s
  edge : ∀ s w, s < t → nxt wt s = some w → maxF out own s ≤ maxF out own w
/-- Within thread t's walk up, at thread a. -/
structure Climb (n : Nat) (own wt out : Nat → Int) (t a : Nat) : Prop where
  low : Low n own wt (maxF out own)
  has : ∀ s, s ≤ t → own s ≤ out s
  edge : ∀ s w, s ≤ t → s ≠ a → nxt wt s = some w → maxF out own s ≤ maxF out own w
  at_ : own a ≤ out a
  lt : a < n
theorem upto_zero {n : Nat} {own wt out : Nat → Int} (h : ∀ t, t < n → out t ≤ own t) : Upto n own wt out 0 :=
  ⟨low_same low_own (fun t ht => by have := h t ht; unfold maxF; omega), fun s hs => absurd hs (Nat.not_lt_zero _), fun s w hs => absurd hs (Nat.not_lt_zero _)⟩
theorem max_upd_self (out own : Nat → Int) (t : Nat) : maxF (upd out t (max (out t) (own t))) own = maxF out own := by
  funext i
  unfold maxF upd
  split
  · rename_i e; subst e; omega
  · rfl
theorem climb_start {n : Nat} {own wt out : Nat → Int} {t : Nat} (h : Upto n own wt out t) (ht : t < n) : Climb n own wt (upd out t (max (out t) (own t))) t t := by
  refine ⟨by rw [max_upd_self]; exact h.low, fun s hs => ?_, fun s w hs hne hw => by rw [max_upd_self]; exact h.edge s w (by omega) hw, ?_, ht⟩
  · unfold upd
    split
    · rename_i e; subst e; omega
    · exact h.has s (by omega)
  · simp only [upd, if_true]; omega
theorem climb_end {n : Nat} {own wt out : Nat → Int} {t a : Nat} (h : Climb n own wt out t a) (he : ∀ w, nxt wt a = some w → out a ≤ max (out w) (own w)) : Upto n own wt out (t + 1) := by
  refine ⟨h.low, fun s hs => h.has s (by omega), fun s w hs hw => ?_⟩
  by_cases e : s = a
  · subst e
    have := he w hw
    have := h.at_
    unfold maxF
    omega
  · exact h.edge s w (by omega) e hw
theorem max_upd {out own : Nat → Int} {w : Nat} {x : Int} (h : own w ≤ x) : maxF (upd out w x) own = upd (maxF out own) w x := by
  funext i
  unfold maxF upd
  split
  · rename_i e; subst e; omega
  · rfl
theorem climb_up {n : Nat} {own wt out : Nat → Int} {t a w : Nat} (hf : Fine n wt) (h : Climb n own wt out t a) (hw : nxt wt a = some w) (hlt : max (out w) (own w) < out a) :
    Climb n own wt (upd out w (out a)) t w ∧ maxF (upd out w (out a)) own = upd (maxF out own) w (out a) ∧ maxF out own a = out a := by
  have ha : maxF out own a = out a := by have := h.at_; unfold maxF; omega
  have hm : maxF (upd out w (out a)) own = upd (maxF out own) w (out a) := max_upd (by omega)
  refine ⟨⟨?_, fun s hs => ?_, fun s u hs hne hu => ?_, ?_, (nxt_lt hf h.lt hw).1⟩, hm, ha⟩
  · rw [hm, ← ha]; exact low_raise h.low h.lt hw
  · have := h.has s hs
    unfold upd
    split
    · rename_i e; subst e; omega
    · exact this
  · rw [hm]
    have h1 : upd (maxF out own) w (out a) s = maxF out own s := by unfold upd; rw [if_neg hne]
    rw [h1]
    by_cases e : s = a
    · subst e
      rw [hw] at hu
      cases hu
      simp only [upd, if_true]
      omega
    · have h2 := h.edge s u hs e hu
      unfold upd
      split
      · rename_i e2
        subst e2
        have : maxF out own u = max (out u) (own u) := rfl
        omega
      · exact h2
  · simp only [upd, if_true]; omega
theorem upto_end {n : Nat} {own wt out : Nat → Int} (hf : Fine n wt) (h : Upto n own wt out n) : Least n own wt out := by
  have e : ∀ t, t < n → out t = maxF out own t := fun t ht => by have := h.has t ht; unfold maxF; omega
  refine ⟨⟨h.has, fun t w ht hw => ?_⟩, low_same h.low e⟩
  have h1 := h.edge t w ht hw
  rw [← e t ht] at h1
  rw [← e w (nxt_lt hf ht hw).1] at h1
  exact h1

/-! The document's way: all raise, till nothing changes. -/
structure Pass (n : Nat) (own wt l : Nat → Int) : Prop where
  low : Low n own wt l
  has : ∀ s, s < n → own s ≤ l s
def Edges (wt l : Nat → Int) (t : Nat) : Prop := ∀ s w, s < t → nxt wt s = some w → l s ≤ l w
theorem pass_raise {n : Nat} {own wt l : Nat → Int} (h : Pass n own wt l) {t w : Nat} (ht : t < n) (hw : nxt wt t = some w) (hlt : l w < l t) : Pass n own wt (upd l w (l t)) :=
  ⟨low_raise h.low ht hw, fun s hs => by
    have := h.has s hs
    unfold upd
    split
    · rename_i e; subst e; omega
    · exact this⟩
theorem edges_zero (wt l : Nat → Int) : Edges wt l 0 := fun s w hs => absurd hs (Nat.not_lt_zero _)
theorem edges_next {wt l : Nat → Int} {t : Nat} (h : Edges wt l t) (he : ∀ w, nxt wt t = some w → l t ≤ l w) : Edges wt l (t + 1) := fun s w hs hw => by
  by_cases e : s = t
  · subst e; exact he w hw
  · exact h s w (by omega) hw
theorem pass_end {n : Nat} {own wt l : Nat → Int} (h : Pass n own wt l) (he : Edges wt l n) : Least n own wt l := ⟨⟨h.has, fun t w ht hw => he t w ht hw⟩, h.low⟩
end Go.Proofs.Ytkjcchepgpbiiaa
