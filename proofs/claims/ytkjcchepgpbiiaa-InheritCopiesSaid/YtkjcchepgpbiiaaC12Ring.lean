/- The plain law of rings: going along who waits for whom, till one is back. Conditions: as each theorem says; no program in sight. -/
import Derived.Test.YtkjcchepgpbiiaaC12Law
namespace Go.Proofs.Ytkjcchepgpbiiaa

/-- Going on from a, with what was met, for at most so many threads. -/
def ringGo (wt : Nat → Int) (t : Nat) : Nat → Nat → List Nat → Option (List Nat)
  | 0, _, _ => none
  | f + 1, a, acc => match nxt wt a with
    | none => none
    | some w => if w = t then some (acc ++ [a]) else ringGo wt t f w (acc ++ [a])
theorem steps_first (wt : Nat → Int) (a j : Nat) : stepsTo wt (j + 1) a = (nxt wt a).bind (stepsTo wt j) := by
  rw [show j + 1 = 1 + j by omega, steps_add]
  rfl
theorem ring_found {wt : Nat → Int} {t : Nat} : ∀ (f a : Nat) (acc : List Nat) (j : Nat), j < f → stepsTo wt (j + 1) a = some t → ringGo wt t f a acc ≠ none
  | 0, _, _, _, h, _ => absurd h (Nat.not_lt_zero _)
  | f + 1, a, acc, j, h, e => by
    rw [steps_first] at e
    unfold ringGo
    cases hw : nxt wt a with
    | none => rw [hw] at e; cases e
    | some w =>
      rw [hw] at e
      simp only
      by_cases hwt : w = t
      · rw [if_pos hwt]; simp
      · rw [if_neg hwt]
        cases j with
        | zero => simp only [stepsTo, Option.bind_some] at e; cases e; exact absurd rfl hwt
        | succ j => exact ring_found f w _ j (by omega) e
theorem ring_more {wt : Nat → Int} {t : Nat} : ∀ (f a : Nat) (acc l : List Nat), ringGo wt t f a acc = some l → ringGo wt t (f + 1) a acc = some l
  | 0, _, _, _, h => by cases h
  | f + 1, a, acc, l, h => by
    unfold ringGo at h ⊢
    cases hw : nxt wt a with
    | none => rw [hw] at h; cases h
    | some w =>
      rw [hw] at h
      simp only at h ⊢
      by_cases hwt : w = t
      · rw [if_pos hwt] at h ⊢; exact h
      · rw [if_neg hwt] at h ⊢; exact ring_more f w _ l h
theorem ring_way {wt : Nat → Int} {t : Nat} : ∀ (f a : Nat) (acc l : List Nat), ringGo wt t f a acc = some l → ∃ j, j < f ∧ stepsTo wt (j + 1) a = some t
  | 0, _, _, _, h => by cases h
  | f + 1, a, acc, l, h => by
    unfold ringGo at h
    cases hw : nxt wt a with
    | none => rw [hw] at h; cases h
    | some w =>
      rw [hw] at h
      simp only at h
      by_cases hwt : w = t
      · exact ⟨0, by omega, by rw [steps_first, hw]; simp [stepsTo, hwt]⟩
      · rw [if_neg hwt] at h
        obtain ⟨j, hj, e⟩ := ring_way f w _ l h
        exact ⟨j + 1, by omega, by rw [steps_first, hw]; exact e⟩
theorem ring_mem {wt : Nat → Int} {t : Nat} : ∀ (f a : Nat) (acc l : List Nat), ringGo wt t f a acc = some l → ∀ x, x ∈ l → x ∈ acc ∨ (∃ j, stepsTo wt j a = some x) ∧ ∃ m, stepsTo wt m x = some t
  | 0, _, _, _, h => by cases h
  | f + 1, a, acc, l, h => by
    intro x hx
    have hway := ring_way _ _ _ _ h
    unfold ringGo at h
    cases hw : nxt wt a with
    | none => rw [hw] at h; cases h
    | some w =>
      rw [hw] at h
      simp only at h
      by_cases hwt : w = t
      · rw [if_pos hwt] at h
        cases h
        rcases List.mem_append.1 hx with hx | hx
        · exact .inl hx
        · rw [List.mem_singleton] at hx
          subst hx
          obtain ⟨j, _, e⟩ := hway
          exact .inr ⟨⟨0, rfl⟩, j + 1, e⟩
      · rw [if_neg hwt] at h
        rcases ring_mem f w _ l h x hx with hx | ⟨⟨j, hj⟩, hm⟩
        · rcases List.mem_append.1 hx with hx | hx
          · exact .inl hx
          · rw [List.mem_singleton] at hx
            subst hx
            obtain ⟨j, _, e⟩ := hway
            exact .inr ⟨⟨0, rfl⟩, j + 1, e⟩
        · exact .inr ⟨⟨j + 1, by rw [steps_first, hw]; exact hj⟩, hm⟩
def ringF (n : Nat) (wt : Nat → Int) (t : Nat) : Option (List Nat) := ringGo wt t n t []
/-- Who leads back to itself does so within n threads. -/
theorem ring_none {n : Nat} {wt : Nat → Int} {t : Nat} (hf : Fine n wt) (ht : t < n) (h : ringF n wt t = none) (j : Nat) : stepsTo wt (j + 1) t ≠ some t := by
  intro e
  rw [steps_first] at e
  cases hw : nxt wt t with
  | none => rw [hw] at e; cases e
  | some w =>
    rw [hw] at e
    obtain ⟨i, hi, _, e'⟩ := short_way hf (nxt_lt hf ht hw).1 j e
    exact ring_found n t [] i hi (by rw [steps_first, hw]; exact e') h
theorem ring_one_more {n : Nat} {wt : Nat → Int} {t : Nat} (hf : Fine n wt) (ht : t < n) : ringGo wt t (n + 1) t [] = ringF n wt t := by
  cases h : ringF n wt t with
  | some l => exact ring_more _ _ _ _ h
  | none =>
    cases h2 : ringGo wt t (n + 1) t [] with
    | none => rfl
    | some l =>
      obtain ⟨j, _, e⟩ := ring_way _ _ _ _ h2
      exact absurd e (ring_none hf ht h j)
theorem least_up {n : Nat} {own wt l : Nat → Int} (hf : Fine n wt) (h : Least n own wt l) : ∀ (k s u : Nat), s < n → stepsTo wt k s = some u → l s ≤ l u
  | 0, s, u, _, e => by cases e; exact Int.le_refl _
  | k + 1, s, u, hs, e => by
    simp only [stepsTo] at e
    cases hk : stepsTo wt k s with
    | none => rw [hk] at e; cases e
    | some a => rw [hk] at e; exact Int.le_trans (least_up hf h k s a hs hk) (h.1.2 a u (steps_lt hf hs hk) e)
/-- All of a ring have one number. -/
theorem ring_equal {n : Nat} {own wt l : Nat → Int} {t : Nat} {r : List Nat} (hf : Fine n wt) (h : Least n own wt l) (ht : t < n) (hr : ringF n wt t = some r) (x : Nat) (hx : x ∈ r) : x < n ∧ l x = l t := by
  rcases ring_mem _ _ _ _ hr x hx with hx | ⟨⟨j, hj⟩, m, hm⟩
  · cases hx
  · have hxn := steps_lt hf ht hj
    exact ⟨hxn, Int.le_antisymm (least_up hf h m x t hxn hm) (least_up hf h j t x ht hj)⟩
theorem ring_len {wt : Nat → Int} {t : Nat} : ∀ (f a : Nat) (acc l : List Nat), ringGo wt t f a acc = some l → acc.length < l.length ∧ l.length ≤ acc.length + f
  | 0, _, _, _, h => by cases h
  | f + 1, a, acc, l, h => by
    unfold ringGo at h
    cases hw : nxt wt a with
    | none => rw [hw] at h; cases h
    | some w =>
      rw [hw] at h
      simp only at h
      by_cases hwt : w = t
      · rw [if_pos hwt] at h
        cases h
        simp
      · rw [if_neg hwt] at h
        have := ring_len f w _ l h
        simp at this
        omega
end Go.Proofs.Ytkjcchepgpbiiaa
