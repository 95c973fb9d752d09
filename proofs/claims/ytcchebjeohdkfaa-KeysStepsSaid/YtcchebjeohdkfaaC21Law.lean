/- The plain law of a thread's ending: which destructor is told next, and how the goings through follow each other. Conditions: as each theorem says; no program in sight. -/
import Derived.Test.YtcchebjeohdkfaaBase
namespace Go.Proofs.Ytcchebjeohdkfaa

/-- Where a thread that ends stands: which going through, the key that is met next, whether something was handed in it, whether it is over. -/
structure En where
  round : Nat
  at_ : Nat
  some_ : Bool
  over : Bool
def firstFrom (live : Nat → Bool) (a n : Nat) : Option Nat := (List.range n).find? fun i => decide (a ≤ i) && live i
theorem first_some {live : Nat → Bool} {a n i : Nat} (h : firstFrom live a n = some i) : a ≤ i ∧ i < n ∧ live i = true ∧ ∀ j, a ≤ j → j < i → live j = false := by
  unfold firstFrom at h
  rw [List.find?_eq_some_iff_getElem] at h
  obtain ⟨hp, j, hj, he, hb⟩ := h
  simp at hj he hp
  subst he
  refine ⟨hp.1, hj, hp.2, fun k hk1 hk2 => ?_⟩
  have := hb k hk2
  simp [hk1] at this
  exact this
theorem first_none {live : Nat → Bool} {a n : Nat} (h : firstFrom live a n = none) (j : Nat) (h1 : a ≤ j) (h2 : j < n) : live j = false := by
  unfold firstFrom at h
  rw [List.find?_eq_none] at h
  have := h j (by simpa using h2)
  simp [h1] at this
  exact this
theorem first_of {live : Nat → Bool} {a n i : Nat} (h1 : a ≤ i) (h2 : i < n) (h3 : live i = true) (h4 : ∀ j, a ≤ j → j < i → live j = false) : firstFrom live a n = some i := by
  cases h : firstFrom live a n with
  | none => have := first_none h i h1 h2; rw [h3] at this; cases this
  | some k =>
    obtain ⟨k1, k2, k3, k4⟩ := first_some h
    rcases Nat.lt_trichotomy k i with e | e | e
    · have := h4 k k1 e; rw [k3] at this; cases this
    · rw [e]
    · have := k4 i h1 e; rw [h3] at this; cases this
theorem first_not {live : Nat → Bool} {a n : Nat} (h : ∀ j, a ≤ j → j < n → live j = false) : firstFrom live a n = none := by
  cases hf : firstFrom live a n with
  | none => rfl
  | some k =>
    obtain ⟨k1, k2, k3, _⟩ := first_some hf
    have := h k k1 k2; rw [k3] at this; cases this
theorem first_skip {live : Nat → Bool} {a n : Nat} (h : live a = false) : firstFrom live a n = firstFrom live (a + 1) n := by
  cases hf : firstFrom live (a + 1) n with
  | none => exact first_not (fun j h1 h2 => by
      by_cases e : j = a
      · subst e; exact h
      · exact first_none hf j (by omega) h2)
  | some k =>
    obtain ⟨k1, k2, k3, k4⟩ := first_some hf
    exact first_of (by omega) k2 k3 (fun j h1 h2 => by
      by_cases e : j = a
      · subst e; exact h
      · exact k4 j (by omega) h2)
/-- What Next leaves, and which key's destructor it tells. -/
def nextF (n : Nat) (live : Nat → Bool) (e : En) : En × Option Nat :=
  if e.over = true then (e, none) else
  match firstFrom live e.at_ n with
  | some i => (⟨e.round, i + 1, true, false⟩, some i)
  | none =>
    if e.some_ = false ∨ e.round = 4 then (⟨e.round, max e.at_ n, e.some_, true⟩, none) else
    match firstFrom live 0 n with
    | some i => (⟨e.round + 1, i + 1, true, false⟩, some i)
    | none => (⟨e.round + 1, n, false, true⟩, none)
section
variable {n : Nat} {live : Nat → Bool} {r a : Nat} {s : Bool}
theorem next_over : nextF n live ⟨r, a, s, true⟩ = (⟨r, a, s, true⟩, none) := by simp [nextF]
theorem next_here (h1 : a < n) (h2 : live a = true) : nextF n live ⟨r, a, s, false⟩ = (⟨r, a + 1, true, false⟩, some a) := by
  simp [nextF, first_of (Nat.le_refl a) h1 h2 (fun j h3 h4 => by omega)]
theorem next_skip (h1 : a < n) (h2 : live a = false) : nextF n live ⟨r, a, s, false⟩ = nextF n live ⟨r, a + 1, s, false⟩ := by
  have e : max a n = max (a + 1) n := by omega
  simp only [nextF, first_skip h2, e, Bool.false_eq_true, if_false]
theorem next_end (h1 : n ≤ a) (h2 : s = false ∨ r = 4) : nextF n live ⟨r, a, s, false⟩ = (⟨r, a, s, true⟩, none) := by
  simp [nextF, first_not (live := live) (a := a) (n := n) (fun j h3 h4 => by omega), h2, show max a n = a by omega]
theorem next_round (h1 : n ≤ a) (h2 : s = true) (h3 : r ≠ 4) : nextF n live ⟨r, a, s, false⟩ = nextF n live ⟨r + 1, 0, false, false⟩ := by
  subst h2
  simp only [nextF, first_not (live := live) (a := a) (n := n) (fun j h4 h5 => by omega), Bool.false_eq_true, if_false, Bool.true_eq_false, h3, or_self, true_or, if_true]
  cases firstFrom live 0 n with
  | none => simp
  | some i => rfl
end
/-- How an ending stands behind so many calls: the going through, the key that was met last. -/
structure Ends (n : Nat) (e : En) (calls round last : Nat) : Prop where
  h : (calls = 0 ∧ round = 0 ∧ last = 8 ∧ e = ⟨0, 0, false, false⟩) ∨
    (1 ≤ calls ∧ 1 ≤ round ∧ round ≤ 4 ∧ e = ⟨round, last + 1, true, false⟩ ∧ last < n ∧ calls ≤ (round - 1) * n + last + 1)
theorem ends_bound {n : Nat} {e : En} {calls round last : Nat} (h : Ends n e calls round last) : calls ≤ 4 * n := by
  rcases h.h with ⟨rfl, _⟩ | ⟨_, h1, h2, _, h3, h4⟩
  · omega
  · have : (round - 1) * n ≤ 3 * n := Nat.mul_le_mul_right _ (by omega)
    omega
theorem ends_step {n : Nat} {live : Nat → Bool} {e e' : En} {calls round last i : Nat} (hn : n ≤ 8) (h : Ends n e calls round last) (hN : nextF n live ⟨max e.round 1, e.at_, e.some_, e.over⟩ = (e', some i)) :
    i < n ∧ live i = true ∧ Ends n e' (calls + 1) (if i ≤ last then round + 1 else round) i ∧ e'.round = (if i ≤ last then round + 1 else round) ∧ (if i ≤ last then round + 1 else round) ≤ 4 := by
  rcases h.h with ⟨rfl, rfl, rfl, rfl⟩ | ⟨h1, h2, h3, rfl, h4, h5⟩
  · simp only [nextF, Bool.false_eq_true, if_false] at hN
    cases hf : firstFrom live 0 n with
    | none => rw [hf] at hN; simp at hN
    | some k =>
      rw [hf] at hN
      simp only [Prod.mk.injEq, Option.some.injEq] at hN
      obtain ⟨rfl, rfl⟩ := hN
      obtain ⟨k1, k2, k3, _⟩ := first_some hf
      rw [if_pos (by omega)]
      exact ⟨k2, k3, ⟨.inr ⟨by omega, by omega, by omega, rfl, k2, by omega⟩⟩, rfl, by omega⟩
  · rw [show max round 1 = round by omega] at hN
    simp only [nextF, Bool.false_eq_true, if_false] at hN
    cases hf : firstFrom live (last + 1) n with
    | some k =>
      rw [hf] at hN
      simp only [Prod.mk.injEq, Option.some.injEq] at hN
      obtain ⟨rfl, rfl⟩ := hN
      obtain ⟨k1, k2, k3, _⟩ := first_some hf
      rw [if_neg (by omega)]
      exact ⟨k2, k3, ⟨.inr ⟨by omega, h2, h3, rfl, k2, by omega⟩⟩, rfl, h3⟩
    | none =>
      rw [hf] at hN
      simp only [Bool.true_eq_false, false_or] at hN
      by_cases h6 : round = 4
      · rw [if_pos h6] at hN; simp at hN
      · rw [if_neg h6] at hN
        cases hg : firstFrom live 0 n with
        | none => rw [hg] at hN; simp at hN
        | some k =>
          rw [hg] at hN
          simp only [Prod.mk.injEq, Option.some.injEq] at hN
          obtain ⟨rfl, rfl⟩ := hN
          obtain ⟨k1, k2, k3, _⟩ := first_some hg
          have hk : k ≤ last := by
            by_cases hk : k ≤ last
            · exact hk
            · have := first_none hf k (by omega) k2
              rw [k3] at this
              cases this
          rw [if_pos hk]
          refine ⟨k2, k3, ⟨.inr ⟨by omega, by omega, by omega, rfl, k2, ?_⟩⟩, rfl, by omega⟩
          have e : (round + 1 - 1) * n = (round - 1) * n + n := by
            rw [show round + 1 - 1 = (round - 1) + 1 by omega, Nat.succ_mul]
          omega
end Go.Proofs.Ytcchebjeohdkfaa
