/- The plain law of handles: none is given twice, one that was dropped is none ever after, those that are taken are apart. No program is in sight. -/
import Derived.Test.YtabbioclcjnjjaaC04Iter
namespace Go.Proofs.Ytabbioclcjnjjaa

theorem rows_set (L : List (Bool × Int)) (i : Nat) (p : Bool × Int) (hi : i < L.length) : ∀ k, (rowsTo (L.set i p) k).length + (if i < k ∧ tk L i = true then 1 else 0) = (rowsTo L k).length + (if i < k ∧ p.1 = true then 1 else 0)
  | 0 => by simp [rowsTo]
  | k + 1 => by
    have ih := rows_set L i p hi k
    have step : ∀ M : List (Bool × Int), (rowsTo M (k + 1)).length = (rowsTo M k).length + (if tk M k = true then 1 else 0) := by
      intro M
      cases h : tk M k
      · rw [rowsTo_no h]; simp
      · rw [rowsTo_yes h]; simp
    rw [step, step, tk_set L i p k hi]
    by_cases e : k = i
    · subst e
      simp only [Nat.lt_irrefl, false_and, if_false, Nat.add_zero] at ih
      simp only [Nat.lt_succ_self, true_and, if_true]
      rw [ih]
      cases tk L k <;> cases p.1 <;> simp
    · have h1 : (i < k + 1) = (i < k) := by rw [eq_iff_iff]; omega
      simp only [h1, if_neg e]
      omega

structure NInv (L : List (Bool × Int)) (given : List Int) (gone : List Bool) : Prop where
  n16 : L.length ≤ 16
  pos : ∀ i, 0 ≤ gn L i
  len : given.length = gone.length
  hd : ∀ k, k < given.length → ∃ (p : Nat) (g : Int), p < L.length ∧ 1 ≤ g ∧ g ≤ gn L p ∧ given.getD k 0 = (p : Int) + 16 * g ∧ gone.getD k false = !(tk L p && (gn L p == g))
  inj : ∀ k k', k < k' → k' < given.length → given.getD k 0 ≠ given.getD k' 0
  cnt : (rowsTo L L.length).length = gone.count false

theorem NInv.start {n : Nat} (h : n ≤ 16) : NInv (List.replicate n (false, 0)) [] [] := by
  have hg : ∀ i, gn (List.replicate n (false, 0)) i = 0 := fun i => by
    unfold gn
    simp only [List.getD_eq_getElem?_getD, List.getElem?_replicate]
    split <;> rfl
  have ht : ∀ i, tk (List.replicate n (false, 0)) i = false := fun i => by
    unfold tk
    simp only [List.getD_eq_getElem?_getD, List.getElem?_replicate]
    split <;> rfl
  refine ⟨by simpa using h, fun i => by rw [hg]; omega, rfl, fun k hk => by simp at hk, fun k k' _ hk => by simp at hk, ?_⟩
  have : ∀ k, rowsTo (List.replicate n (false, 0)) k = [] := by
    intro k
    induction k with
    | zero => rfl
    | succ k ih => rw [rowsTo_no (ht k), ih]
  rw [this]; rfl

/-- A handle that is given anew was never given. -/
theorem NInv.fresh {L : List (Bool × Int)} {given : List Int} {gone : List Bool} {i : Nat} (h : NInv L given gone) (hi : i < L.length) {k : Nat} (hk : k < given.length) : given.getD k 0 ≠ (i : Int) + 16 * (gn L i + 1) := by
  obtain ⟨p, g, p1, g1, g2, e, _⟩ := h.hd k hk
  rw [e]
  intro hh
  have h16 := h.n16
  have hp : p = i := by omega
  subst hp
  omega

theorem getD_append_one {α : Type} (l : List α) (x d : α) (k : Nat) : (l ++ [x]).getD k d = if k < l.length then l.getD k d else if k = l.length then x else d := by
  simp only [List.getD_eq_getElem?_getD, List.getElem?_append]
  by_cases h : k < l.length
  · simp [h]
  · by_cases h2 : k = l.length
    · subst h2; simp
    · simp only [h, if_false, h2]
      rw [List.getElem?_eq_none (by simp; omega)]
      rfl

theorem NInv.add {L : List (Bool × Int)} {given : List Int} {gone : List Bool} {i : Nat} (h : NInv L given gone) (hi : i < L.length) (ht : tk L i = false) :
    NInv (L.set i (true, gn L i + 1)) (given ++ [(i : Int) + 16 * (gn L i + 1)]) (gone ++ [false]) := by
  have hl := h.len
  refine ⟨by simpa using h.n16, fun j => by rw [gn_set _ _ _ _ hi]; have := h.pos j; have := h.pos i; split <;> simp <;> omega, by simp [hl], fun k hk => ?_, fun k k' hkk hk' => ?_, ?_⟩
  · simp only [List.length_append, List.length_singleton] at hk
    rw [getD_append_one, getD_append_one]
    by_cases hk1 : k < given.length
    · obtain ⟨p, g, p1, g1, g2, e1, e2⟩ := h.hd k hk1
      rw [if_pos hk1, if_pos (by omega)]
      refine ⟨p, g, by simpa using p1, g1, ?_, e1, ?_⟩
      · rw [gn_set _ _ _ _ hi]; split
        · rename_i e; subst e; simp; omega
        · exact g2
      · rw [e2, gn_set _ _ _ _ hi, tk_set _ _ _ _ hi]
        by_cases e : p = i
        · subst e
          have hne : (gn L p + 1 == g) = false := by rw [beq_eq_false_iff_ne]; omega
          simp [ht, hne]
        · simp [e]
    · have hk2 : k = given.length := by omega
      rw [if_neg hk1, if_pos hk2, if_neg (by omega), if_pos (by omega)]
      have := h.pos i
      exact ⟨i, gn L i + 1, by simpa using hi, by omega, by rw [gn_set _ _ _ _ hi]; simp, rfl, by rw [gn_set _ _ _ _ hi, tk_set _ _ _ _ hi]; simp⟩
  · simp only [List.length_append, List.length_singleton] at hk'
    rw [getD_append_one, getD_append_one, if_pos (by omega)]
    by_cases hk1 : k' < given.length
    · rw [if_pos hk1]; exact h.inj k k' hkk hk1
    · rw [if_neg hk1, if_pos (by omega)]
      exact h.fresh hi (by omega)
  · have := rows_set L i (true, gn L i + 1) hi L.length
    simp [hi, ht] at this
    simp [this, h.cnt]

theorem at_of {L : List (Bool × Int)} {p : Nat} (h16 : L.length ≤ 16) (hp : p < L.length) (ht : tk L p = true) : atF L ((p : Int) + 16 * gn L p) = some p := by
  cases hf : atF L ((p : Int) + 16 * gn L p) with
  | none => exact absurd ⟨ht, rfl⟩ (at_none hf p hp)
  | some i =>
    obtain ⟨i1, i2, i3, _⟩ := at_some hf
    congr 1
    omega

/-- What At tells of a handle that was given. -/
theorem NInv.at {L : List (Bool × Int)} {given : List Int} {gone : List Bool} (h : NInv L given gone) {k : Nat} (hk : k < given.length) :
    (gone.getD k false = true ∧ atF L (given.getD k 0) = none) ∨ (gone.getD k false = false ∧ ∃ p : Nat, p < L.length ∧ atF L (given.getD k 0) = some p ∧ tk L p = true ∧ (given.getD k 0) % 16 = (p : Int) ∧ 0 ≤ given.getD k 0 ∧ given.getD k 0 = (p : Int) + 16 * gn L p) := by
  obtain ⟨p, g, p1, g1, g2, e1, e2⟩ := h.hd k hk
  have h16 := h.n16
  by_cases hh : tk L p = true ∧ gn L p = g
  · obtain ⟨ht, rfl⟩ := hh
    refine .inr ⟨by rw [e2]; simp [ht], p, p1, by rw [e1]; exact at_of h16 p1 ht, ht, by omega, by omega, e1⟩
  · refine .inl ⟨by rw [e2]; cases ht : tk L p <;> simp [ht] at hh ⊢; exact hh, ?_⟩
    cases hf : atF L (given.getD k 0) with
    | none => rfl
    | some i =>
      obtain ⟨i1, i2, i3, _⟩ := at_some hf
      have : i = p := by omega
      subst this
      exact absurd ⟨i2, by omega⟩ hh

theorem count_set {l : List Bool} {k : Nat} (hk : k < l.length) (h : l.getD k false = false) : (l.set k true).count false + 1 = l.count false := by
  induction l generalizing k with
  | nil => simp at hk
  | cons x l ih =>
    cases k with
    | zero => simp at h; subst h; simp
    | succ k =>
      have := ih (k := k) (by simpa using hk) (by simpa using h)
      simp only [List.set_cons_succ, List.count_cons]
      omega

theorem getD_set {α : Type} (l : List α) (k j : Nat) (x d : α) (hk : k < l.length) : (l.set k x).getD j d = if j = k then x else l.getD j d := by
  simp only [List.getD_eq_getElem?_getD, List.getElem?_set]
  by_cases e : k = j
  · subst e; simp [hk]
  · simp [e, Ne.symm e]

theorem NInv.drop {L : List (Bool × Int)} {given : List Int} {gone : List Bool} (h : NInv L given gone) {k p : Nat} (hk : k < given.length) (hg : gone.getD k false = false) (hp : p < L.length) (ht : tk L p = true) (e : given.getD k 0 = (p : Int) + 16 * gn L p) :
    NInv (L.set p (false, gn L p)) given (gone.set k true) := by
  have hl := h.len
  have h16 := h.n16
  refine ⟨by simpa using h.n16, fun j => by rw [gn_set _ _ _ _ hp]; have := h.pos j; have := h.pos p; split <;> simp <;> omega, by simp [hl], fun j hj => ?_, h.inj, ?_⟩
  · obtain ⟨q, g, q1, g1, g2, e1, e2⟩ := h.hd j hj
    refine ⟨q, g, by simpa using q1, g1, by rw [gn_set _ _ _ _ hp]; split <;> rename_i hh <;> first | (subst hh; exact g2) | exact g2, e1, ?_⟩
    rw [getD_set _ _ _ _ _ (by omega), gn_set _ _ _ _ hp, tk_set _ _ _ _ hp]
    by_cases ej : j = k
    · subst ej
      have hq : q = p := by omega
      simp [hq]
    · rw [if_neg ej, e2]
      by_cases hq : q = p
      · subst hq
        simp only [if_true, Bool.false_and, Bool.not_false]
        by_cases hgq : gn L q = g
        · exfalso
          subst hgq
          rcases Nat.lt_or_gt_of_ne ej with hlt | hlt
          · exact h.inj j k hlt hk (by rw [e1, e])
          · exact h.inj k j hlt hj (by rw [e1, e])
        · have : (gn L q == g) = false := by simpa using hgq
          simp [this]
      · simp [hq]
  · have := rows_set L p (false, gn L p) hp L.length
    simp [hp, ht] at this
    have c := count_set (l := gone) (k := k) (by omega) hg
    have := h.cnt
    simp only [List.length_set]
    omega
theorem set_same {l : List Bool} {k : Nat} (hk : k < l.length) (h : l.getD k false = true) : l.set k true = l := by
  apply List.ext_getElem?
  intro j
  rw [List.getElem?_set]
  split
  · rename_i e; subst e
    rw [List.getD_eq_getElem?_getD, List.getElem?_eq_getElem hk] at h
    first | (rw [List.getElem?_eq_getElem hk]; simpa using h.symm) | (rw [if_pos hk, List.getElem?_eq_getElem hk]; simpa using h.symm)
  · rfl
end Go.Proofs.Ytabbioclcjnjjaa
