/- Rows of alike length, one behind the other, as lists of values. Conditions: as each theorem says; no program in sight. -/
import Derived.Test.YtcchebjeohdkfaaBase
namespace Go.Proofs.Ytcchebjeohdkfaa

def rowsF (f : Nat → List Value) (m : Nat) : List Value := match m with
  | 0 => []
  | m + 1 => rowsF f m ++ f m
theorem rowsF_length {f : Nat → List Value} {c : Nat} (h : ∀ i, (f i).length = c) : ∀ m, (rowsF f m).length = m * c
  | 0 => by simp [rowsF]
  | m + 1 => by rw [rowsF, List.length_append, rowsF_length h m, h, Nat.succ_mul]
theorem idx_lt {i j c m : Nat} (hi : i < m) (hj : j < c) : i * c + j < m * c := by
  have h1 : (i + 1) * c ≤ m * c := Nat.mul_le_mul_right _ hi
  rw [Nat.succ_mul] at h1
  omega
theorem rowsF_get {f : Nat → List Value} {c : Nat} (h : ∀ i, (f i).length = c) {i j : Nat} (hj : j < c) : ∀ {m : Nat}, i < m → (rowsF f m)[i * c + j]? = (f i)[j]?
  | 0, hi => absurd hi (Nat.not_lt_zero _)
  | m + 1, hi => by
    rw [rowsF, List.getElem?_append, rowsF_length h]
    by_cases e : i = m
    · subst e
      rw [if_neg (by omega)]
      congr 1
      omega
    · have := idx_lt (c := c) (j := j) (show i < m by omega) hj
      rw [if_pos this]
      exact rowsF_get h hj (by omega)
theorem rowsF_congr {f g : Nat → List Value} : ∀ {m : Nat}, (∀ i, i < m → f i = g i) → rowsF f m = rowsF g m
  | 0, _ => rfl
  | m + 1, h => by rw [rowsF, rowsF, rowsF_congr (fun i hi => h i (by omega)), h m (by omega)]
theorem rowsF_set {f g : Nat → List Value} {c : Nat} (h : ∀ i, (f i).length = c) {i j : Nat} {x : Value} (hj : j < c) (hg : g i = (f i).set j x) (hn : ∀ k, k ≠ i → g k = f k) : ∀ {m : Nat}, i < m → (rowsF f m).set (i * c + j) x = rowsF g m
  | 0, hi => absurd hi (Nat.not_lt_zero _)
  | m + 1, hi => by
    rw [rowsF, rowsF]
    by_cases e : i = m
    · subst e
      rw [List.set_append_right _ _ (by rw [rowsF_length h]; omega), rowsF_length h, hg]
      congr 1
      · exact rowsF_congr (fun k hk => (hn k (by omega)).symm)
      · congr 1
        omega
    · have := idx_lt (c := c) (j := j) (show i < m by omega) hj
      rw [List.set_append_left _ _ (by rw [rowsF_length h]; exact this), rowsF_set h hj hg hn (by omega), hn m (fun e' => e e'.symm)]
theorem rowsF_inj {f g : Nat → List Value} {c : Nat} (h : ∀ i, (f i).length = c) (h' : ∀ i, (g i).length = c) : ∀ {m : Nat}, rowsF f m = rowsF g m → ∀ i, i < m → f i = g i
  | 0, _, i, hi => absurd hi (Nat.not_lt_zero _)
  | m + 1, e, i, hi => by
    rw [rowsF, rowsF] at e
    obtain ⟨e1, e2⟩ := List.append_inj e (by rw [rowsF_length h, rowsF_length h'])
    by_cases k : i = m
    · subst k; exact e2
    · exact rowsF_inj h h' e1 i (by omega)
theorem rowsF_all {f : Nat → List Value} {p : Value → Prop} (h : ∀ i v, v ∈ f i → p v) : ∀ m v, v ∈ rowsF f m → p v
  | 0, v, hv => by cases hv
  | m + 1, v, hv => by
    rw [rowsF] at hv
    rcases List.mem_append.1 hv with hv | hv
    · exact rowsF_all h m v hv
    · exact h m v hv
/-- Rows of one number each. -/
def rowI (f : Nat → Int) (m : Nat) : List Value := rowsF (fun i => [.int .i64 (f i)]) m
theorem rowI_length (f : Nat → Int) (m : Nat) : (rowI f m).length = m := by rw [rowI, rowsF_length (c := 1) (fun _ => rfl), Nat.mul_one]
theorem rowI_get (f : Nat → Int) {i m : Nat} (hi : i < m) : (rowI f m)[i]? = some (.int .i64 (f i)) := by
  have := rowsF_get (f := fun i => [.int .i64 (f i)]) (c := 1) (fun _ => rfl) (j := 0) (by decide) hi
  rw [Nat.mul_one, Nat.add_zero] at this
  exact this
theorem rowI_set (f : Nat → Int) (x : Int) {i m : Nat} (hi : i < m) : (rowI f m).set i (.int .i64 x) = rowI (fun k => if k = i then x else f k) m := by
  have := rowsF_set (f := fun i => [.int .i64 (f i)]) (g := fun k => [.int .i64 (if k = i then x else f k)]) (c := 1) (fun _ => rfl) (j := 0) (x := .int .i64 x) (by decide) (by simp) (fun k hk => by simp [hk]) hi
  rw [Nat.mul_one, Nat.add_zero] at this
  exact this
theorem rowI_inj {f g : Nat → Int} {m : Nat} (h : rowI f m = rowI g m) (i : Nat) (hi : i < m) : f i = g i := by
  have := rowsF_inj (c := 1) (fun _ => rfl) (fun _ => rfl) h i hi
  injection this with this
  injection this
theorem rowI_congr {f g : Nat → Int} {m : Nat} (h : ∀ i, i < m → f i = g i) : rowI f m = rowI g m := rowsF_congr (fun i hi => by rw [h i hi])
theorem rowI_one (f : Nat → Int) (m : Nat) : ∀ v ∈ rowI f m, v.oneCell' = true := rowsF_all (fun i v hv => by rw [List.mem_singleton] at hv; subst hv; rfl) m
end Go.Proofs.Ytcchebjeohdkfaa
