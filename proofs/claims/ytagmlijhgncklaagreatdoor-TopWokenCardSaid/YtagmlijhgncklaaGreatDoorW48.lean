/-
  From what is read before the call to what a walk may use: arguments of flat types (numbers, bools, structs and arrays of them) and slices of such. No conditions.
-/
import Derived.Test.YtagmlijhgncklaaGreatDoorW08
import Derived.ProofKit
import Derived.OpenShut
import Derived.ShutString
import Derived.ChangeOld
import Derived.Deep.Slices
import Derived.Lib.SmallJoins
set_option linter.unusedVariables false
namespace Go.Proofs.YtagmlijhgncklaaGreatDoor
open Go.ChangeShapes Go.WideShapes Go.ChangeAt Go.RowKit

/-- A cell is of its kind, and fits it. -/
def Sc.fitsW : Sc → Value → Prop
  | .i k, v => ∃ n, v = .int k n ∧ (Lit.int k n).wf = true
  | .b, v => ∃ x, v = .bool x
def FitW : List Sc → List Value → Prop
  | [], [] => True
  | s :: ss, v :: vs => s.fitsW v ∧ FitW ss vs
  | _, _ => False
theorem FitW.len : ∀ {ss : List Sc} {as : List Value}, FitW ss as → as.length = ss.length
  | [], [], _ => rfl
  | _ :: _, _ :: _, h => by simp [FitW.len h.2]
  | [], _ :: _, h => h.elim
  | _ :: _, [], h => h.elim
theorem fitW_append : ∀ {s1 s2 : List Sc} {as : List Value}, FitW (s1 ++ s2) as ↔ (FitW s1 (as.take s1.length) ∧ FitW s2 (as.drop s1.length))
  | [], s2, as => by simp [FitW]
  | s :: s1, s2, [] => by simp [FitW]
  | s :: s1, s2, a :: as => by simp [FitW, fitW_append (s1 := s1) (s2 := s2) (as := as), and_assoc]

section
variable {H : Type} {enc : TypeId × Value → H} {P : Program} {w : World} {base : Nat} {spare : Nat → Bool} {held : Bool}
theorem fit_fields {fl : TypeId → Option (List Sc)} {cs : List Value}
    (ih : ∀ (t : TypeId) (s : List Sc) (off : Nat), fl t = some s → P.cellsOf t = s.length → (∃ i f x, DataW.trod enc P w base spare held i t ((cs.drop off).take (P.cellsOf t)) = some x ∧ f = off) → FitW s ((cs.drop off).take s.length)) :
    ∀ (fs : List Field) (acc s : List Sc), flatFields P fl acc fs = some s → (∀ f ∈ fs, ∃ i x, DataW.trod enc P w base spare held i f.type ((cs.drop f.offset).take (P.cellsOf f.type)) = some x) → FitW acc (cs.take acc.length) → FitW s (cs.take s.length)
  | [], acc, s, h, _, ha => by
    simp only [flatFields, Option.some.injEq] at h
    subst h
    exact ha
  | f :: fs, acc, s, h, hf, ha => by
    unfold flatFields at h
    split at h
    · cases h
    split at h
    case h_2 => cases h
    rename_i sf i hfl hi
    split at h
    case isFalse => cases h
    rename_i hoff
    obtain ⟨ho, hz⟩ := hoff
    have hc : P.cellsOf f.type = sf.length := by simp [Program.cellsOf, hi, hz]
    obtain ⟨j, x, hx⟩ := hf f (List.mem_cons_self ..)
    have h1 := ih f.type sf f.offset hfl hc ⟨j, _, x, hx, rfl⟩
    refine fit_fields ih fs (acc ++ sf) s h (fun g hg => hf g (List.mem_cons_of_mem _ hg)) ?_
    rw [List.length_append]
    refine fitW_append.2 ⟨?_, ?_⟩
    · rw [List.take_take, Nat.min_eq_left (by omega)]; exact ha
    · rw [List.drop_take, Nat.add_sub_cancel_left, ← ho]; exact h1

theorem fit_rows {s : List Sc} {cs : List Value} : ∀ (k j : Nat), cs.length = (j + k) * s.length → (∀ i, j ≤ i → i < j + k → FitW s ((cs.drop (i * s.length)).take s.length)) → FitW (List.replicate k s).flatten (cs.drop (j * s.length))
  | 0, j, hl, _ => by
    rw [List.drop_eq_nil_of_le (by rw [hl]; simp)]
    trivial
  | k + 1, j, hl, h => by
    rw [List.replicate_succ, List.flatten_cons]
    refine fitW_append.2 ⟨h j (Nat.le_refl _) (by omega), ?_⟩
    rw [List.drop_drop, show j * s.length + s.length = (j + 1) * s.length from (Nat.succ_mul _ _).symm]
    exact fit_rows k (j + 1) (by rw [hl]; congr 1; omega) (fun i h1 h2 => h i (by omega) (by omega))

/-- What reads as a datum of a flat type fits it. -/
theorem fit_of_trod : ∀ (d fuel : Nat) (t : TypeId) (s : List Sc) (cs : List Value) (x : DataW H × List MemPlace), flatAt P d t = some s → P.cellsOf t = s.length → DataW.trod enc P w base spare held fuel t cs = some x → FitW s cs
  | 0, _, _, _, _, _, h, _, _ => by cases h
  | d + 1, fuel, t, s, cs, x, h, hc, ht => by
    unfold flatAt at h
    cases hut : P.underlying t with
    | none => rw [hut] at h; cases h
    | some k =>
      rw [hut] at h
      cases k with
      | bool =>
        obtain rfl : [Sc.b] = s := by simpa using h
        obtain ⟨b, rfl, _⟩ := DataW.trod_bool hut ht
        exact ⟨⟨b, rfl⟩, trivial⟩
      | int k =>
        obtain rfl : [Sc.i k] = s := by simpa using h
        obtain ⟨n, rfl, _, hw⟩ := DataW.trod_int hut ht
        exact ⟨⟨n, rfl, hw⟩, trivial⟩
      | struct fs =>
        dsimp only at h
        split at h
        · cases h
        obtain ⟨xs, n, rfl, _, hlen, hxl, hf⟩ := DataW.trod_struct hut ht
        have hl : cs.length = s.length := hlen.trans hc
        have r := fit_fields (enc := enc) (P := P) (w := w) (base := base) (spare := spare) (held := held) (fl := flatAt P d) (cs := cs)
          (fun t' s' off hs' hc' ⟨i, _, y, hy, _⟩ => by rw [hc'] at hy; exact fit_of_trod d i t' s' _ y hs' hc' hy)
          fs.toList [] s h
          (fun f hfm => by
            obtain ⟨i, hi, he⟩ := List.getElem_of_mem hfm
            have hi' : i < fs.size := by simpa using hi
            have e := hf i f (by rw [Array.getElem?_eq_getElem hi']; simpa using he)
            exact ⟨n, _, e.trans (List.getElem?_eq_getElem (by omega))⟩)
          (by simp [FitW])
        rwa [List.take_of_length_le (by omega)] at r
      | array n e =>
        dsimp only at h
        split at h
        case h_2 => cases h
        rename_i s1 i1 hs1 hi1
        split at h
        case isFalse => cases h
        rename_i hz
        obtain rfl : (List.replicate n s1).flatten = s := by simpa using h
        obtain ⟨xs, m, rfl, _, hlen, hxl, hf⟩ := DataW.trod_array hut ht
        have hc1 : P.cellsOf e = s1.length := by simp [Program.cellsOf, hi1, hz]
        have hl : cs.length = n * s1.length := by rw [hlen, hc]; simp
        have r := fit_rows (s := s1) (cs := cs) n 0 (by simpa using hl) (fun i _ hi => by
          have e' := hf i (by omega)
          rw [hc1] at e'
          exact fit_of_trod d m e s1 _ _ hs1 hc1 (e'.trans (List.getElem?_eq_getElem (by omega))))
        simpa using r
      | _ => cases h

/-- A slice of flat elements that came in: it is empty, or it leads to rows of cells, each of which fits the element's type. -/
def IsRows (w : World) (s : List Sc) (a : Option Addr) (len : Nat) : Prop :=
  len = 0 ∨ ∃ b off, a = some ⟨b, off, none⟩ ∧ len ≤ maxLen ∧ (0 < len → b < w.heap.size) ∧ ∀ i, i < len → ∃ cs : List Value, FitW s cs ∧ ∀ j, j < s.length → w.cell? ⟨b, off + i * s.length + j, none⟩ = cs[j]?
theorem IsRows.max {w : World} {s : List Sc} {a : Option Addr} {len : Nat} (h : IsRows w s a len) : len ≤ maxLen := by
  rcases h with h | ⟨_, _, _, h, _⟩
  · omega
  · exact h
theorem IsRows.below {s : List Sc} {a : Option Addr} {len : Nat} {w w' : World} (h : IsRows w s a len) (hb : Below w.heap.size w w') : IsRows w' s a len := by
  rcases h with h | ⟨b, off, rfl, hm, hlt, h⟩
  · exact .inl h
  · refine .inr ⟨b, off, rfl, hm, fun hp => Nat.lt_of_lt_of_le (hlt hp) hb.size, fun i hi => ?_⟩
    obtain ⟨cs, hf, hc⟩ := h i hi
    exact ⟨cs, hf, fun j hj => (hb.cell (p := ⟨b, off + i * s.length + j, none⟩) (hlt (by omega))).trans (hc j hj)⟩

theorem open_rows {t e : TypeId} {d : Nat} {s : List Sc} {a : Option Addr} {len cap : Nat} {x : DataW H} {ps : List MemPlace} (ht : P.underlying t = some (.slice e)) (hs : flatAt P d e = some s) (hc : P.cellsOf e = s.length) (hpos : 0 < s.length)
    (h : DataW.Trod enc P w base spare held t (.slice a len cap) x ps) : IsRows w s a len := by
  obtain ⟨fuel, hf⟩ := h
  rcases Go.Deep.open_slice ht hf with ⟨hcs, _⟩ | ⟨a', len', cap', m, n, D, Pl, hcs, hb, hl, hm, hmm, hx, hi⟩
  · simp [Value.cells] at hcs
    exact .inl hcs.2.1
  · simp [Value.cells] at hcs
    obtain ⟨rfl, rfl, rfl⟩ := hcs
    have hlm : len ≤ m := by rw [hmm]; split <;> omega
    obtain ⟨b, off, spot⟩ := a'
    have hspot : spot = none ∨ len = 0 := by
      rcases Nat.eq_zero_or_pos len with h0 | h0
      · exact .inr h0
      · refine .inl ?_
        obtain ⟨cs', hc', ht'⟩ := hi 0 (by omega)
        obtain ⟨_, hcl, hat⟩ := World.cells?_some hc'
        have h1 := hat 0 (by omega)
        have hv : cs'[0]? = some (cs'[0]'(by omega)) := List.getElem?_eq_getElem (by omega)
        rw [hv] at h1
        simpa [Addr.add] using World.cell?_spot h1
    rcases hspot with rfl | rfl
    · refine .inr ⟨b, off, rfl, by omega, fun hp => ?_, fun i hil => ?_⟩
      · obtain ⟨cs', hc', ht'⟩ := hi 0 (by omega)
        obtain ⟨_, hcl, hat⟩ := World.cells?_some hc'
        have h1 := hat 0 (by omega)
        have hv : cs'[0]? = some (cs'[0]'(by omega)) := List.getElem?_eq_getElem (by omega)
        rw [hv] at h1
        have := World.block_lt_of_cell? w _ h1
        simpa [Addr.add] using this
      · obtain ⟨cs', hc', ht'⟩ := hi i (by omega)
        obtain ⟨_, hcl, hat⟩ := World.cells?_some hc'
        refine ⟨cs', fit_of_trod d _ e s cs' _ hs hc ht', fun j hj => ?_⟩
        have h1 := hat j (by omega)
        rw [← h1, hc]
        congr 1
        simp only [Addr.add]
        by_cases h0 : i * s.length = 0 <;> by_cases h2 : j = 0 <;> simp [h0, h2]
    · exact .inl rfl
end

end Go.Proofs.YtagmlijhgncklaaGreatDoor
