/-
  A kernel with one mutex: where it lies, how it is made, found, turned, over the translation of this seat. Conditions: those said.
-/
import Derived.Test.YtagmlijhgncklaaGreatDoorW34
import Derived.Test.YtagmlijhgncklaaGreatDoorW31
set_option linter.unusedVariables false
namespace Go.Proofs.YtagmlijhgncklaaGreatDoor.Ker
open Go.RowKit Go.Proofs.YtagmlijhgncklaaGreatDoor

theorem obj_ext2 {S : KS} (k : Nat) : S.obj (k + 45) = S.ext k := by
  show (if k + 32 < 32 then S.thObj (k + 32) else S.ext (k + 32 - 32)) = _
  rw [if_neg (by omega), show k + 32 - 32 = k by omega]
/-- A new block becomes a part of the kernel. -/
def KS.mark (S : KS) (k b : Nat) (o : Obj) : KS := { S with ext := put S.ext k (some (b, o)), lo := { S.lo with lab := put S.lo.lab b (k + 50) } }
theorem KW.mark {w0 w : World} {S0 S : KS} (h : KW w S) (f : Fr S0 S w0 w) {b : Nat} {o : Obj} (k : Nat) (hb : w.heap[b]? = some o) (hl : S.lo.lab b = 0) (hn : w0.heap.size ≤ b) : KW w (S.mark k b o) ∧ Fr S0 (S.mark k b o) w0 w := by
  have lt : ∀ {x : Nat} {o : Obj}, w.heap[x]? = some o → x < w.heap.size := fun h => has_lt h
  have lab : ∀ x, x ≠ b → (S.mark k b o).lo.lab x = S.lo.lab x := fun x hx => put_ne _ _ hx
  have ne : ∀ x, S.lo.lab x ≠ 0 → x ≠ b := fun x hx e => by rw [e] at hx; exact hx hl
  refine ⟨⟨?_, ?_, h.l, ?_, h.nt, ?_, h.a, ?_, ?_⟩, ⟨f.os, f.tape, f.output, f.size, f.block, fun x hx => (lab x (by omega)).trans (f.lab x hx)⟩⟩
  · intro i c x hi
    by_cases e : i = k + 45
    · subst e
      rw [obj_ext2, show (S.mark k b o).ext k = some (b, o) from put_self _ _ _] at hi
      cases hi
      exact ⟨hb, put_self _ _ _⟩
    · have same : (S.mark k b o).obj i = S.obj i := by
        match i with
        | 0 => rfl
        | 1 => rfl | 2 => rfl | 3 => rfl | 4 => rfl | 5 => rfl | 6 => rfl | 7 => rfl | 8 => rfl | 9 => rfl | 10 => rfl | 11 => rfl | 12 => rfl
        | n + 13 =>
          show (if n < 32 then S.thObj n else (S.mark k b o).ext (n - 32)) = (if n < 32 then S.thObj n else S.ext (n - 32))
          by_cases hn : n < 32
          · rw [if_pos hn, if_pos hn]
          · rw [if_neg hn, if_neg hn]
            exact put_ne _ _ (by omega)
      rw [same] at hi
      have q := h.ob i c x hi
      exact ⟨q.1, (lab c (ne c (by rw [q.2]; omega))).trans q.2⟩
  · intro c x hx
    have q := h.cs c x hx
    exact ⟨q.1, (lab c (ne c (by rw [q.2]; omega))).trans q.2⟩
  · intro c hc
    have q := h.ll c hc
    exact (lab c (ne c (by rw [q]; omega))).trans q
  · intro c hc
    have q := h.nl c hc
    exact (lab c (ne c (by rw [q]; omega))).trans q
  · intro c hc
    have q := h.al c hc
    exact (lab c (ne c (by rw [q]; omega))).trans q
  · intro c hc
    exact (lab c (by have := lt hb; omega)).trans (h.fresh c hc)
/-- The table of mutexes: one is there. -/
def muT4 : List (Bool × Int) := [(true, 1), (false, 0), (false, 0), (false, 0)]
def muT0 : List (Bool × Int) := [(false, 0), (false, 0), (false, 0), (false, 0)]
structure HasMu (S : KS) (b q g : Nat) (m : Mx.Mu) : Prop where
  e2 : S.ext 2 = some (b, Mx.muO m q)
  e3 : ∃ last : Int, S.ext 3 = some (q, .cells #[.map (some g), .int .i64 last] 436 (0, 0))
  e4 : ∃ c : Nat, S.ext 4 = some (g, .map #[] c)
  T : S.muT = muT4
  l : S.muL 0 = some ⟨b, 0, none⟩
theorem HasMu.same {S S' : KS} {b q g : Nat} {m : Mx.Mu} (H : HasMu S b q g m) (he : S'.ext = S.ext) (ht : S'.muT = S.muT) (hl : S'.muL = S.muL) : HasMu S' b q g m :=
  ⟨by rw [he]; exact H.e2, by rw [he]; exact H.e3, by rw [he]; exact H.e4, by rw [ht]; exact H.T, by rw [hl]; exact H.l⟩
theorem HasMu.w {W : World} {S : KS} {b q g : Nat} {m : Mx.Mu} (H : HasMu S b q g m) (h : KW W S) : Mx.MuW W b q g m := by
  obtain ⟨l, e3⟩ := H.e3
  obtain ⟨c, e4⟩ := H.e4
  have q2 := h.ob 47 b _ ((obj_ext2 2).trans H.e2)
  have q3 := h.ob 48 q _ ((obj_ext2 3).trans e3)
  have q4 := h.ob 49 g _ ((obj_ext2 4).trans e4)
  exact ⟨q2.1, ⟨⟨l, q3.1⟩, ⟨c, q4.1⟩⟩, fun e => by have := q2.2; rw [e, q3.2] at this; omega, fun e => by have := q2.2; rw [e, q4.2] at this; omega⟩
/-- The mutex turns. -/
def KS.withMu (S : KS) (b q : Nat) (m : Mx.Mu) : KS := { S with ext := put S.ext 2 (some (b, Mx.muO m q)) }
theorem withMu_at (S : KS) (b q : Nat) (m : Mx.Mu) : (S.withMu b q m).ext 2 = some (b, Mx.muO m q) := put_self S.ext 2 _
theorem withMu_ne (S : KS) (b q : Nat) (m : Mx.Mu) {k : Nat} (h : k ≠ 2) : (S.withMu b q m).ext k = S.ext k := put_ne S.ext _ h
theorem KW.mutex {w w' : World} {S : KS} {b q g : Nat} {m m' : Mx.Mu} (h : KW w S) (H : HasMu S b q g m) (U : Upd w b (Mx.muO m' q) w') : KW w' (S.withMu b q m') ∧ Fr S (S.withMu b q m') w w' ∧ HasMu (S.withMu b q m') b q g m' := by
  have K := h.upd (S' := S.withMu b q m') 47 ((obj_ext2 2).trans H.e2) U ((obj_ext2 2).trans (withMu_at S b q m')) (fun j hj => by
    match j with
    | 0 => rfl
    | 1 => rfl | 2 => rfl | 3 => rfl | 4 => rfl | 5 => rfl | 6 => rfl | 7 => rfl | 8 => rfl | 9 => rfl | 10 => rfl | 11 => rfl | 12 => rfl
    | n + 13 =>
      show (if n < 32 then S.thObj n else (S.withMu b q m').ext (n - 32)) = (if n < 32 then S.thObj n else S.ext (n - 32))
      by_cases hn : n < 32
      · rw [if_pos hn, if_pos hn]
      · rw [if_neg hn, if_neg hn]
        exact withMu_ne S b q m' (by omega)) rfl
  exact ⟨K.1, K.2, withMu_at S b q m', by obtain ⟨l, e⟩ := H.e3; exact ⟨l, (withMu_ne S b q m' (by decide)).trans e⟩, by obtain ⟨c, e⟩ := H.e4; exact ⟨c, (withMu_ne S b q m' (by decide)).trans e⟩, H.T, H.l⟩
theorem mu4_ok : Tab.genOk muT4 900 := fun i => by
  match i with
  | 0 => exact ⟨by decide, by decide⟩
  | 1 => exact ⟨by decide, by decide⟩
  | 2 => exact ⟨by decide, by decide⟩
  | 3 => exact ⟨by decide, by decide⟩
  | n + 4 => exact ⟨by show (0 : Int) ≤ 0; decide, by show (0 : Int) ≤ 900; decide⟩
theorem mu0_ok : Tab.genOk muT0 900 := fun i => by
  match i with
  | 0 => exact ⟨by decide, by decide⟩
  | 1 => exact ⟨by decide, by decide⟩
  | 2 => exact ⟨by decide, by decide⟩
  | 3 => exact ⟨by decide, by decide⟩
  | n + 4 => exact ⟨by show (0 : Int) ≤ 0; decide, by show (0 : Int) ≤ 900; decide⟩
theorem genOk_up {L : List (Bool × Int)} (h : Tab.genOk L 900) : Tab.genOk L 1000 := fun i => ⟨(h i).1, by have := (h i).2; omega⟩
end Go.Proofs.YtagmlijhgncklaaGreatDoor.Ker
