/-
  A thread ends (the kernel's end) where there is one mutex, over the translation of this seat. Conditions: the blocks that are named hold what is said; nobody waits for the mutex. (Written by genendm.py.)
-/
import Derived.Test.YtagmlijhgncklaaGreatDoorW37
import Derived.Test.YtagmlijhgncklaaGreatDoorW29
import Derived.Stop.RegionWithIn
import Derived.Sort.CutIn
set_option linter.unusedVariables false
namespace Go.Proofs.YtagmlijhgncklaaGreatDoor.Ker
open Go.RowKit Go.Proofs.YtagmlijhgncklaaGreatDoor

attribute [local go_sem] Oper.semAt_some
attribute [local go_sem] Tab.wide_fn Tab.wide_round_fn

/-- What holds while the mutexes are gone over. -/
structure EndM (w W : World) (S S1 : KS) (p : Nat) : Prop where
  k : KW W S1
  fr : Fr S S1 w W
  b0 : W.heap[w.heap.size]? = some (.cells #[.pointer (some ⟨S.B.kb, 0, none⟩)] 36 (0, 0))
  b1 : W.heap[w.heap.size + 1]? = some (.cells #[.int .i64 p] 3 (0, 0))
  sz : w.heap.size + 1 < W.heap.size
theorem EndM.reads {w W W' : World} {S S1 : KS} {p : Nat} (h : EndM w W S S1 p) (k : Below W.heap.size W W') : EndM w W' S S1 p :=
  ⟨h.k.reads k, h.fr.trans (Fr.reads S1 k), below_has k h.b0, below_has k h.b1, Nat.lt_of_lt_of_le h.sz k.size⟩
theorem EndM.own {w w6 : World} {S : KS} {Sx : List Unit → KS} {p : Nat} (hk : KW w S) (hl : ∀ l, (Sx l).lo.lab = S.lo.lab) (hs : w.heap.size + 1 < w6.heap.size) : OwnFrom w6.heap.size (fun (l : List Unit) W => EndM w W S (Sx l) p) :=
  fun l X Y row h hg hr => by
    have keep : ∀ b, b < X.heap.size → b < w6.heap.size → Y.heap[b]? = X.heap[b]? := fun b h1 h2 => hg.block b h1 (fun e => by have := (hr b e.symm).1; omega)
    have zero : ∀ b, w.heap.size ≤ b → (Sx l).lo.lab b = 0 := fun b hb => by rw [hl l]; exact hk.fresh b hb
    refine ⟨h.k.keeps hg.size (fun b hb hb0 => ?_), ⟨hg.os.trans h.fr.os, hg.tape.trans h.fr.tape, hg.output.trans h.fr.output, Nat.le_trans h.fr.size hg.size, fun b hb hb0 => ?_, h.fr.lab⟩, (keep _ (has_lt h.b0) (by omega)).trans h.b0, (keep _ (has_lt h.b1) (by omega)).trans h.b1, Nat.lt_of_lt_of_le h.sz hg.size⟩
    · by_cases e : b < w6.heap.size
      · exact keep b hb e
      · exact absurd (zero b (by omega)) hb0
    · exact (keep b (Nat.lt_of_lt_of_le hb h.fr.size) (by omega)).trans (h.fr.block b hb hb0)
/-- .. and what holds behind. -/
structure EndX (Wb W : World) (S : KS) (x p : Nat) (D : List Nat) : Prop where
  below : Below Wb.heap.size Wb W
  b0 : W.heap[x]? = some (.cells #[.pointer (some ⟨S.B.kb, 0, none⟩)] 36 (0, 0))
  b1 : W.heap[x + 1]? = some (.cells #[.int .i64 p] 3 (0, 0))
  sz : x + 1 < W.heap.size
  ds : ∀ d ∈ D, x + 1 < d ∧ W.heap[d]? = some (.deferred (some []))
theorem EndX.reads {w W W' : World} {S : KS} {x p : Nat} {D : List Nat} (h : EndX w W S x p D) (k : Below W.heap.size W W') : EndX w W' S x p D :=
  ⟨h.below.trans (k.mono h.below.size), below_has k h.b0, below_has k h.b1, Nat.lt_of_lt_of_le h.sz k.size, fun d hd => ⟨(h.ds d hd).1, below_has k (h.ds d hd).2⟩⟩
theorem EndX.own {w w6 : World} {S : KS} {x p : Nat} {D : List Nat} (hw : w.heap.size ≤ w6.heap.size) (hs : x + 1 < w6.heap.size) (hd : ∀ d ∈ D, d < w6.heap.size) : OwnFrom w6.heap.size (fun (_ : List (Nat × Int)) W => EndX w W S x p D) :=
  fun _ X Y row h hg hr => ⟨ownFrom_below (β := Unit) (n₀ := w.heap.size) (B := w6.heap.size) (w₀ := w) (Nat.le_refl _) (by omega) () X Y row h.below hg hr, Tab.own_has (β := Unit) (B := w6.heap.size) (by omega) (fun _ => _) () X Y row h.b0 hg hr, Tab.own_has (β := Unit) (B := w6.heap.size) (by omega) (fun _ => _) () X Y row h.b1 hg hr,
    Nat.lt_of_lt_of_le h.sz hg.size, fun d hdD => ⟨(h.ds d hdD).1, Tab.own_has (β := Unit) (B := w6.heap.size) (hd d hdD) (fun _ => _) () X Y row (h.ds d hdD).2 hg hr⟩⟩
theorem EndX.v {w Wb W : World} {S S1 : KS} {p : Nat} {D : List Nat} (h : EndX Wb W S w.heap.size p D) (k : KW Wb S1) (f : Fr S S1 w Wb) (hl : ∀ b, w.heap.size ≤ b → S1.lo.lab b = 0) : EndV w W S S1 p D :=
  ⟨k.reads h.below, f.trans (Fr.reads S1 h.below), ⟨h.b0, hl _ (Nat.le_refl _)⟩, ⟨h.b1, hl _ (by omega)⟩, fun d hd => ⟨(h.ds d hd).1, (h.ds d hd).2, hl _ (by have := (h.ds d hd).1; omega)⟩⟩
theorem KP.ended {S : KS} (P : KP S) {p : Nat} {t : Th} (ht : S.th p = some t) (h1 : Key.KOk (Key.clearF S.kx p)) (h2 : ∀ i, ((Key.clearF S.kx p).k i).is = false) : KP (S.ended p t) := by
  have q := P.setTh (t' := { t with en := true }) ht rfl (P.can p t ht)
  exact { q with
    L := by show (S.L.set p Hs.no).length = 16; rw [List.length_set]; exact P.L
    R := RdOk.remF P.R p
    kx := h1
    live := h2 }
end Go.Proofs.YtagmlijhgncklaaGreatDoor.Ker
