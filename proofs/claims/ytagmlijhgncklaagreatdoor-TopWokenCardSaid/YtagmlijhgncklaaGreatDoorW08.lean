/-
  Small laws on worlds, used by all walks of this seat: one block has turned, all else stands. There are no conditions.
  Rows of alike length, one behind the other, as lists of values. Conditions: as each theorem says; no program in sight.
  The plain law of a thread's ending: which destructor is told next, and how the goings through follow each other. Conditions: as each theorem says; no program in sight.
  The plain law of effective priorities: the least numbers that are at least one's own and never less than those of who waits; rings. Conditions: as each theorem says; no program in sight.
  Two values of a type of plain numbers and bools, structs and arrays of them: '==' tells whether all their cells are alike. Conditions: the type is such a one, the values fit it.
-/
import Derived.WalkKit
import Derived.WalkLawsBesides
import Derived.WalkSpells
import Derived.Lib.Hide
import Derived.StillTailTactics
import Derived.Deep.QuietTactic
import Derived.BigQuiet
import Derived.Deep.Draws
import Derived.Deep.RegionHeld3
import Derived.Deep.MidRow
set_option linter.unusedVariables false
namespace Go.Proofs.YtagmlijhgncklaaGreatDoor
open Go.RowKit

/-- Behind a step block b holds o; every other block that was there is as it was. -/
def Upd (w : World) (b : Nat) (o : Obj) (w' : World) : Prop := w'.heap[b]? = some o ∧ w.grownBy w' (some b)

theorem has_lt {w : World} {b : Nat} {o : Obj} (h : w.heap[b]? = some o) : b < w.heap.size := (Array.getElem?_eq_some_iff.1 h).1
theorem has_cell {w : World} {b : Nat} {cs : Array Value} {t : TypeId} {fz : Nat × Nat} {v : Value} (i : Nat) (h : w.heap[b]? = some (.cells cs t fz)) (hi : cs[i]? = some v) : w.cell? ⟨b, i, none⟩ = some v := by simp [World.cell?, h, hi]
theorem has_free {w : World} {b : Nat} {cs : Array Value} {t : TypeId} (h : w.heap[b]? = some (.cells cs t (0, 0))) (i : Nat) : w.frozen? ⟨b, i, none⟩ = false := by simp [World.frozen?, h]

theorem below_has {w w' : World} {b : Nat} {o : Obj} (hb : Below w.heap.size w w') (h : w.heap[b]? = some o) : w'.heap[b]? = some o := (hb.block b (has_lt h)).trans h
theorem Upd.refl {w : World} {b : Nat} {o : Obj} (h : w.heap[b]? = some o) : Upd w b o w := ⟨h, rfl, rfl, rfl, Nat.le_refl _, fun _ _ _ => rfl⟩
theorem Upd.to {w w' : World} {b : Nat} {o o' : Obj} (h : Upd w b o w') (e : o = o') : Upd w b o' w' := e ▸ h
theorem Upd.drewN {w w' : World} {b : Nat} {o : Obj} (h : Upd w b o w') (n : Nat) : Upd w b o (w'.drewN n) := ⟨h.1, h.2.os, h.2.tape, h.2.output, h.2.size, h.2.block⟩
theorem Upd.drew {w w' : World} {b : Nat} {o : Obj} (h : Upd w b o w') : Upd w b o w'.drew := ⟨h.1, h.2.os, h.2.tape, h.2.output, h.2.size, h.2.block⟩
theorem Upd.alloc {w w' : World} {b : Nat} {o : Obj} (h : Upd w b o w') (x : Obj) : Upd w b o (w'.alloc x) :=
  ⟨(Below.heap_alloc w' x b (has_lt h.1)).trans h.1, h.2.os, h.2.tape, h.2.output, by have := h.2.size; simp; omega,
    fun k hk hne => (Below.heap_alloc w' x k (by have := h.2.size; omega)).trans (h.2.block k hk hne)⟩
theorem heap_setCell_self {w : World} {b i : Nat} {cs : Array Value} {t : TypeId} {fz : Nat × Nat} (h : w.heap[b]? = some (.cells cs t fz)) (v : Value) : (w.setCell ⟨b, i, none⟩ v).heap[b]? = some (.cells (cs.setIfInBounds i v) t fz) := by
  simp [World.setCell, Array.getElem?_modify, h]
theorem Upd.setCell {w w' : World} {b : Nat} {cs : Array Value} {t : TypeId} {fz : Nat × Nat} (h : Upd w b (.cells cs t fz) w') (i : Nat) (v : Value) : Upd w b (.cells (cs.setIfInBounds i v) t fz) (w'.setCell ⟨b, i, none⟩ v) :=
  ⟨heap_setCell_self h.1 v, h.2.os, h.2.tape, h.2.output, by simpa [World.setCell] using h.2.size,
    fun k hk hne => (Below.heap_setCell w' ⟨b, i, none⟩ v k (fun e => hne (by rw [e]))).trans (h.2.block k hk hne)⟩
theorem Upd.setNew {w w' : World} {b : Nat} {o : Obj} (h : Upd w b o w') {p : Addr} (hp : w.heap.size ≤ p.block) (hne : b ≠ p.block) (v : Value) : Upd w b o (w'.setCell p v) :=
  ⟨(Below.heap_setCell w' p v b hne).trans h.1, h.2.os, h.2.tape, h.2.output, by simpa [World.setCell] using h.2.size,
    fun k hk hkb => (Below.heap_setCell w' p v k (by omega)).trans (h.2.block k hk hkb)⟩
theorem Upd.other {w w' : World} {b c : Nat} {o x : Obj} (h : Upd w b o w') (hc : w.heap[c]? = some x) (hne : c ≠ b) : w'.heap[c]? = some x := (h.2.block c (has_lt hc) (by simpa using hne)).trans hc
theorem Upd.trans {w w1 w2 : World} {b : Nat} {o o' : Obj} (h : Upd w b o w1) (k : Upd w1 b o' w2) : Upd w b o' w2 :=
  ⟨k.1, k.2.os.trans h.2.os, k.2.tape.trans h.2.tape, k.2.output.trans h.2.output, Nat.le_trans h.2.size k.2.size,
    fun i hi hne => (k.2.block i (Nat.lt_of_lt_of_le hi h.2.size) hne).trans (h.2.block i hi hne)⟩
theorem Upd.reads {w w1 w2 : World} {b : Nat} {o : Obj} (h : Upd w b o w1) (k : Below w1.heap.size w1 w2) : Upd w b o w2 :=
  ⟨below_has k h.1, k.os.trans h.2.os, k.tape.trans h.2.tape, k.output.trans h.2.output, Nat.le_trans h.2.size k.size,
    fun i hi hne => (k.block i (Nat.lt_of_lt_of_le hi h.2.size)).trans (h.2.block i hi hne)⟩
theorem Upd.after {w w1 w2 : World} {b : Nat} {o : Obj} (k : Below w.heap.size w w1) (h : Upd w1 b o w2) : Upd w b o w2 :=
  ⟨h.1, h.2.os.trans k.os, h.2.tape.trans k.tape, h.2.output.trans k.output, Nat.le_trans k.size h.2.size,
    fun i hi hne => (h.2.block i (Nat.lt_of_lt_of_le hi k.size) hne).trans (k.block i hi)⟩
theorem Upd.below {w w' : World} {b B : Nat} {o : Obj} (h : Upd w b o w') (hb : B ≤ b) (hB : B ≤ w.heap.size) : Below B w w' :=
  ⟨h.2.os, h.2.tape, h.2.output, h.2.size, fun k hk => h.2.block k (by omega) (by simp; omega)⟩
theorem Upd.size {w w' : World} {b : Nat} {o : Obj} (h : Upd w b o w') : w.heap.size ≤ w'.heap.size := h.2.size

theorem below_drewN {B : Nat} {a w : World} (h : Below B a w) (n : Nat) : Below B a (w.drewN n) := ⟨h.os, h.tape, h.output, h.size, h.block⟩
theorem below_undrew {B : Nat} {w w' : World} (h : Below B w.drew w') : Below B w w' := ⟨h.os, h.tape, h.output, h.size, h.block⟩
/-- What an array holds behind the store of a row of cells from o on. -/
def spl : Array Value → Nat → List Value → Array Value
  | cs, _, [] => cs
  | cs, o, v :: vs => spl (cs.setIfInBounds o v) (o + 1) vs
theorem Upd.setCells {w : World} {b : Nat} {t : TypeId} {fz : Nat × Nat} : ∀ (vs : List Value) (o : Nat) (cs : Array Value) (w' : World), Upd w b (.cells cs t fz) w' → Upd w b (.cells (spl cs o vs) t fz) (w'.setCells b o vs)
  | [], _, _, _, h => h
  | v :: vs, o, cs, w', h => Upd.setCells vs (o + 1) (cs.setIfInBounds o v) (w'.setCell ⟨b, o, none⟩ v) (h.setCell o v)
theorem spl_get : ∀ (vs : List Value) (o : Nat) (cs : Array Value) (k : Nat), o + vs.length ≤ cs.size → (spl cs o vs)[k]? = if o ≤ k ∧ k < o + vs.length then vs[k - o]? else cs[k]?
  | [], o, cs, k, _ => by simp [spl]; omega
  | v :: vs, o, cs, k, h => by
    simp only [List.length_cons] at h
    rw [spl, spl_get vs (o + 1) _ k (by simp; omega)]
    by_cases h1 : o + 1 ≤ k ∧ k < o + 1 + vs.length
    · rw [if_pos h1, if_pos (by simp; omega), show k - o = (k - (o + 1)) + 1 by omega, List.getElem?_cons_succ]
    · rw [if_neg h1, Array.getElem?_setIfInBounds]
      by_cases h2 : o = k
      · subst h2
        rw [if_pos rfl, if_pos (by omega), if_pos (by simp), Nat.sub_self]
        simp
      · rw [if_neg h2, if_neg (by simp; omega)]
theorem spl_all (vs : List Value) (cs : Array Value) (h : cs.size = vs.length) : spl cs 0 vs = vs.toArray := by
  apply Array.ext_getElem?
  intro k
  rw [spl_get vs 0 cs k (by omega)]
  by_cases hk : k < vs.length
  · rw [if_pos (by omega)]; simp
  · rw [if_neg (by omega), Array.getElem?_eq_none (by omega), Array.getElem?_eq_none (by simp; omega)]
theorem has_range {w : World} {b : Nat} {cs : Array Value} {t : TypeId} {fz : Nat × Nat} (h : w.heap[b]? = some (.cells cs t fz)) (l : List Value) (o : Nat) (hl : ∀ j, j < l.length → cs[o + j]? = l[j]?) : w.rangeAt b o l := by
  intro j v hv
  have hj : j < l.length := by
    rcases Nat.lt_or_ge j l.length with h' | h'
    · exact h'
    · rw [List.getElem?_eq_none h'] at hv; cases hv
  exact has_cell (o + j) h ((hl j hj).trans hv)
theorem has_there {w : World} {b : Nat} {cs : Array Value} {t : TypeId} (h : w.heap[b]? = some (.cells cs t (0, 0))) (o n : Nat) (hn : o + n ≤ cs.size) : w.there b o n :=
  fun j hj => ⟨by rw [has_cell (o + j) h (Array.getElem?_eq_getElem (by omega))]; rfl, has_free h _⟩

/-- A new block, filled by one store. -/
theorem copied (w : World) (Z : Array Value) (t : TypeId) (l : List Value) (hz : Z.size = l.length) :
    ((w.alloc (.cells Z t)).setCells w.heap.size 0 l).heap[w.heap.size]? = some (.cells l.toArray t (0, 0)) ∧ Below w.heap.size w ((w.alloc (.cells Z t)).setCells w.heap.size 0 l) := by
  have U := Upd.setCells (fz := (0, 0)) l 0 Z _ (Upd.refl (heap_alloc_new w (.cells Z t)))
  rw [spl_all l Z hz] at U
  exact ⟨U.1, ((Below.refl _ w).alloc (Nat.le_refl _) _).trans (U.below (Nat.le_refl _) (by simp))⟩

/-- Names the world where the walk stands. -/
theorem upd_wp {P : Program} {c : Code} {Q : Exit → Act → World → Prop} {a : Act} {w0 w : World} {b : Nat} {o : Obj} (U : Upd w0 b o w) (h : ∀ W, Upd w0 b o W → c.wp P Q a W) : c.wp P Q a w := h w U
theorem world_wp {P : Program} {c : Code} {Q : Exit → Act → World → Prop} {a : Act} {w : World} (S : World → Prop) (U : S w) (h : ∀ W, S W → c.wp P Q a W) : c.wp P Q a w := h w U
theorem calls_world {P : Program} {f : FuncId} {a : Array Value} {w : World} {R : Ending → World → Prop} (S : World → Prop) (U : S w) (h : ∀ W, S W → Calls P f a W R) : Calls P f a w R := h w U
theorem quiet_left {P : Program} {f : FuncId} {args : Array Value} {w : World} {n : Nat} {v : Value}
    (h : Calls P f args (w.drewN n) fun e w' => e = .returned v ∧ w.drewN n = w') : Calls P f args (w.drewN n) fun e w'' => e = .returned v ∧ ∃ m, w'' = w.drewN m :=
  h.mono fun _ _ ⟨he, hm⟩ => ⟨he, n, hm.symm⟩
theorem below_alloc_has {w : World} {b : Nat} {o x : Obj} (h : w.heap[b]? = some x) : (w.alloc o).heap[b]? = some x := (Below.heap_alloc w o b (has_lt h)).trans h
/-- Behind a step blocks b and c may have turned; every other block that was there is as it was. -/
structure Upd2 (w : World) (b c : Nat) (w' : World) : Prop where
  os : w'.os = w.os
  tape : w'.tape = w.tape
  output : w'.output = w.output
  size : w.heap.size ≤ w'.heap.size
  block : ∀ k, k < w.heap.size → k ≠ b → k ≠ c → w'.heap[k]? = w.heap[k]?
theorem Upd2.refl (w : World) (b c : Nat) : Upd2 w b c w := ⟨rfl, rfl, rfl, Nat.le_refl _, fun _ _ _ _ => rfl⟩
theorem Upd2.left {w w1 w2 : World} {b c : Nat} {o : Obj} (h : Upd2 w b c w1) (k : Upd w1 b o w2) : Upd2 w b c w2 :=
  ⟨k.2.os.trans h.os, k.2.tape.trans h.tape, k.2.output.trans h.output, Nat.le_trans h.size k.2.size, fun i hi h1 h2 => (k.2.block i (Nat.lt_of_lt_of_le hi h.size) (by simpa using h1)).trans (h.block i hi h1 h2)⟩
theorem Upd2.right {w w1 w2 : World} {b c : Nat} {o : Obj} (h : Upd2 w b c w1) (k : Upd w1 c o w2) : Upd2 w b c w2 :=
  ⟨k.2.os.trans h.os, k.2.tape.trans h.tape, k.2.output.trans h.output, Nat.le_trans h.size k.2.size, fun i hi h1 h2 => (k.2.block i (Nat.lt_of_lt_of_le hi h.size) (by simpa using h2)).trans (h.block i hi h1 h2)⟩
theorem Upd2.reads {w w1 w2 : World} {b c : Nat} (h : Upd2 w b c w1) (k : Below w1.heap.size w1 w2) : Upd2 w b c w2 :=
  ⟨k.os.trans h.os, k.tape.trans h.tape, k.output.trans h.output, Nat.le_trans h.size k.size, fun i hi h1 h2 => (k.block i (Nat.lt_of_lt_of_le hi h.size)).trans (h.block i hi h1 h2)⟩
theorem Upd2.drew {w w1 : World} {b c : Nat} (h : Upd2 w b c w1) : Upd2 w b c w1.drew := ⟨h.os, h.tape, h.output, h.size, h.block⟩
theorem Upd2.trans {w w1 w2 : World} {b c : Nat} (h : Upd2 w b c w1) (k : Upd2 w1 b c w2) : Upd2 w b c w2 :=
  ⟨k.os.trans h.os, k.tape.trans h.tape, k.output.trans h.output, Nat.le_trans h.size k.size, fun i hi h1 h2 => (k.block i (Nat.lt_of_lt_of_le hi h.size) h1 h2).trans (h.block i hi h1 h2)⟩
theorem Upd2.below {w w' : World} {b c B : Nat} (h : Upd2 w b c w') (hb : B ≤ b) (hc : B ≤ c) (hB : B ≤ w.heap.size) : Below B w w' :=
  ⟨h.os, h.tape, h.output, h.size, fun k hk => h.block k (by omega) (by omega) (by omega)⟩
theorem Upd2.other {w w' : World} {b c d : Nat} {x : Obj} (h : Upd2 w b c w') (hd : w.heap[d]? = some x) (h1 : d ≠ b) (h2 : d ≠ c) : w'.heap[d]? = some x := (h.block d (has_lt hd) h1 h2).trans hd
theorem still_tail {P : Program} {id : Nat} {Q : Exit → Act → World → Prop} {a : Act} {w : World} {l : List Oper} (n : Nat) (hm : P.follows .mixedOrders = true) (hB : Region.lexTailB .any l.toArray n = true)
    (h : wpStill P l.toArray w.drew (fun a' => wpList P l.toArray Q (l.drop n) a' w.drew) (l.take n) a) : (Code.region id l.toArray true).wp P Q a w := wp_region_still_tail n hm hB h
end Go.Proofs.YtagmlijhgncklaaGreatDoor
namespace Go.Proofs.YtagmlijhgncklaaGreatDoor

def rowsF (f : Nat → List Value) (m : Nat) : List Value := match m with
  | 0 => []
  | m + 1 => rowsF f m ++ f m
theorem rowsF_length {f : Nat → List Value} {c : Nat} (h : ∀ i, (f i).length = c) : ∀ m, (rowsF f m).length = m * c
  | 0 => by simp [rowsF]
  | m + 1 => by rw [rowsF, List.length_append, rowsF_length h m, h, Nat.succ_mul]
theorem idx_lt {i j c m : Nat} (hi : i < m) (hj : j < c) : i * c + j < m * c := by
  have h1 : (i + 1) * c ≤ m * c := Nat.mul_le_mul_right _ hi
  rw [Nat.succ_mul] at h1
  omega
theorem rowsF_get {f : Nat → List Value} {c : Nat} (h : ∀ i, (f i).length = c) {i j : Nat} (hj : j < c) : ∀ {m : Nat}, i < m → (rowsF f m)[i * c + j]? = (f i)[j]?
  | 0, hi => absurd hi (Nat.not_lt_zero _)
  | m + 1, hi => by
    rw [rowsF, List.getElem?_append, rowsF_length h]
    by_cases e : i = m
    · subst e
      rw [if_neg (by omega)]
      congr 1
      omega
    · have := idx_lt (c := c) (j := j) (show i < m by omega) hj
      rw [if_pos this]
      exact rowsF_get h hj (by omega)
theorem rowsF_congr {f g : Nat → List Value} : ∀ {m : Nat}, (∀ i, i < m → f i = g i) → rowsF f m = rowsF g m
  | 0, _ => rfl
  | m + 1, h => by rw [rowsF, rowsF, rowsF_congr (fun i hi => h i (by omega)), h m (by omega)]
theorem rowsF_set {f g : Nat → List Value} {c : Nat} (h : ∀ i, (f i).length = c) {i j : Nat} {x : Value} (hj : j < c) (hg : g i = (f i).set j x) (hn : ∀ k, k ≠ i → g k = f k) : ∀ {m : Nat}, i < m → (rowsF f m).set (i * c + j) x = rowsF g m
  | 0, hi => absurd hi (Nat.not_lt_zero _)
  | m + 1, hi => by
    rw [rowsF, rowsF]
    by_cases e : i = m
    · subst e
      rw [List.set_append_right _ _ (by rw [rowsF_length h]; omega), rowsF_length h, hg]
      congr 1
      · exact rowsF_congr (fun k hk => (hn k (by omega)).symm)
      · congr 1
        omega
    · have := idx_lt (c := c) (j := j) (show i < m by omega) hj
      rw [List.set_append_left _ _ (by rw [rowsF_length h]; exact this), rowsF_set h hj hg hn (by omega), hn m (fun e' => e e'.symm)]
theorem rowsF_all {f : Nat → List Value} {p : Value → Prop} (h : ∀ i v, v ∈ f i → p v) : ∀ m v, v ∈ rowsF f m → p v
  | 0, v, hv => by cases hv
  | m + 1, v, hv => by
    rw [rowsF] at hv
    rcases List.mem_append.1 hv with hv | hv
    · exact rowsF_all h m v hv
    · exact h m v hv
/-- Rows of one number each. -/
def rowI (f : Nat → Int) (m : Nat) : List Value := rowsF (fun i => [.int .i64 (f i)]) m
theorem rowI_length (f : Nat → Int) (m : Nat) : (rowI f m).length = m := by rw [rowI, rowsF_length (c := 1) (fun _ => rfl), Nat.mul_one]
theorem rowI_get (f : Nat → Int) {i m : Nat} (hi : i < m) : (rowI f m)[i]? = some (.int .i64 (f i)) := by
  have := rowsF_get (f := fun i => [.int .i64 (f i)]) (c := 1) (fun _ => rfl) (j := 0) (by decide) hi
  rw [Nat.mul_one, Nat.add_zero] at this
  exact this
theorem rowI_set (f : Nat → Int) (x : Int) {i m : Nat} (hi : i < m) : (rowI f m).set i (.int .i64 x) = rowI (fun k => if k = i then x else f k) m := by
  have := rowsF_set (f := fun i => [.int .i64 (f i)]) (g := fun k => [.int .i64 (if k = i then x else f k)]) (c := 1) (fun _ => rfl) (j := 0) (x := .int .i64 x) (by decide) (by simp) (fun k hk => by simp [hk]) hi
  rw [Nat.mul_one, Nat.add_zero] at this
  exact this
theorem rowI_congr {f g : Nat → Int} {m : Nat} (h : ∀ i, i < m → f i = g i) : rowI f m = rowI g m := rowsF_congr (fun i hi => by rw [h i hi])
theorem rowI_one (f : Nat → Int) (m : Nat) : ∀ v ∈ rowI f m, v.oneCell' = true := rowsF_all (fun i v hv => by rw [List.mem_singleton] at hv; subst hv; rfl) m
end Go.Proofs.YtagmlijhgncklaaGreatDoor
namespace Go.Proofs.YtagmlijhgncklaaGreatDoor.Key

/-- Where a thread that ends stands: which going through, the key that is met next, whether something was handed in it, whether it is over. -/
structure En where
  round : Nat
  at_ : Nat
  some_ : Bool
  over : Bool
def firstFrom (live : Nat → Bool) (a n : Nat) : Option Nat := (List.range n).find? fun i => decide (a ≤ i) && live i
theorem first_some {live : Nat → Bool} {a n i : Nat} (h : firstFrom live a n = some i) : a ≤ i ∧ i < n ∧ live i = true ∧ ∀ j, a ≤ j → j < i → live j = false := by
  unfold firstFrom at h
  rw [List.find?_eq_some_iff_getElem] at h
  obtain ⟨hp, j, hj, he, hb⟩ := h
  simp at hj he hp
  subst he
  refine ⟨hp.1, hj, hp.2, fun k hk1 hk2 => ?_⟩
  have := hb k hk2
  simp [hk1] at this
  exact this
theorem first_none {live : Nat → Bool} {a n : Nat} (h : firstFrom live a n = none) (j : Nat) (h1 : a ≤ j) (h2 : j < n) : live j = false := by
  unfold firstFrom at h
  rw [List.find?_eq_none] at h
  have := h j (by simpa using h2)
  simp [h1] at this
  exact this
theorem first_of {live : Nat → Bool} {a n i : Nat} (h1 : a ≤ i) (h2 : i < n) (h3 : live i = true) (h4 : ∀ j, a ≤ j → j < i → live j = false) : firstFrom live a n = some i := by
  cases h : firstFrom live a n with
  | none => have := first_none h i h1 h2; rw [h3] at this; cases this
  | some k =>
    obtain ⟨k1, k2, k3, k4⟩ := first_some h
    rcases Nat.lt_trichotomy k i with e | e | e
    · have := h4 k k1 e; rw [k3] at this; cases this
    · rw [e]
    · have := k4 i h1 e; rw [h3] at this; cases this
theorem first_not {live : Nat → Bool} {a n : Nat} (h : ∀ j, a ≤ j → j < n → live j = false) : firstFrom live a n = none := by
  cases hf : firstFrom live a n with
  | none => rfl
  | some k =>
    obtain ⟨k1, k2, k3, _⟩ := first_some hf
    have := h k k1 k2; rw [k3] at this; cases this
theorem first_skip {live : Nat → Bool} {a n : Nat} (h : live a = false) : firstFrom live a n = firstFrom live (a + 1) n := by
  cases hf : firstFrom live (a + 1) n with
  | none => exact first_not (fun j h1 h2 => by
      by_cases e : j = a
      · subst e; exact h
      · exact first_none hf j (by omega) h2)
  | some k =>
    obtain ⟨k1, k2, k3, k4⟩ := first_some hf
    exact first_of (by omega) k2 k3 (fun j h1 h2 => by
      by_cases e : j = a
      · subst e; exact h
      · exact k4 j (by omega) h2)
/-- What Next leaves, and which key's destructor it tells. -/
def nextF (n : Nat) (live : Nat → Bool) (e : En) : En × Option Nat :=
  if e.over = true then (e, none) else
  match firstFrom live e.at_ n with
  | some i => (⟨e.round, i + 1, true, false⟩, some i)
  | none =>
    if e.some_ = false ∨ e.round = 4 then (⟨e.round, max e.at_ n, e.some_, true⟩, none) else
    match firstFrom live 0 n with
    | some i => (⟨e.round + 1, i + 1, true, false⟩, some i)
    | none => (⟨e.round + 1, n, false, true⟩, none)
section
variable {n : Nat} {live : Nat → Bool} {r a : Nat} {s : Bool}
theorem next_over : nextF n live ⟨r, a, s, true⟩ = (⟨r, a, s, true⟩, none) := by simp [nextF]
theorem next_here (h1 : a < n) (h2 : live a = true) : nextF n live ⟨r, a, s, false⟩ = (⟨r, a + 1, true, false⟩, some a) := by
  simp [nextF, first_of (Nat.le_refl a) h1 h2 (fun j h3 h4 => by omega)]
theorem next_skip (h1 : a < n) (h2 : live a = false) : nextF n live ⟨r, a, s, false⟩ = nextF n live ⟨r, a + 1, s, false⟩ := by
  have e : max a n = max (a + 1) n := by omega
  simp only [nextF, first_skip h2, e, Bool.false_eq_true, if_false]
theorem next_end (h1 : n ≤ a) (h2 : s = false ∨ r = 4) : nextF n live ⟨r, a, s, false⟩ = (⟨r, a, s, true⟩, none) := by
  simp [nextF, first_not (live := live) (a := a) (n := n) (fun j h3 h4 => by omega), h2, show max a n = a by omega]
theorem next_round (h1 : n ≤ a) (h2 : s = true) (h3 : r ≠ 4) : nextF n live ⟨r, a, s, false⟩ = nextF n live ⟨r + 1, 0, false, false⟩ := by
  subst h2
  simp only [nextF, first_not (live := live) (a := a) (n := n) (fun j h4 h5 => by omega), Bool.false_eq_true, if_false, Bool.true_eq_false, h3, or_self, true_or, if_true]
  cases firstFrom live 0 n with
  | none => simp
  | some i => rfl
end
end Go.Proofs.YtagmlijhgncklaaGreatDoor.Key
namespace Go.Proofs.YtagmlijhgncklaaGreatDoor.Inh

/-- For whom a thread waits. -/
def nxt (wt : Nat → Int) (t : Nat) : Option Nat := if 0 ≤ wt t then some (wt t).toNat else none
/-- Numbers that are at least one's own, and never less than those of who waits. -/
def Pre (n : Nat) (own wt : Nat → Int) (f : Nat → Int) : Prop := (∀ t, t < n → own t ≤ f t) ∧ ∀ t w, t < n → nxt wt t = some w → f t ≤ f w
def Low (n : Nat) (own wt : Nat → Int) (l : Nat → Int) : Prop := ∀ f, Pre n own wt f → ∀ t, t < n → l t ≤ f t
def Least (n : Nat) (own wt : Nat → Int) (l : Nat → Int) : Prop := Pre n own wt l ∧ Low n own wt l
def Fine (n : Nat) (wt : Nat → Int) : Prop := ∀ t, t < n → -1 ≤ wt t ∧ wt t < n
def upd (l : Nat → Int) (i : Nat) (x : Int) : Nat → Int := fun j => if j = i then x else l j
theorem nxt_lt {n : Nat} {wt : Nat → Int} (h : Fine n wt) {t w : Nat} (ht : t < n) (hw : nxt wt t = some w) : w < n ∧ wt t = (w : Int) := by
  unfold nxt at hw
  split at hw
  · cases hw
    have := h t ht
    omega
  · cases hw
theorem least_unique {n : Nat} {own wt l m : Nat → Int} (h : Least n own wt l) (k : Least n own wt m) (t : Nat) (ht : t < n) : l t = m t :=
  Int.le_antisymm (h.2 m k.1 t ht) (k.2 l h.1 t ht)
theorem low_own {n : Nat} {own wt : Nat → Int} : Low n own wt own := fun _ hf t ht => hf.1 t ht
/-- Raising along an edge keeps the numbers low. -/
theorem low_raise {n : Nat} {own wt l : Nat → Int} (h : Low n own wt l) {a w : Nat} (ha : a < n) (hw : nxt wt a = some w) : Low n own wt (upd l w (l a)) := by
  intro f hf t ht
  unfold upd
  split
  · rename_i e
    subst e
    exact Int.le_trans (h f hf a ha) (hf.2 a t ha hw)
  · exact h f hf t ht
theorem low_same {n : Nat} {own wt l m : Nat → Int} (h : Low n own wt l) (e : ∀ t, t < n → m t = l t) : Low n own wt m := fun f hf t ht => by rw [e t ht]; exact h f hf t ht

def gap (n : Nat) (l : Nat → Int) : Nat := match n with
  | 0 => 0
  | n + 1 => gap n l + (31 - l n).toNat
theorem gap_same {l m : Nat → Int} : ∀ {n : Nat}, (∀ t, t < n → m t = l t) → gap n m = gap n l
  | 0, _ => rfl
  | n + 1, h => by rw [gap, gap, gap_same (fun t ht => h t (by omega)), h n (by omega)]
theorem gap_raise {l : Nat → Int} {w : Nat} {x : Int} (hx : l w < x) (h31 : x ≤ 31) : ∀ {n : Nat}, w < n → gap n (upd l w x) < gap n l
  | 0, h => absurd h (Nat.not_lt_zero _)
  | n + 1, h => by
    rw [gap, gap]
    by_cases e : w = n
    · subst e
      rw [gap_same (l := l) (fun t ht => by unfold upd; rw [if_neg (by omega)])]
      have : upd l w x w = x := by simp [upd]
      rw [this]
      omega
    · have h1 := gap_raise hx h31 (n := n) (by omega)
      have : upd l w x n = l n := by unfold upd; rw [if_neg (by omega)]
      rw [this]
      omega
theorem low_top {n : Nat} {own wt l : Nat → Int} (h : Low n own wt l) (ho : ∀ t, t < n → own t ≤ 31) (t : Nat) (ht : t < n) : l t ≤ 31 := h (fun _ => 31) ⟨ho, fun _ _ _ _ => Int.le_refl _⟩ t ht

/-! The program's way: each thread raises those for whom it waits, one behind the other. -/
def maxF (f g : Nat → Int) : Nat → Int := fun i => max (f i) (g i)
/-- Behind thread number t: what is out is low; threads below t have no less than their own, and raise nobody any more. -/
structure Upto (n : Nat) (own wt out : Nat → Int) (t : Nat) : Prop where
  low : Low n own wt (maxF out own)
  has : ∀ s, s < t → own s ≤ out s
  edge : ∀ s w, s < t → nxt wt s = some w → maxF out own s ≤ maxF out own w
/-- Within thread t's walk up, at thread a. -/
structure Climb (n : Nat) (own wt out : Nat → Int) (t a : Nat) : Prop where
  low : Low n own wt (maxF out own)
  has : ∀ s, s ≤ t → own s ≤ out s
  edge : ∀ s w, s ≤ t → s ≠ a → nxt wt s = some w → maxF out own s ≤ maxF out own w
  at_ : own a ≤ out a
  lt : a < n
theorem upto_zero {n : Nat} {own wt out : Nat → Int} (h : ∀ t, t < n → out t ≤ own t) : Upto n own wt out 0 :=
  ⟨low_same low_own (fun t ht => by have := h t ht; unfold maxF; omega), fun s hs => absurd hs (Nat.not_lt_zero _), fun s w hs => absurd hs (Nat.not_lt_zero _)⟩
theorem max_upd_self (out own : Nat → Int) (t : Nat) : maxF (upd out t (max (out t) (own t))) own = maxF out own := by
  funext i
  unfold maxF upd
  split
  · rename_i e; subst e; omega
  · rfl
theorem climb_start {n : Nat} {own wt out : Nat → Int} {t : Nat} (h : Upto n own wt out t) (ht : t < n) : Climb n own wt (upd out t (max (out t) (own t))) t t := by
  refine ⟨by rw [max_upd_self]; exact h.low, fun s hs => ?_, fun s w hs hne hw => by rw [max_upd_self]; exact h.edge s w (by omega) hw, ?_, ht⟩
  · unfold upd
    split
    · rename_i e; subst e; omega
    · exact h.has s (by omega)
  · simp only [upd, if_true]; omega
theorem climb_end {n : Nat} {own wt out : Nat → Int} {t a : Nat} (h : Climb n own wt out t a) (he : ∀ w, nxt wt a = some w → out a ≤ max (out w) (own w)) : Upto n own wt out (t + 1) := by
  refine ⟨h.low, fun s hs => h.has s (by omega), fun s w hs hw => ?_⟩
  by_cases e : s = a
  · subst e
    have := he w hw
    have := h.at_
    unfold maxF
    omega
  · exact h.edge s w (by omega) e hw
theorem max_upd {out own : Nat → Int} {w : Nat} {x : Int} (h : own w ≤ x) : maxF (upd out w x) own = upd (maxF out own) w x := by
  funext i
  unfold maxF upd
  split
  · rename_i e; subst e; omega
  · rfl
theorem climb_up {n : Nat} {own wt out : Nat → Int} {t a w : Nat} (hf : Fine n wt) (h : Climb n own wt out t a) (hw : nxt wt a = some w) (hlt : max (out w) (own w) < out a) :
    Climb n own wt (upd out w (out a)) t w ∧ maxF (upd out w (out a)) own = upd (maxF out own) w (out a) ∧ maxF out own a = out a := by
  have ha : maxF out own a = out a := by have := h.at_; unfold maxF; omega
  have hm : maxF (upd out w (out a)) own = upd (maxF out own) w (out a) := max_upd (by omega)
  refine ⟨⟨?_, fun s hs => ?_, fun s u hs hne hu => ?_, ?_, (nxt_lt hf h.lt hw).1⟩, hm, ha⟩
  · rw [hm, ← ha]; exact low_raise h.low h.lt hw
  · have := h.has s hs
    unfold upd
    split
    · rename_i e; subst e; omega
    · exact this
  · rw [hm]
    have h1 : upd (maxF out own) w (out a) s = maxF out own s := by unfold upd; rw [if_neg hne]
    rw [h1]
    by_cases e : s = a
    · subst e
      rw [hw] at hu
      cases hu
      simp only [upd, if_true]
      omega
    · have h2 := h.edge s u hs e hu
      unfold upd
      split
      · rename_i e2
        subst e2
        have : maxF out own u = max (out u) (own u) := rfl
        omega
      · exact h2
  · simp only [upd, if_true]; omega
theorem upto_end {n : Nat} {own wt out : Nat → Int} (hf : Fine n wt) (h : Upto n own wt out n) : Least n own wt out := by
  have e : ∀ t, t < n → out t = maxF out own t := fun t ht => by have := h.has t ht; unfold maxF; omega
  refine ⟨⟨h.has, fun t w ht hw => ?_⟩, low_same h.low e⟩
  have h1 := h.edge t w ht hw
  rw [← e t ht] at h1
  rw [← e w (nxt_lt hf ht hw).1] at h1
  exact h1

/-! The document's way: all raise, till nothing changes. -/
end Go.Proofs.YtagmlijhgncklaaGreatDoor.Inh
namespace Go.Proofs.YtagmlijhgncklaaGreatDoor
open Go.RowKit

/-- A cell's kind: a number, or a bool. -/
inductive Sc | i (k : IntKind) | b
def Sc.fits : Sc → Value → Prop
  | .i k, v => ∃ n, v = .int k n
  | .b, v => ∃ x, v = .bool x
def Fit : List Sc → List Value → Prop
  | [], [] => True
  | s :: ss, v :: vs => s.fits v ∧ Fit ss vs
  | _, _ => False
theorem Fit.len : ∀ {ss : List Sc} {as : List Value}, Fit ss as → as.length = ss.length
  | [], [], _ => rfl
  | _ :: _, _ :: _, h => by simp [Fit.len h.2]
  | [], _ :: _, h => h.elim
  | _ :: _, [], h => h.elim
/-- The cells of a flat type. -/
def flatFields (P : Program) (fl : TypeId → Option (List Sc)) : List Sc → List Field → Option (List Sc)
  | acc, [] => some acc
  | acc, f :: fs =>
    if f.name = "_" then none else
    match fl f.type, P.info? f.type with
    | some s, some i => if f.offset = acc.length ∧ i.size = s.length then flatFields P fl (acc ++ s) fs else none
    | _, _ => none
def flatAt (P : Program) : Nat → TypeId → Option (List Sc)
  | 0, _ => none
  | d + 1, t =>
    match P.underlying t with
    | some .bool => some [.b]
    | some (.int k) => some [.i k]
    | some (.struct fs) => if P.stoodInHeld t then none else flatFields P (flatAt P d) [] fs.toList
    | some (.array n e) =>
      (match flatAt P d e, P.info? e with
       | some s, some i => if i.size = s.length then some (List.replicate n s).flatten else none
       | _, _ => none)
    | _ => none
section
variable {P : Program} (w : World)
end

end Go.Proofs.YtagmlijhgncklaaGreatDoor
