/-
  Small laws on worlds, used by all walks of this seat: one block has turned, all else stands. There are no conditions.
  Rows of alike length, one behind the other, as lists of values. Conditions: as each theorem says; no program in sight.
  The plain law of a thread's ending: which destructor is told next, and how the goings through follow each other. Conditions: as each theorem says; no program in sight.
  The plain law of effective priorities: the least numbers that are at least one's own and never less than those of who waits; rings. Conditions: as each theorem says; no program in sight.
  Two values of a type of plain numbers and bools, structs and arrays of them: '==' tells whether all their cells are alike. Conditions: the type is such a one, the values fit it.
-/
import Derived.WalkKit
import Derived.WalkLawsBesides
import Derived.WalkSpells
import Derived.Lib.Hide
import Derived.StillTailTactics
import Derived.Deep.QuietTactic
import Derived.BigQuiet
import Derived.Deep.Draws
import Derived.Deep.RegionHeld3
import Derived.Deep.MidRow
set_option linter.unusedVariables false
namespace Go.Proofs.YtagmlijhgncklaaGreatDoor
open Go.RowKit

/-- Behind a step block b holds o; every other block that was there is as it was. -/
def Upd (w : World) (b : Nat) (o : Obj) (w' : World) : Prop := w'.heap[b]? = some o ∧ w.grownBy w' (some b)

theorem has_lt {w : World} {b : Nat} {o : Obj} (h : w.heap[b]? = some o) : b < w.heap.size := (Array.getElem?_eq_some_iff.1 h).1
theorem has_cell {w : World} {b : Nat} {cs : Array Value} {t : TypeId} {fz : Nat × Nat} {v : Value} (i : Nat) (h : w.heap[b]? = some (.cells cs t fz)) (hi : cs[i]? = some v) : w.cell? ⟨b, i, none⟩ = some v := by simp [World.cell?, h, hi]
theorem has_free {w : World} {b : Nat} {cs : Array Value} {t : TypeId} (h : w.heap[b]? = some (.cells cs t (0, 0))) (i : Nat) : w.frozen? ⟨b, i, none⟩ = false := by simp [World.frozen?, h]

theorem below_has {w w' : World} {b : Nat} {o : Obj} (hb : Below w.heap.size w w') (h : w.heap[b]? = some o) : w'.heap[b]? = some o := (hb.block b (has_lt h)).trans h
theorem below_hasB {B : Nat} {w w' : World} {b : Nat} {o : Obj} (hb : Below B w w') (h : w.heap[b]? = some o) (hB : b < B) : w'.heap[b]? = some o := (hb.block b hB).trans h

theorem Upd.refl {w : World} {b : Nat} {o : Obj} (h : w.heap[b]? = some o) : Upd w b o w := ⟨h, rfl, rfl, rfl, Nat.le_refl _, fun _ _ _ => rfl⟩
theorem Upd.to {w w' : World} {b : Nat} {o o' : Obj} (h : Upd w b o w') (e : o = o') : Upd w b o' w' := e ▸ h
theorem Upd.drewN {w w' : World} {b : Nat} {o : Obj} (h : Upd w b o w') (n : Nat) : Upd w b o (w'.drewN n) := ⟨h.1, h.2.os, h.2.tape, h.2.output, h.2.size, h.2.block⟩
theorem Upd.drew {w w' : World} {b : Nat} {o : Obj} (h : Upd w b o w') : Upd w b o w'.drew := ⟨h.1, h.2.os, h.2.tape, h.2.output, h.2.size, h.2.block⟩
theorem Upd.alloc {w w' : World} {b : Nat} {o : Obj} (h : Upd w b o w') (x : Obj) : Upd w b o (w'.alloc x) :=
  ⟨(Below.heap_alloc w' x b (has_lt h.1)).trans h.1, h.2.os, h.2.tape, h.2.output, by have := h.2.size; simp; omega,
    fun k hk hne => (Below.heap_alloc w' x k (by have := h.2.size; omega)).trans (h.2.block k hk hne)⟩
theorem heap_setCell_self {w : World} {b i : Nat} {cs : Array Value} {t : TypeId} {fz : Nat × Nat} (h : w.heap[b]? = some (.cells cs t fz)) (v : Value) : (w.setCell ⟨b, i, none⟩ v).heap[b]? = some (.cells (cs.setIfInBounds i v) t fz) := by
  simp [World.setCell, Array.getElem?_modify, h]
theorem Upd.setCell {w w' : World} {b : Nat} {cs : Array Value} {t : TypeId} {fz : Nat × Nat} (h : Upd w b (.cells cs t fz) w') (i : Nat) (v : Value) : Upd w b (.cells (cs.setIfInBounds i v) t fz) (w'.setCell ⟨b, i, none⟩ v) :=
  ⟨heap_setCell_self h.1 v, h.2.os, h.2.tape, h.2.output, by simpa [World.setCell] using h.2.size,
    fun k hk hne => (Below.heap_setCell w' ⟨b, i, none⟩ v k (fun e => hne (by rw [e]))).trans (h.2.block k hk hne)⟩
theorem Upd.setNew {w w' : World} {b : Nat} {o : Obj} (h : Upd w b o w') {p : Addr} (hp : w.heap.size ≤ p.block) (hne : b ≠ p.block) (v : Value) : Upd w b o (w'.setCell p v) :=
  ⟨(Below.heap_setCell w' p v b hne).trans h.1, h.2.os, h.2.tape, h.2.output, by simpa [World.setCell] using h.2.size,
    fun k hk hkb => (Below.heap_setCell w' p v k (by omega)).trans (h.2.block k hk hkb)⟩
theorem Upd.other {w w' : World} {b c : Nat} {o x : Obj} (h : Upd w b o w') (hc : w.heap[c]? = some x) (hne : c ≠ b) : w'.heap[c]? = some x := (h.2.block c (has_lt hc) (by simpa using hne)).trans hc
theorem Upd.trans {w w1 w2 : World} {b : Nat} {o o' : Obj} (h : Upd w b o w1) (k : Upd w1 b o' w2) : Upd w b o' w2 :=
  ⟨k.1, k.2.os.trans h.2.os, k.2.tape.trans h.2.tape, k.2.output.trans h.2.output, Nat.le_trans h.2.size k.2.size,
    fun i hi hne => (k.2.block i (Nat.lt_of_lt_of_le hi h.2.size) hne).trans (h.2.block i hi hne)⟩
theorem Upd.reads {w w1 w2 : World} {b : Nat} {o : Obj} (h : Upd w b o w1) (k : Below w1.heap.size w1 w2) : Upd w b o w2 :=
  ⟨below_has k h.1, k.os.trans h.2.os, k.tape.trans h.2.tape, k.output.trans h.2.output, Nat.le_trans h.2.size k.size,
    fun i hi hne => (k.block i (Nat.lt_of_lt_of_le hi h.2.size)).trans (h.2.block i hi hne)⟩
theorem Upd.after {w w1 w2 : World} {b : Nat} {o : Obj} (k : Below w.heap.size w w1) (h : Upd w1 b o w2) : Upd w b o w2 :=
  ⟨h.1, h.2.os.trans k.os, h.2.tape.trans k.tape, h.2.output.trans k.output, Nat.le_trans k.size h.2.size,
    fun i hi hne => (h.2.block i (Nat.lt_of_lt_of_le hi k.size) hne).trans (k.block i hi)⟩
theorem Upd.below {w w' : World} {b B : Nat} {o : Obj} (h : Upd w b o w') (hb : B ≤ b) (hB : B ≤ w.heap.size) : Below B w w' :=
  ⟨h.2.os, h.2.tape, h.2.output, h.2.size, fun k hk => h.2.block k (by omega) (by simp; omega)⟩
theorem Upd.size {w w' : World} {b : Nat} {o : Obj} (h : Upd w b o w') : w.heap.size ≤ w'.heap.size := h.2.size

theorem below_drewN {B : Nat} {a w : World} (h : Below B a w) (n : Nat) : Below B a (w.drewN n) := ⟨h.os, h.tape, h.output, h.size, h.block⟩
theorem below_undrew {B : Nat} {w w' : World} (h : Below B w.drew w') : Below B w w' := ⟨h.os, h.tape, h.output, h.size, h.block⟩
/-- A step that reads, behind a world that is as it was below B. -/
theorem below_reads {B : Nat} {a w w' : World} (h : Below B a w) (k : Below w.heap.size w w') (hB : B ≤ w.heap.size) : Below B a w' := h.trans (k.mono hB)
theorem below_self (w : World) (B : Nat) : Below B w w := Below.refl _ _
theorem below_news {w w' : World} {o : Obj} (h : Below w.heap.size (w.alloc o) w') : Below w.heap.size w w' := ((Below.refl _ w).alloc (Nat.le_refl _) o).trans h

/-- What an array holds behind the store of a row of cells from o on. -/
def spl : Array Value → Nat → List Value → Array Value
  | cs, _, [] => cs
  | cs, o, v :: vs => spl (cs.setIfInBounds o v) (o + 1) vs
theorem Upd.setCells {w : World} {b : Nat} {t : TypeId} {fz : Nat × Nat} : ∀ (vs : List Value) (o : Nat) (cs : Array Value) (w' : World), Upd w b (.cells cs t fz) w' → Upd w b (.cells (spl cs o vs) t fz) (w'.setCells b o vs)
  | [], _, _, _, h => h
  | v :: vs, o, cs, w', h => Upd.setCells vs (o + 1) (cs.setIfInBounds o v) (w'.setCell ⟨b, o, none⟩ v) (h.setCell o v)
theorem spl_get : ∀ (vs : List Value) (o : Nat) (cs : Array Value) (k : Nat), o + vs.length ≤ cs.size → (spl cs o vs)[k]? = if o ≤ k ∧ k < o + vs.length then vs[k - o]? else cs[k]?
  | [], o, cs, k, _ => by simp [spl]; omega
  | v :: vs, o, cs, k, h => by
    simp only [List.length_cons] at h
    rw [spl, spl_get vs (o + 1) _ k (by simp; omega)]
    by_cases h1 : o + 1 ≤ k ∧ k < o + 1 + vs.length
    · rw [if_pos h1, if_pos (by simp; omega), show k - o = (k - (o + 1)) + 1 by omega, List.getElem?_cons_succ]
    · rw [if_neg h1, Array.getElem?_setIfInBounds]
      by_cases h2 : o = k
      · subst h2
        rw [if_pos rfl, if_pos (by omega), if_pos (by simp), Nat.sub_self]
        simp
      · rw [if_neg h2, if_neg (by simp; omega)]
theorem spl_size : ∀ (vs : List Value) (o : Nat) (cs : Array Value), (spl cs o vs).size = cs.size
  | [], _, _ => rfl
  | v :: vs, o, cs => by rw [spl, spl_size vs]; simp
theorem spl_all (vs : List Value) (cs : Array Value) (h : cs.size = vs.length) : spl cs 0 vs = vs.toArray := by
  apply Array.ext_getElem?
  intro k
  rw [spl_get vs 0 cs k (by omega)]
  by_cases hk : k < vs.length
  · rw [if_pos (by omega)]; simp
  · rw [if_neg (by omega), Array.getElem?_eq_none (by omega), Array.getElem?_eq_none (by simp; omega)]
theorem has_range {w : World} {b : Nat} {cs : Array Value} {t : TypeId} {fz : Nat × Nat} (h : w.heap[b]? = some (.cells cs t fz)) (l : List Value) (o : Nat) (hl : ∀ j, j < l.length → cs[o + j]? = l[j]?) : w.rangeAt b o l := by
  intro j v hv
  have hj : j < l.length := by
    rcases Nat.lt_or_ge j l.length with h' | h'
    · exact h'
    · rw [List.getElem?_eq_none h'] at hv; cases hv
  exact has_cell (o + j) h ((hl j hj).trans hv)
theorem has_there {w : World} {b : Nat} {cs : Array Value} {t : TypeId} (h : w.heap[b]? = some (.cells cs t (0, 0))) (o n : Nat) (hn : o + n ≤ cs.size) : w.there b o n :=
  fun j hj => ⟨by rw [has_cell (o + j) h (Array.getElem?_eq_getElem (by omega))]; rfl, has_free h _⟩

/-- A new block, filled by one store. -/
theorem copied (w : World) (Z : Array Value) (t : TypeId) (l : List Value) (hz : Z.size = l.length) :
    ((w.alloc (.cells Z t)).setCells w.heap.size 0 l).heap[w.heap.size]? = some (.cells l.toArray t (0, 0)) ∧ Below w.heap.size w ((w.alloc (.cells Z t)).setCells w.heap.size 0 l) := by
  have U := Upd.setCells (fz := (0, 0)) l 0 Z _ (Upd.refl (heap_alloc_new w (.cells Z t)))
  rw [spl_all l Z hz] at U
  exact ⟨U.1, ((Below.refl _ w).alloc (Nat.le_refl _) _).trans (U.below (Nat.le_refl _) (by simp))⟩

/-- Names the world where the walk stands. -/
theorem upd_wp {P : Program} {c : Code} {Q : Exit → Act → World → Prop} {a : Act} {w0 w : World} {b : Nat} {o : Obj} (U : Upd w0 b o w) (h : ∀ W, Upd w0 b o W → c.wp P Q a W) : c.wp P Q a w := h w U
theorem world_wp {P : Program} {c : Code} {Q : Exit → Act → World → Prop} {a : Act} {w : World} (S : World → Prop) (U : S w) (h : ∀ W, S W → c.wp P Q a W) : c.wp P Q a w := h w U
theorem calls_world {P : Program} {f : FuncId} {a : Array Value} {w : World} {R : Ending → World → Prop} (S : World → Prop) (U : S w) (h : ∀ W, S W → Calls P f a W R) : Calls P f a w R := h w U
theorem quiet_left {P : Program} {f : FuncId} {args : Array Value} {w : World} {n : Nat} {v : Value}
    (h : Calls P f args (w.drewN n) fun e w' => e = .returned v ∧ w.drewN n = w') : Calls P f args (w.drewN n) fun e w'' => e = .returned v ∧ ∃ m, w'' = w.drewN m :=
  h.mono fun _ _ ⟨he, hm⟩ => ⟨he, n, hm.symm⟩
theorem below_alloc_has {w : World} {b : Nat} {o x : Obj} (h : w.heap[b]? = some x) : (w.alloc o).heap[b]? = some x := (Below.heap_alloc w o b (has_lt h)).trans h
/-- Behind a step blocks b and c may have turned; every other block that was there is as it was. -/
structure Upd2 (w : World) (b c : Nat) (w' : World) : Prop where
  os : w'.os = w.os
  tape : w'.tape = w.tape
  output : w'.output = w.output
  size : w.heap.size ≤ w'.heap.size
  block : ∀ k, k < w.heap.size → k ≠ b → k ≠ c → w'.heap[k]? = w.heap[k]?
theorem Upd2.refl (w : World) (b c : Nat) : Upd2 w b c w := ⟨rfl, rfl, rfl, Nat.le_refl _, fun _ _ _ _ => rfl⟩
theorem Upd2.left {w w1 w2 : World} {b c : Nat} {o : Obj} (h : Upd2 w b c w1) (k : Upd w1 b o w2) : Upd2 w b c w2 :=
  ⟨k.2.os.trans h.os, k.2.tape.trans h.tape, k.2.output.trans h.output, Nat.le_trans h.size k.2.size, fun i hi h1 h2 => (k.2.block i (Nat.lt_of_lt_of_le hi h.size) (by simpa using h1)).trans (h.block i hi h1 h2)⟩
theorem Upd2.right {w w1 w2 : World} {b c : Nat} {o : Obj} (h : Upd2 w b c w1) (k : Upd w1 c o w2) : Upd2 w b c w2 :=
  ⟨k.2.os.trans h.os, k.2.tape.trans h.tape, k.2.output.trans h.output, Nat.le_trans h.size k.2.size, fun i hi h1 h2 => (k.2.block i (Nat.lt_of_lt_of_le hi h.size) (by simpa using h2)).trans (h.block i hi h1 h2)⟩
theorem Upd2.newer {w w1 w2 : World} {b c d : Nat} {o : Obj} (h : Upd2 w b c w1) (k : Upd w1 d o w2) (hd : w.heap.size ≤ d) : Upd2 w b c w2 :=
  ⟨k.2.os.trans h.os, k.2.tape.trans h.tape, k.2.output.trans h.output, Nat.le_trans h.size k.2.size, fun i hi h1 h2 => (k.2.block i (Nat.lt_of_lt_of_le hi h.size) (by simp; omega)).trans (h.block i hi h1 h2)⟩
theorem Upd2.reads {w w1 w2 : World} {b c : Nat} (h : Upd2 w b c w1) (k : Below w1.heap.size w1 w2) : Upd2 w b c w2 :=
  ⟨k.os.trans h.os, k.tape.trans h.tape, k.output.trans h.output, Nat.le_trans h.size k.size, fun i hi h1 h2 => (k.block i (Nat.lt_of_lt_of_le hi h.size)).trans (h.block i hi h1 h2)⟩
theorem Upd2.drew {w w1 : World} {b c : Nat} (h : Upd2 w b c w1) : Upd2 w b c w1.drew := ⟨h.os, h.tape, h.output, h.size, h.block⟩
theorem Upd2.trans {w w1 w2 : World} {b c : Nat} (h : Upd2 w b c w1) (k : Upd2 w1 b c w2) : Upd2 w b c w2 :=
  ⟨k.os.trans h.os, k.tape.trans h.tape, k.output.trans h.output, Nat.le_trans h.size k.size, fun i hi h1 h2 => (k.block i (Nat.lt_of_lt_of_le hi h.size) h1 h2).trans (h.block i hi h1 h2)⟩
theorem Upd2.below {w w' : World} {b c B : Nat} (h : Upd2 w b c w') (hb : B ≤ b) (hc : B ≤ c) (hB : B ≤ w.heap.size) : Below B w w' :=
  ⟨h.os, h.tape, h.output, h.size, fun k hk => h.block k (by omega) (by omega) (by omega)⟩
theorem Upd2.other {w w' : World} {b c d : Nat} {x : Obj} (h : Upd2 w b c w') (hd : w.heap[d]? = some x) (h1 : d ≠ b) (h2 : d ≠ c) : w'.heap[d]? = some x := (h.block d (has_lt hd) h1 h2).trans hd
theorem range_drewN {w : World} {b o : Nat} {cs : List Value} (h : w.rangeAt b o cs) (n : Nat) : (w.drewN n).rangeAt b o cs := h
/-- The load of a long array or struct in a region that only reads. -/
theorem quiet_load_mid {P : Program} {op : Oper} {a : Act} {K : Act → Prop} {w : World} (ty : TypeId) (x : Operand) (ho : op.op = .load ty x) (b o : Nat) (hx : a.eval x = .pointer (some ⟨b, o, none⟩)) (cs : List Value) (d : TypeDesc)
    (hc : w.rangeAt b o cs) (hu : P.underlying ty = some d) (hd : d.isRow = true) (hi : (P.info? ty).map (·.size) = some cs.length) (hk : K (a.put op.dst (.agg cs.toArray))) : op.quiet P a (fun w' => ∃ n, w' = w.drewN n) K :=
  ⟨_, fun w' ⟨n, hn⟩ => by
    subst hn
    unfold Oper.quietAt execOp
    simp only [ho, hx, Instr.loadAt, Instr.sureAddr, Sem.run_bind, Sem.run_pure, Result.andThen_ok, run_loadVar_mid (w.drewN n) b o ty cs d (range_drewN hc n) hu hd hi]
    exact ⟨rfl, rfl⟩, hk⟩
theorem still_tail {P : Program} {id : Nat} {Q : Exit → Act → World → Prop} {a : Act} {w : World} {l : List Oper} (n : Nat) (hm : P.follows .mixedOrders = true) (hB : Region.lexTailB .any l.toArray n = true)
    (h : wpStill P l.toArray w.drew (fun a' => wpList P l.toArray Q (l.drop n) a' w.drew) (l.take n) a) : (Code.region id l.toArray true).wp P Q a w := wp_region_still_tail n hm hB h
end Go.Proofs.YtagmlijhgncklaaGreatDoor
namespace Go.Proofs.YtagmlijhgncklaaGreatDoor

def rowsF (f : Nat → List Value) (m : Nat) : List Value := match m with
  | 0 => []
  | m + 1 => rowsF f m ++ f m
theorem rowsF_length {f : Nat → List Value} {c : Nat} (h : ∀ i, (f i).length = c) : ∀ m, (rowsF f m).length = m * c
  | 0 => by simp [rowsF]
  | m + 1 => by rw [rowsF, List.length_append, rowsF_length h m, h, Nat.succ_mul]
theorem idx_lt {i j c m : Nat} (hi : i < m) (hj : j < c) : i * c + j < m * c := by
  have h1 : (i + 1) * c ≤ m * c := Nat.mul_le_mul_right _ hi
  rw [Nat.succ_mul] at h1
  omega
theorem rowsF_get {f : Nat → List Value} {c : Nat} (h : ∀ i, (f i).length = c) {i j : Nat} (hj : j < c) : ∀ {m : Nat}, i < m → (rowsF f m)[i * c + j]? = (f i)[j]?
  | 0, hi => absurd hi (Nat.not_lt_zero _)
  | m + 1, hi => by
    rw [rowsF, List.getElem?_append, rowsF_length h]
    by_cases e : i = m
    · subst e
      rw [if_neg (by omega)]
      congr 1
      omega
    · have := idx_lt (c := c) (j := j) (show i < m by omega) hj
      rw [if_pos this]
      exact rowsF_get h hj (by omega)
theorem rowsF_congr {f g : Nat → List Value} : ∀ {m : Nat}, (∀ i, i < m → f i = g i) → rowsF f m = rowsF g m
  | 0, _ => rfl
  | m + 1, h => by rw [rowsF, rowsF, rowsF_congr (fun i hi => h i (by omega)), h m (by omega)]
theorem rowsF_set {f g : Nat → List Value} {c : Nat} (h : ∀ i, (f i).length = c) {i j : Nat} {x : Value} (hj : j < c) (hg : g i = (f i).set j x) (hn : ∀ k, k ≠ i → g k = f k) : ∀ {m : Nat}, i < m → (rowsF f m).set (i * c + j) x = rowsF g m
  | 0, hi => absurd hi (Nat.not_lt_zero _)
  | m + 1, hi => by
    rw [rowsF, rowsF]
    by_cases e : i = m
    · subst e
      rw [List.set_append_right _ _ (by rw [rowsF_length h]; omega), rowsF_length h, hg]
      congr 1
      · exact rowsF_congr (fun k hk => (hn k (by omega)).symm)
      · congr 1
        omega
    · have := idx_lt (c := c) (j := j) (show i < m by omega) hj
      rw [List.set_append_left _ _ (by rw [rowsF_length h]; exact this), rowsF_set h hj hg hn (by omega), hn m (fun e' => e e'.symm)]
theorem rowsF_inj {f g : Nat → List Value} {c : Nat} (h : ∀ i, (f i).length = c) (h' : ∀ i, (g i).length = c) : ∀ {m : Nat}, rowsF f m = rowsF g m → ∀ i, i < m → f i = g i
  | 0, _, i, hi => absurd hi (Nat.not_lt_zero _)
  | m + 1, e, i, hi => by
    rw [rowsF, rowsF] at e
    obtain ⟨e1, e2⟩ := List.append_inj e (by rw [rowsF_length h, rowsF_length h'])
    by_cases k : i = m
    · subst k; exact e2
    · exact rowsF_inj h h' e1 i (by omega)
theorem rowsF_all {f : Nat → List Value} {p : Value → Prop} (h : ∀ i v, v ∈ f i → p v) : ∀ m v, v ∈ rowsF f m → p v
  | 0, v, hv => by cases hv
  | m + 1, v, hv => by
    rw [rowsF] at hv
    rcases List.mem_append.1 hv with hv | hv
    · exact rowsF_all h m v hv
    · exact h m v hv
/-- Rows of one number each. -/
def rowI (f : Nat → Int) (m : Nat) : List Value := rowsF (fun i => [.int .i64 (f i)]) m
theorem rowI_length (f : Nat → Int) (m : Nat) : (rowI f m).length = m := by rw [rowI, rowsF_length (c := 1) (fun _ => rfl), Nat.mul_one]
theorem rowI_get (f : Nat → Int) {i m : Nat} (hi : i < m) : (rowI f m)[i]? = some (.int .i64 (f i)) := by
  have := rowsF_get (f := fun i => [.int .i64 (f i)]) (c := 1) (fun _ => rfl) (j := 0) (by decide) hi
  rw [Nat.mul_one, Nat.add_zero] at this
  exact this
theorem rowI_set (f : Nat → Int) (x : Int) {i m : Nat} (hi : i < m) : (rowI f m).set i (.int .i64 x) = rowI (fun k => if k = i then x else f k) m := by
  have := rowsF_set (f := fun i => [.int .i64 (f i)]) (g := fun k => [.int .i64 (if k = i then x else f k)]) (c := 1) (fun _ => rfl) (j := 0) (x := .int .i64 x) (by decide) (by simp) (fun k hk => by simp [hk]) hi
  rw [Nat.mul_one, Nat.add_zero] at this
  exact this
theorem rowI_inj {f g : Nat → Int} {m : Nat} (h : rowI f m = rowI g m) (i : Nat) (hi : i < m) : f i = g i := by
  have := rowsF_inj (c := 1) (fun _ => rfl) (fun _ => rfl) h i hi
  injection this with this
  injection this
theorem rowI_congr {f g : Nat → Int} {m : Nat} (h : ∀ i, i < m → f i = g i) : rowI f m = rowI g m := rowsF_congr (fun i hi => by rw [h i hi])
theorem rowI_one (f : Nat → Int) (m : Nat) : ∀ v ∈ rowI f m, v.oneCell' = true := rowsF_all (fun i v hv => by rw [List.mem_singleton] at hv; subst hv; rfl) m
end Go.Proofs.YtagmlijhgncklaaGreatDoor
namespace Go.Proofs.YtagmlijhgncklaaGreatDoor.Key

/-- Where a thread that ends stands: which going through, the key that is met next, whether something was handed in it, whether it is over. -/
structure En where
  round : Nat
  at_ : Nat
  some_ : Bool
  over : Bool
def firstFrom (live : Nat → Bool) (a n : Nat) : Option Nat := (List.range n).find? fun i => decide (a ≤ i) && live i
theorem first_some {live : Nat → Bool} {a n i : Nat} (h : firstFrom live a n = some i) : a ≤ i ∧ i < n ∧ live i = true ∧ ∀ j, a ≤ j → j < i → live j = false := by
  unfold firstFrom at h
  rw [List.find?_eq_some_iff_getElem] at h
  obtain ⟨hp, j, hj, he, hb⟩ := h
  simp at hj he hp
  subst he
  refine ⟨hp.1, hj, hp.2, fun k hk1 hk2 => ?_⟩
  have := hb k hk2
  simp [hk1] at this
  exact this
theorem first_none {live : Nat → Bool} {a n : Nat} (h : firstFrom live a n = none) (j : Nat) (h1 : a ≤ j) (h2 : j < n) : live j = false := by
  unfold firstFrom at h
  rw [List.find?_eq_none] at h
  have := h j (by simpa using h2)
  simp [h1] at this
  exact this
theorem first_of {live : Nat → Bool} {a n i : Nat} (h1 : a ≤ i) (h2 : i < n) (h3 : live i = true) (h4 : ∀ j, a ≤ j → j < i → live j = false) : firstFrom live a n = some i := by
  cases h : firstFrom live a n with
  | none => have := first_none h i h1 h2; rw [h3] at this; cases this
  | some k =>
    obtain ⟨k1, k2, k3, k4⟩ := first_some h
    rcases Nat.lt_trichotomy k i with e | e | e
    · have := h4 k k1 e; rw [k3] at this; cases this
    · rw [e]
    · have := k4 i h1 e; rw [h3] at this; cases this
theorem first_not {live : Nat → Bool} {a n : Nat} (h : ∀ j, a ≤ j → j < n → live j = false) : firstFrom live a n = none := by
  cases hf : firstFrom live a n with
  | none => rfl
  | some k =>
    obtain ⟨k1, k2, k3, _⟩ := first_some hf
    have := h k k1 k2; rw [k3] at this; cases this
theorem first_skip {live : Nat → Bool} {a n : Nat} (h : live a = false) : firstFrom live a n = firstFrom live (a + 1) n := by
  cases hf : firstFrom live (a + 1) n with
  | none => exact first_not (fun j h1 h2 => by
      by_cases e : j = a
      · subst e; exact h
      · exact first_none hf j (by omega) h2)
  | some k =>
    obtain ⟨k1, k2, k3, k4⟩ := first_some hf
    exact first_of (by omega) k2 k3 (fun j h1 h2 => by
      by_cases e : j = a
      · subst e; exact h
      · exact k4 j (by omega) h2)
/-- What Next leaves, and which key's destructor it tells. -/
def nextF (n : Nat) (live : Nat → Bool) (e : En) : En × Option Nat :=
  if e.over = true then (e, none) else
  match firstFrom live e.at_ n with
  | some i => (⟨e.round, i + 1, true, false⟩, some i)
  | none =>
    if e.some_ = false ∨ e.round = 4 then (⟨e.round, max e.at_ n, e.some_, true⟩, none) else
    match firstFrom live 0 n with
    | some i => (⟨e.round + 1, i + 1, true, false⟩, some i)
    | none => (⟨e.round + 1, n, false, true⟩, none)
section
variable {n : Nat} {live : Nat → Bool} {r a : Nat} {s : Bool}
theorem next_over : nextF n live ⟨r, a, s, true⟩ = (⟨r, a, s, true⟩, none) := by simp [nextF]
theorem next_here (h1 : a < n) (h2 : live a = true) : nextF n live ⟨r, a, s, false⟩ = (⟨r, a + 1, true, false⟩, some a) := by
  simp [nextF, first_of (Nat.le_refl a) h1 h2 (fun j h3 h4 => by omega)]
theorem next_skip (h1 : a < n) (h2 : live a = false) : nextF n live ⟨r, a, s, false⟩ = nextF n live ⟨r, a + 1, s, false⟩ := by
  have e : max a n = max (a + 1) n := by omega
  simp only [nextF, first_skip h2, e, Bool.false_eq_true, if_false]
theorem next_end (h1 : n ≤ a) (h2 : s = false ∨ r = 4) : nextF n live ⟨r, a, s, false⟩ = (⟨r, a, s, true⟩, none) := by
  simp [nextF, first_not (live := live) (a := a) (n := n) (fun j h3 h4 => by omega), h2, show max a n = a by omega]
theorem next_round (h1 : n ≤ a) (h2 : s = true) (h3 : r ≠ 4) : nextF n live ⟨r, a, s, false⟩ = nextF n live ⟨r + 1, 0, false, false⟩ := by
  subst h2
  simp only [nextF, first_not (live := live) (a := a) (n := n) (fun j h4 h5 => by omega), Bool.false_eq_true, if_false, Bool.true_eq_false, h3, or_self, true_or, if_true]
  cases firstFrom live 0 n with
  | none => simp
  | some i => rfl
end
/-- How an ending stands behind so many calls: the going through, the key that was met last. -/
structure Ends (n : Nat) (e : En) (calls round last : Nat) : Prop where
  h : (calls = 0 ∧ round = 0 ∧ last = 8 ∧ e = ⟨0, 0, false, false⟩) ∨
    (1 ≤ calls ∧ 1 ≤ round ∧ round ≤ 4 ∧ e = ⟨round, last + 1, true, false⟩ ∧ last < n ∧ calls ≤ (round - 1) * n + last + 1)
theorem ends_bound {n : Nat} {e : En} {calls round last : Nat} (h : Ends n e calls round last) : calls ≤ 4 * n := by
  rcases h.h with ⟨rfl, _⟩ | ⟨_, h1, h2, _, h3, h4⟩
  · omega
  · have : (round - 1) * n ≤ 3 * n := Nat.mul_le_mul_right _ (by omega)
    omega
theorem ends_step {n : Nat} {live : Nat → Bool} {e e' : En} {calls round last i : Nat} (hn : n ≤ 8) (h : Ends n e calls round last) (hN : nextF n live ⟨max e.round 1, e.at_, e.some_, e.over⟩ = (e', some i)) :
    i < n ∧ live i = true ∧ Ends n e' (calls + 1) (if i ≤ last then round + 1 else round) i ∧ e'.round = (if i ≤ last then round + 1 else round) ∧ (if i ≤ last then round + 1 else round) ≤ 4 := by
  rcases h.h with ⟨rfl, rfl, rfl, rfl⟩ | ⟨h1, h2, h3, rfl, h4, h5⟩
  · simp only [nextF, Bool.false_eq_true, if_false] at hN
    cases hf : firstFrom live 0 n with
    | none => rw [hf] at hN; simp at hN
    | some k =>
      rw [hf] at hN
      simp only [Prod.mk.injEq, Option.some.injEq] at hN
      obtain ⟨rfl, rfl⟩ := hN
      obtain ⟨k1, k2, k3, _⟩ := first_some hf
      rw [if_pos (by omega)]
      exact ⟨k2, k3, ⟨.inr ⟨by omega, by omega, by omega, rfl, k2, by omega⟩⟩, rfl, by omega⟩
  · rw [show max round 1 = round by omega] at hN
    simp only [nextF, Bool.false_eq_true, if_false] at hN
    cases hf : firstFrom live (last + 1) n with
    | some k =>
      rw [hf] at hN
      simp only [Prod.mk.injEq, Option.some.injEq] at hN
      obtain ⟨rfl, rfl⟩ := hN
      obtain ⟨k1, k2, k3, _⟩ := first_some hf
      rw [if_neg (by omega)]
      exact ⟨k2, k3, ⟨.inr ⟨by omega, h2, h3, rfl, k2, by omega⟩⟩, rfl, h3⟩
    | none =>
      rw [hf] at hN
      simp only [Bool.true_eq_false, false_or] at hN
      by_cases h6 : round = 4
      · rw [if_pos h6] at hN; simp at hN
      · rw [if_neg h6] at hN
        cases hg : firstFrom live 0 n with
        | none => rw [hg] at hN; simp at hN
        | some k =>
          rw [hg] at hN
          simp only [Prod.mk.injEq, Option.some.injEq] at hN
          obtain ⟨rfl, rfl⟩ := hN
          obtain ⟨k1, k2, k3, _⟩ := first_some hg
          have hk : k ≤ last := by
            by_cases hk : k ≤ last
            · exact hk
            · have := first_none hf k (by omega) k2
              rw [k3] at this
              cases this
          rw [if_pos hk]
          refine ⟨k2, k3, ⟨.inr ⟨by omega, by omega, by omega, rfl, k2, ?_⟩⟩, rfl, by omega⟩
          have e : (round + 1 - 1) * n = (round - 1) * n + n := by
            rw [show round + 1 - 1 = (round - 1) + 1 by omega, Nat.succ_mul]
          omega
end Go.Proofs.YtagmlijhgncklaaGreatDoor.Key
namespace Go.Proofs.YtagmlijhgncklaaGreatDoor.Inh

/-- For whom a thread waits. -/
def nxt (wt : Nat → Int) (t : Nat) : Option Nat := if 0 ≤ wt t then some (wt t).toNat else none
/-- Numbers that are at least one's own, and never less than those of who waits. -/
def Pre (n : Nat) (own wt : Nat → Int) (f : Nat → Int) : Prop := (∀ t, t < n → own t ≤ f t) ∧ ∀ t w, t < n → nxt wt t = some w → f t ≤ f w
def Low (n : Nat) (own wt : Nat → Int) (l : Nat → Int) : Prop := ∀ f, Pre n own wt f → ∀ t, t < n → l t ≤ f t
def Least (n : Nat) (own wt : Nat → Int) (l : Nat → Int) : Prop := Pre n own wt l ∧ Low n own wt l
def Fine (n : Nat) (wt : Nat → Int) : Prop := ∀ t, t < n → -1 ≤ wt t ∧ wt t < n
def upd (l : Nat → Int) (i : Nat) (x : Int) : Nat → Int := fun j => if j = i then x else l j
theorem nxt_lt {n : Nat} {wt : Nat → Int} (h : Fine n wt) {t w : Nat} (ht : t < n) (hw : nxt wt t = some w) : w < n ∧ wt t = (w : Int) := by
  unfold nxt at hw
  split at hw
  · cases hw
    have := h t ht
    omega
  · cases hw
theorem least_unique {n : Nat} {own wt l m : Nat → Int} (h : Least n own wt l) (k : Least n own wt m) (t : Nat) (ht : t < n) : l t = m t :=
  Int.le_antisymm (h.2 m k.1 t ht) (k.2 l h.1 t ht)
theorem low_own {n : Nat} {own wt : Nat → Int} : Low n own wt own := fun _ hf t ht => hf.1 t ht
/-- Raising along an edge keeps the numbers low. -/
theorem low_raise {n : Nat} {own wt l : Nat → Int} (h : Low n own wt l) {a w : Nat} (ha : a < n) (hw : nxt wt a = some w) : Low n own wt (upd l w (l a)) := by
  intro f hf t ht
  unfold upd
  split
  · rename_i e
    subst e
    exact Int.le_trans (h f hf a ha) (hf.2 a t ha hw)
  · exact h f hf t ht
theorem low_same {n : Nat} {own wt l m : Nat → Int} (h : Low n own wt l) (e : ∀ t, t < n → m t = l t) : Low n own wt m := fun f hf t ht => by rw [e t ht]; exact h f hf t ht

/-- After k steps. -/
def stepsTo (wt : Nat → Int) : Nat → Nat → Option Nat
  | 0, s => some s
  | k + 1, s => (stepsTo wt k s).bind (nxt wt)
theorem steps_lt {n : Nat} {wt : Nat → Int} (h : Fine n wt) {s : Nat} (hs : s < n) : ∀ {k t : Nat}, stepsTo wt k s = some t → t < n
  | 0, t, e => by cases e; exact hs
  | k + 1, t, e => by
    simp only [stepsTo] at e
    cases hk : stepsTo wt k s with
    | none => rw [hk] at e; cases e
    | some a => rw [hk] at e; exact (nxt_lt h (steps_lt h hs hk) e).1
theorem steps_add (wt : Nat → Int) (s : Nat) (j : Nat) : ∀ k, stepsTo wt (j + k) s = (stepsTo wt j s).bind (stepsTo wt k)
  | 0 => by simp [stepsTo]
  | k + 1 => by
    rw [show j + (k + 1) = (j + k) + 1 by omega]
    simp only [stepsTo, steps_add wt s j k]
    cases stepsTo wt j s <;> rfl
/-- Each of the least numbers is one's own of a thread from which a row of waiting ones leads there. -/
theorem least_origin {n : Nat} {own wt l : Nat → Int} (hf : Fine n wt) (h : Least n own wt l) (t : Nat) (ht : t < n) : ∃ s k, s < n ∧ stepsTo wt k s = some t ∧ own s = l t := by
  have hup : ∀ (k s u : Nat), s < n → stepsTo wt k s = some u → l s ≤ l u := by
    intro k
    induction k with
    | zero => intro s u _ e; cases e; exact Int.le_refl _
    | succ k ih =>
      intro s u hs e
      simp only [stepsTo] at e
      cases hk : stepsTo wt k s with
      | none => rw [hk] at e; cases e
      | some a => rw [hk] at e; exact Int.le_trans (ih s a hs hk) (h.1.2 a u (steps_lt hf hs hk) e)
  classical
  let good : Nat → Prop := fun u => ∃ s k, s < n ∧ stepsTo wt k s = some u ∧ l u ≤ own s
  have hP : Pre n own wt (fun u => if good u then l u else l u - 1) := by
    refine ⟨fun u hu => ?_, fun u w hu hw => ?_⟩
    · show own u ≤ if good u then l u else l u - 1
      split
      · exact h.1.1 u hu
      · rename_i hg
        have h1 := h.1.1 u hu
        have h2 : ¬ l u ≤ own u := fun e => hg ⟨u, 0, hu, rfl, e⟩
        omega
    · show (if good u then l u else l u - 1) ≤ if good w then l w else l w - 1
      have h1 := h.1.2 u w hu hw
      split
      · rename_i hg
        obtain ⟨s, k, hs, hk, ho⟩ := hg
        split
        · exact h1
        · rename_i hn
          have : ¬ l w ≤ own s := fun e => hn ⟨s, k + 1, hs, by simp only [stepsTo, hk]; exact hw, e⟩
          omega
      · split <;> omega
  have := h.2 _ hP t ht
  have hg : good t := by
    by_cases hg : good t
    · exact hg
    · simp only [hg, if_false] at this
      omega
  obtain ⟨s, k, hs, hk, ho⟩ := hg
  exact ⟨s, k, hs, hk, Int.le_antisymm (Int.le_trans (h.1.1 s hs) (hup k s t hs hk)) ho⟩
/-- Numbers below n, more than n of them: two are the same. -/
theorem pigeon : ∀ (n : Nat) (f : Nat → Nat), (∀ i, i ≤ n → f i < n) → ∃ i j, i < j ∧ j ≤ n ∧ f i = f j
  | 0, f, h => absurd (h 0 (Nat.le_refl _)) (Nat.not_lt_zero _)
  | n + 1, f, h => by
    by_cases hx : ∃ i, i ≤ n ∧ f i = f (n + 1)
    · obtain ⟨i, hi, e⟩ := hx
      exact ⟨i, n + 1, by omega, Nat.le_refl _, e⟩
    · have hne : ∀ i, i ≤ n → f i ≠ f (n + 1) := fun i hi e => hx ⟨i, hi, e⟩
      obtain ⟨i, j, hij, hj, e⟩ := pigeon n (fun i => if f i < f (n + 1) then f i else f i - 1) (fun i hi => by
        have h1 := h i (by omega)
        have h2 := h (n + 1) (Nat.le_refl _)
        have h3 := hne i hi
        show (if f i < f (n + 1) then f i else f i - 1) < n
        split <;> omega)
      refine ⟨i, j, hij, by omega, ?_⟩
      have h1 := hne i (by omega)
      have h2 := hne j hj
      split at e <;> split at e <;> omega
/-- The shortest way there has less than n steps. -/
theorem short_way {n : Nat} {wt : Nat → Int} (hf : Fine n wt) {s t : Nat} (hs : s < n) : ∀ (k : Nat), stepsTo wt k s = some t → ∃ j, j < n ∧ j ≤ k ∧ stepsTo wt j s = some t := by
  intro k
  induction k using Nat.strongRecOn with
  | _ k ih =>
    intro hk
    by_cases hkn : k < n
    · exact ⟨k, hkn, Nat.le_refl _, hk⟩
    · have hpre : ∀ i, i ≤ k → ∃ u, stepsTo wt i s = some u ∧ stepsTo wt (k - i) u = some t := by
        intro i hi
        have e := steps_add wt s i (k - i)
        rw [show i + (k - i) = k by omega, hk] at e
        cases hu : stepsTo wt i s with
        | none => rw [hu] at e; cases e
        | some u => rw [hu] at e; exact ⟨u, rfl, e.symm⟩
      obtain ⟨i, j, hij, hj, e⟩ := pigeon n (fun i => (stepsTo wt i s).getD 0) (fun i hi => by
        obtain ⟨u, hu, _⟩ := hpre i (by omega)
        show (stepsTo wt i s).getD 0 < n
        rw [hu]
        exact steps_lt hf hs hu)
      obtain ⟨u, hu, hu2⟩ := hpre i (by omega)
      obtain ⟨v, hv, hv2⟩ := hpre j (by omega)
      simp only [hu, hv, Option.getD_some] at e
      subst e
      have hk' : stepsTo wt (i + (k - j)) s = some t := by rw [steps_add, hu]; exact hv2
      obtain ⟨m, h1, h2, h3⟩ := ih (i + (k - j)) (by omega) hk'
      exact ⟨m, h1, by omega, h3⟩
/-- Greater own numbers and more that wait make the least numbers no less. -/
theorem least_mono {n : Nat} {own own' wt wt' l l' : Nat → Int} (h : Least n own wt l) (k : Least n own' wt' l') (ho : ∀ t, t < n → own t ≤ own' t) (hw : ∀ t w, t < n → nxt wt t = some w → nxt wt' t = some w) (t : Nat) (ht : t < n) : l t ≤ l' t :=
  h.2 l' ⟨fun u hu => Int.le_trans (ho u hu) (k.1.1 u hu), fun u w hu e => k.1.2 u w hu (hw u w hu e)⟩ t ht
/-- Who is in no ring and stops waiting keeps its number. -/
theorem least_stop {n : Nat} {own wt l l' : Nat → Int} {t : Nat} (hf : Fine n wt) (h : Least n own wt l) (k : Least n own (upd wt t (-1)) l') (ht : t < n) (hr : ∀ j, stepsTo wt (j + 1) t ≠ some t) : l t ≤ l' t := by
  obtain ⟨s, j, hs, hj, ho⟩ := least_origin hf h t ht
  have key : ∀ i u, stepsTo wt i s = some u → (∃ d, stepsTo wt d u = some t) → stepsTo (upd wt t (-1)) i s = some u := by
    intro i
    induction i with
    | zero => intro u e _; exact e
    | succ i ih =>
      intro u e hd
      obtain ⟨d, hd⟩ := hd
      simp only [stepsTo] at e ⊢
      cases ha : stepsTo wt i s with
      | none => rw [ha] at e; cases e
      | some a =>
        rw [ha] at e
        have e : nxt wt a = some u := e
        have hda : stepsTo wt (1 + d) a = some t := by
          rw [steps_add]
          simp only [stepsTo, Option.bind_some, e]
          exact hd
        have hat : a ≠ t := by
          rintro rfl
          exact hr d (by rw [show d + 1 = 1 + d by omega]; exact hda)
        rw [ih a ha ⟨1 + d, hda⟩]
        show nxt (upd wt t (-1)) a = some u
        unfold nxt upd at *
        rw [if_neg hat]
        exact e
  have hj' := key j t hj ⟨0, rfl⟩
  have hup : ∀ (m a u : Nat), a < n → stepsTo (upd wt t (-1)) m a = some u → l' a ≤ l' u := by
    have hf' : Fine n (upd wt t (-1)) := fun i hi => by
      unfold upd
      have := hf i hi
      split <;> omega
    intro m
    induction m with
    | zero => intro a u _ e; cases e; exact Int.le_refl _
    | succ m ih =>
      intro a u ha e
      simp only [stepsTo] at e
      cases hk : stepsTo (upd wt t (-1)) m a with
      | none => rw [hk] at e; cases e
      | some b => rw [hk] at e; exact Int.le_trans (ih a b ha hk) (k.1.2 b u (steps_lt hf' ha hk) e)
  have := hup j s t hs hj'
  have h2 := k.1.1 s hs
  omega
/-! How far the numbers are from the greatest one. -/
def gap (n : Nat) (l : Nat → Int) : Nat := match n with
  | 0 => 0
  | n + 1 => gap n l + (31 - l n).toNat
theorem gap_same {l m : Nat → Int} : ∀ {n : Nat}, (∀ t, t < n → m t = l t) → gap n m = gap n l
  | 0, _ => rfl
  | n + 1, h => by rw [gap, gap, gap_same (fun t ht => h t (by omega)), h n (by omega)]
theorem gap_raise {l : Nat → Int} {w : Nat} {x : Int} (hx : l w < x) (h31 : x ≤ 31) : ∀ {n : Nat}, w < n → gap n (upd l w x) < gap n l
  | 0, h => absurd h (Nat.not_lt_zero _)
  | n + 1, h => by
    rw [gap, gap]
    by_cases e : w = n
    · subst e
      rw [gap_same (l := l) (fun t ht => by unfold upd; rw [if_neg (by omega)])]
      have : upd l w x w = x := by simp [upd]
      rw [this]
      omega
    · have h1 := gap_raise hx h31 (n := n) (by omega)
      have : upd l w x n = l n := by unfold upd; rw [if_neg (by omega)]
      rw [this]
      omega
theorem low_top {n : Nat} {own wt l : Nat → Int} (h : Low n own wt l) (ho : ∀ t, t < n → own t ≤ 31) (t : Nat) (ht : t < n) : l t ≤ 31 := h (fun _ => 31) ⟨ho, fun _ _ _ _ => Int.le_refl _⟩ t ht

/-! The program's way: each thread raises those for whom it waits, one behind the other. -/
def maxF (f g : Nat → Int) : Nat → Int := fun i => max (f i) (g i)
/-- Behind thread number t: what is out is low; threads below t have no less than their own, and raise nobody any more. -/
structure Upto (n : Nat) (own wt out : Nat → Int) (t : Nat) : Prop where
  low : Low n own wt (maxF out own)
  has : ∀ s, s < t → own s ≤ out s
  edge : ∀ s w, s < t → nxt wt s = some w → maxF out own s ≤ maxF out own w
/-- Within thread t's walk up, at thread a. -/
structure Climb (n : Nat) (own wt out : Nat → Int) (t a : Nat) : Prop where
  low : Low n own wt (maxF out own)
  has : ∀ s, s ≤ t → own s ≤ out s
  edge : ∀ s w, s ≤ t → s ≠ a → nxt wt s = some w → maxF out own s ≤ maxF out own w
  at_ : own a ≤ out a
  lt : a < n
theorem upto_zero {n : Nat} {own wt out : Nat → Int} (h : ∀ t, t < n → out t ≤ own t) : Upto n own wt out 0 :=
  ⟨low_same low_own (fun t ht => by have := h t ht; unfold maxF; omega), fun s hs => absurd hs (Nat.not_lt_zero _), fun s w hs => absurd hs (Nat.not_lt_zero _)⟩
theorem max_upd_self (out own : Nat → Int) (t : Nat) : maxF (upd out t (max (out t) (own t))) own = maxF out own := by
  funext i
  unfold maxF upd
  split
  · rename_i e; subst e; omega
  · rfl
theorem climb_start {n : Nat} {own wt out : Nat → Int} {t : Nat} (h : Upto n own wt out t) (ht : t < n) : Climb n own wt (upd out t (max (out t) (own t))) t t := by
  refine ⟨by rw [max_upd_self]; exact h.low, fun s hs => ?_, fun s w hs hne hw => by rw [max_upd_self]; exact h.edge s w (by omega) hw, ?_, ht⟩
  · unfold upd
    split
    · rename_i e; subst e; omega
    · exact h.has s (by omega)
  · simp only [upd, if_true]; omega
theorem climb_end {n : Nat} {own wt out : Nat → Int} {t a : Nat} (h : Climb n own wt out t a) (he : ∀ w, nxt wt a = some w → out a ≤ max (out w) (own w)) : Upto n own wt out (t + 1) := by
  refine ⟨h.low, fun s hs => h.has s (by omega), fun s w hs hw => ?_⟩
  by_cases e : s = a
  · subst e
    have := he w hw
    have := h.at_
    unfold maxF
    omega
  · exact h.edge s w (by omega) e hw
theorem max_upd {out own : Nat → Int} {w : Nat} {x : Int} (h : own w ≤ x) : maxF (upd out w x) own = upd (maxF out own) w x := by
  funext i
  unfold maxF upd
  split
  · rename_i e; subst e; omega
  · rfl
theorem climb_up {n : Nat} {own wt out : Nat → Int} {t a w : Nat} (hf : Fine n wt) (h : Climb n own wt out t a) (hw : nxt wt a = some w) (hlt : max (out w) (own w) < out a) :
    Climb n own wt (upd out w (out a)) t w ∧ maxF (upd out w (out a)) own = upd (maxF out own) w (out a) ∧ maxF out own a = out a := by
  have ha : maxF out own a = out a := by have := h.at_; unfold maxF; omega
  have hm : maxF (upd out w (out a)) own = upd (maxF out own) w (out a) := max_upd (by omega)
  refine ⟨⟨?_, fun s hs => ?_, fun s u hs hne hu => ?_, ?_, (nxt_lt hf h.lt hw).1⟩, hm, ha⟩
  · rw [hm, ← ha]; exact low_raise h.low h.lt hw
  · have := h.has s hs
    unfold upd
    split
    · rename_i e; subst e; omega
    · exact this
  · rw [hm]
    have h1 : upd (maxF out own) w (out a) s = maxF out own s := by unfold upd; rw [if_neg hne]
    rw [h1]
    by_cases e : s = a
    · subst e
      rw [hw] at hu
      cases hu
      simp only [upd, if_true]
      omega
    · have h2 := h.edge s u hs e hu
      unfold upd
      split
      · rename_i e2
        subst e2
        have : maxF out own u = max (out u) (own u) := rfl
        omega
      · exact h2
  · simp only [upd, if_true]; omega
theorem upto_end {n : Nat} {own wt out : Nat → Int} (hf : Fine n wt) (h : Upto n own wt out n) : Least n own wt out := by
  have e : ∀ t, t < n → out t = maxF out own t := fun t ht => by have := h.has t ht; unfold maxF; omega
  refine ⟨⟨h.has, fun t w ht hw => ?_⟩, low_same h.low e⟩
  have h1 := h.edge t w ht hw
  rw [← e t ht] at h1
  rw [← e w (nxt_lt hf ht hw).1] at h1
  exact h1

/-! The document's way: all raise, till nothing changes. -/
structure Pass (n : Nat) (own wt l : Nat → Int) : Prop where
  low : Low n own wt l
  has : ∀ s, s < n → own s ≤ l s
def Edges (wt l : Nat → Int) (t : Nat) : Prop := ∀ s w, s < t → nxt wt s = some w → l s ≤ l w
theorem pass_raise {n : Nat} {own wt l : Nat → Int} (h : Pass n own wt l) {t w : Nat} (ht : t < n) (hw : nxt wt t = some w) (hlt : l w < l t) : Pass n own wt (upd l w (l t)) :=
  ⟨low_raise h.low ht hw, fun s hs => by
    have := h.has s hs
    unfold upd
    split
    · rename_i e; subst e; omega
    · exact this⟩
theorem edges_zero (wt l : Nat → Int) : Edges wt l 0 := fun s w hs => absurd hs (Nat.not_lt_zero _)
theorem edges_next {wt l : Nat → Int} {t : Nat} (h : Edges wt l t) (he : ∀ w, nxt wt t = some w → l t ≤ l w) : Edges wt l (t + 1) := fun s w hs hw => by
  by_cases e : s = t
  · subst e; exact he w hw
  · exact h s w (by omega) hw
theorem pass_end {n : Nat} {own wt l : Nat → Int} (h : Pass n own wt l) (he : Edges wt l n) : Least n own wt l := ⟨⟨h.has, fun t w ht hw => he t w ht hw⟩, h.low⟩
end Go.Proofs.YtagmlijhgncklaaGreatDoor.Inh
namespace Go.Proofs.YtagmlijhgncklaaGreatDoor
open Go.RowKit

/-- A cell's kind: a number, or a bool. -/
inductive Sc | i (k : IntKind) | b
def Sc.fits : Sc → Value → Prop
  | .i k, v => ∃ n, v = .int k n
  | .b, v => ∃ x, v = .bool x
def Fit : List Sc → List Value → Prop
  | [], [] => True
  | s :: ss, v :: vs => s.fits v ∧ Fit ss vs
  | _, _ => False
def eqv : Value → Value → Bool
  | .int _ a, .int _ b => a == b
  | .bool a, .bool b => a == b
  | _, _ => false
def eqs : List Value → List Value → Bool
  | [], [] => true
  | a :: as, b :: bs => eqv a b && eqs as bs
  | _, _ => false
theorem eqv_iff {s : Sc} {a b : Value} (ha : s.fits a) (hb : s.fits b) : eqv a b = true ↔ a = b := by
  cases s with
  | i k => obtain ⟨n, rfl⟩ := ha; obtain ⟨m, rfl⟩ := hb; simp [eqv]
  | b => obtain ⟨n, rfl⟩ := ha; obtain ⟨m, rfl⟩ := hb; simp [eqv]
theorem eqs_iff : ∀ {ss : List Sc} {as bs : List Value}, Fit ss as → Fit ss bs → (eqs as bs = true ↔ as = bs)
  | [], [], [], _, _ => by simp [eqs]
  | s :: ss, a :: as, b :: bs, ha, hb => by
    have h1 := eqv_iff ha.1 hb.1
    have h2 := eqs_iff ha.2 hb.2
    simp [eqs, h1, h2]
  | [], _ :: _, _, ha, _ => ha.elim
  | [], [], _ :: _, _, hb => hb.elim
  | _ :: _, [], _, ha, _ => ha.elim
  | _ :: _, _ :: _, [], _, hb => hb.elim
theorem Fit.len : ∀ {ss : List Sc} {as : List Value}, Fit ss as → as.length = ss.length
  | [], [], _ => rfl
  | _ :: _, _ :: _, h => by simp [Fit.len h.2]
  | [], _ :: _, h => h.elim
  | _ :: _, [], h => h.elim
theorem fit_append : ∀ {s1 s2 : List Sc} {as : List Value}, Fit (s1 ++ s2) as ↔ (Fit s1 (as.take s1.length) ∧ Fit s2 (as.drop s1.length))
  | [], s2, as => by simp [Fit]
  | s :: s1, s2, [] => by simp [Fit]
  | s :: s1, s2, a :: as => by simp [Fit, fit_append (s1 := s1) (s2 := s2) (as := as), and_assoc]
theorem eqs_append : ∀ {n : Nat} {as bs : List Value}, n ≤ as.length → n ≤ bs.length → eqs as bs = (eqs (as.take n) (bs.take n) && eqs (as.drop n) (bs.drop n))
  | 0, as, bs, _, _ => by simp [eqs]
  | n + 1, a :: as, b :: bs, h, h' => by
    simp only [eqs, List.take_succ_cons, List.drop_succ_cons]
    rw [eqs_append (n := n) (by simpa using h) (by simpa using h'), Bool.and_assoc]

/-- The cells of a flat type. -/
def flatFields (P : Program) (fl : TypeId → Option (List Sc)) : List Sc → List Field → Option (List Sc)
  | acc, [] => some acc
  | acc, f :: fs =>
    if f.name = "_" then none else
    match fl f.type, P.info? f.type with
    | some s, some i => if f.offset = acc.length ∧ i.size = s.length then flatFields P fl (acc ++ s) fs else none
    | _, _ => none
def flatAt (P : Program) : Nat → TypeId → Option (List Sc)
  | 0, _ => none
  | d + 1, t =>
    match P.underlying t with
    | some .bool => some [.b]
    | some (.int k) => some [.i k]
    | some (.struct fs) => if P.stoodInHeld t then none else flatFields P (flatAt P d) [] fs.toList
    | some (.array n e) =>
      (match flatAt P d e, P.info? e with
       | some s, some i => if i.size = s.length then some (List.replicate n s).flatten else none
       | _, _ => none)
    | _ => none
def aggT (P : Program) (t : TypeId) : Bool :=
  match P.underlying t with
  | some (.struct _) => true
  | some (.array _ _) => true
  | _ => false
/-- A value has the form of its type. -/
def aggV : Value → Bool
  | .agg _ => true
  | _ => false
def FormV (P : Program) (t : TypeId) (v : Value) : Prop := aggV v = aggT P t

section
variable {P : Program} (w : World)
theorem run_part_flat {d : Nat} {t : TypeId} {s : List Sc} {i : TypeInfo} (hs : flatAt P d t = some s) (hi : P.info? t = some i) (hz : i.size = s.length) (xs : Array Value) (off : Nat) (hf : Fit s ((xs.toList.drop off).take s.length)) :
    ∃ v, (part t xs off).run P w = .ok v w ∧ v.cells.toList = (xs.toList.drop off).take s.length ∧ FormV P t v := by
  cases d with
  | zero => cases hs
  | succ d =>
    unfold flatAt at hs
    cases hu : P.underlying t with
    | none => rw [hu] at hs; cases hs
    | some u =>
      rw [hu] at hs
      have one : ∀ sc : Sc, s = [sc] → aggT P t = false → (isAgg t).run P w = .ok false w → ∃ v, (part t xs off).run P w = .ok v w ∧ v.cells.toList = (xs.toList.drop off).take s.length ∧ FormV P t v := by
        intro sc e hg ha
        subst e
        have hl := hf.len
        have hlt : off < xs.size := by
          simp at hl; omega
        have e1 : (xs.toList.drop off).take 1 = [xs[off]] := by
          rw [List.drop_eq_getElem_cons (by simpa using hlt)]; rfl
        have hf1 : Fit [sc] [xs[off]] := by
          have h1 := hf
          rwa [show ([sc] : List Sc).length = 1 from rfl, e1] at h1
        refine ⟨xs[off], ?_, ?_, ?_⟩
        · simp only [part, Sem.run_bind, ha, Result.andThen_ok, Bool.false_eq_true, if_false, Array.getElem?_eq_getElem hlt, Sem.run_pure]
        rotate_left
        · unfold FormV
          rw [hg]
          cases sc with
          | i k => obtain ⟨⟨n, hn⟩, _⟩ := hf1; rw [hn]; rfl
          | b => obtain ⟨⟨n, hn⟩, _⟩ := hf1; rw [hn]; rfl
        · rw [show ([sc] : List Sc).length = 1 from rfl, e1]
          cases sc with
          | i k => obtain ⟨⟨n, hn⟩, _⟩ := hf1; rw [hn]; rfl
          | b => obtain ⟨⟨n, hn⟩, _⟩ := hf1; rw [hn]; rfl
      have many : aggT P t = true → (isAgg t).run P w = .ok true w → ∃ v, (part t xs off).run P w = .ok v w ∧ v.cells.toList = (xs.toList.drop off).take s.length ∧ FormV P t v := by
        intro hg ha
        refine ⟨.agg (xs.extract off (off + s.length)), ?_, ?_, by rw [FormV, hg]; rfl⟩
        · simp only [part, Sem.run_bind, ha, Result.andThen_ok, if_true, sizeOf, typeInfo, run_program, hi, Sem.run_pure, hz]
        · simp [Value.cells, Array.toList_extract, List.extract_eq_take_drop]
      cases u <;> first
        | (cases hs; done)
        | (exact one _ (by simpa using hs.symm) (by simp [aggT, hu]) (by simp [isAgg, run_underlying hu]))
        | (exact many (by simp [aggT, hu]) (by simp [isAgg, run_underlying hu]))

theorem eq_fields {D : Nat} {fl : TypeId → Option (List Sc)} (xs ys : Array Value)
    (ih : ∀ (t : TypeId) (s : List Sc) (i : TypeInfo) (off : Nat), fl t = some s → P.info? t = some i → i.size = s.length → Fit s ((xs.toList.drop off).take s.length) → Fit s ((ys.toList.drop off).take s.length) →
      ∃ u v, (part t xs off).run P w = .ok u w ∧ (part t ys off).run P w = .ok v w ∧ (Op.equalIn D t u v).run P w = .ok (eqs ((xs.toList.drop off).take s.length) ((ys.toList.drop off).take s.length)) w) :
    ∀ (fs : List Field) (acc s : List Sc), flatFields P fl acc fs = some s → Fit s xs.toList → Fit s ys.toList → eqs (xs.toList.take acc.length) (ys.toList.take acc.length) = true →
      (Op.eqFields D xs ys fs).run P w = .ok (eqs xs.toList ys.toList) w
  | [], acc, s, h, hx, hy, he => by
    simp only [flatFields, Option.some.injEq] at h
    subst h
    have lx : xs.toList.length ≤ acc.length := Nat.le_of_eq hx.len
    have ly : ys.toList.length ≤ acc.length := Nat.le_of_eq hy.len
    rw [List.take_of_length_le lx, List.take_of_length_le ly] at he
    simp [Op.eqFields, he]
  | f :: fs, acc, s, h, hx, hy, he => by
    unfold flatFields at h
    split at h
    · cases h
    rename_i hn
    split at h
    case h_2 => cases h
    rename_i sf i hfl hi
    split at h
    case isFalse => cases h
    rename_i hoff
    obtain ⟨ho, hz⟩ := hoff
    -- the rest's cells are behind
    have hpre : ∃ rest, s = (acc ++ sf) ++ rest := by
      clear he hx hy
      have gen : ∀ (fs : List Field) (acc s : List Sc), flatFields P fl acc fs = some s → ∃ rest, s = acc ++ rest := by
        intro fs
        induction fs with
        | nil => intro acc s h; simp [flatFields] at h; exact ⟨[], by simp [h]⟩
        | cons g gs ihg =>
          intro acc s h
          unfold flatFields at h
          split at h
          · cases h
          split at h
          case h_2 => cases h
          split at h
          case isFalse => cases h
          obtain ⟨r, hr⟩ := ihg _ _ h
          exact ⟨_, hr.trans (List.append_assoc _ _ _)⟩
      exact gen _ _ _ h
    obtain ⟨rest, hs⟩ := hpre
    have fx : Fit sf ((xs.toList.drop acc.length).take sf.length) := by
      have h1 := hx
      rw [hs, List.append_assoc] at h1
      exact (fit_append.1 (fit_append.1 h1).2).1
    have fy : Fit sf ((ys.toList.drop acc.length).take sf.length) := by
      have h1 := hy
      rw [hs, List.append_assoc] at h1
      exact (fit_append.1 (fit_append.1 h1).2).1
    obtain ⟨u, v, hu, hv, hr⟩ := ih f.type sf i acc.length hfl hi hz fx fy
    have lx : acc.length + sf.length ≤ xs.toList.length := by rw [hx.len, hs]; simp
    have ly : acc.length + sf.length ≤ ys.toList.length := by rw [hy.len, hs]; simp
    simp only [Op.eqFields, ne_eq, hn, not_false_eq_true, if_true, Sem.run_bind, ho, hu, hv, hr, Result.andThen_ok]
    cases hb : eqs ((xs.toList.drop acc.length).take sf.length) ((ys.toList.drop acc.length).take sf.length) with
    | true =>
      simp only [Bool.not_true, Bool.false_eq_true, if_false]
      refine eq_fields xs ys ih fs (acc ++ sf) s h hx hy ?_
      rw [List.length_append, eqs_append (n := acc.length) (by rw [List.length_take]; omega) (by rw [List.length_take]; omega)]
      rw [List.take_take, List.take_take, Nat.min_eq_left (by omega), he, Bool.true_and, List.drop_take, List.drop_take, Nat.add_sub_cancel_left]
      exact hb
    | false =>
      simp only [Bool.not_false, if_true, Sem.run_pure]
      congr 1
      rw [eqs_append (n := acc.length) (as := xs.toList) (bs := ys.toList) (by omega) (by omega)]
      rw [eqs_append (n := sf.length) (as := xs.toList.drop acc.length) (bs := ys.toList.drop acc.length) (by simp at lx ⊢; omega) (by simp at ly ⊢; omega), hb]
      simp

/-- The rounds of '==' over an array, as a recursion. -/
def eqRow (D : Nat) (e : TypeId) (n : Nat) (xs ys : Array Value) : List Nat → Sem Bool
  | [] => pure true
  | i :: l => do
    let a ← part e xs (i * n)
    let b ← part e ys (i * n)
    let r ← Op.equalIn D e a b
    if (!r) = true then pure false else eqRow D e n xs ys l

theorem run_equalIn_array (D : Nat) (t e : TypeId) (len : Nat) (i : TypeInfo) (xs ys : Array Value) (ht : P.underlying t = some (.array len e)) (hi : P.info? e = some i) :
    (Op.equalIn (D + 1) t (.agg xs) (.agg ys)).run P w = (eqRow D e i.size xs ys (List.range' 0 len)).run P w := by
  simp only [Op.equalIn, Sem.run_bind, run_underlying ht, Result.andThen_ok, sizeOf, typeInfo, run_program, hi, Sem.run_pure]
  rw [Std.Legacy.Range.forIn_eq_forIn_range']
  simp only [Std.Legacy.Range.size, Nat.sub_zero, Nat.add_sub_cancel, Nat.div_one]
  generalize List.range' 0 len 1 = l
  induction l generalizing w with
  | nil => simp [eqRow]
  | cons x l ih =>
    simp only [List.forIn_cons, eqRow, Sem.run_bind]
    generalize (part e xs (x * i.size)).run P w = r1
    cases r1 with
    | halt h w1 => simp [Result.andThen]
    | ok a w1 =>
      simp only [Result.andThen_ok]
      generalize (part e ys (x * i.size)).run P w1 = r2
      cases r2 with
      | halt h w2 => simp [Result.andThen]
      | ok b w2 =>
        simp only [Result.andThen_ok]
        generalize (Op.equalIn D e a b).run P w2 = r3
        cases r3 with
        | halt h w3 => simp [Result.andThen]
        | ok r w3 =>
          cases r
          · simp only [Result.andThen_ok, Bool.not_false, if_true, Sem.run_pure]
          · simp only [Result.andThen_ok, Bool.not_true, Bool.false_eq_true, if_false, Sem.run_pure]
            exact ih w3

theorem eq_row {D : Nat} {e : TypeId} {n : Nat} (s : List Sc) (xs ys : Array Value) (hn : n = s.length)
    (ih : ∀ (off : Nat), Fit s ((xs.toList.drop off).take s.length) → Fit s ((ys.toList.drop off).take s.length) →
      ∃ u v, (part e xs off).run P w = .ok u w ∧ (part e ys off).run P w = .ok v w ∧ (Op.equalIn D e u v).run P w = .ok (eqs ((xs.toList.drop off).take s.length) ((ys.toList.drop off).take s.length)) w) :
    ∀ (k j : Nat), Fit (List.replicate k s).flatten (xs.toList.drop (j * n)) → Fit (List.replicate k s).flatten (ys.toList.drop (j * n)) →
      (eqRow D e n xs ys (List.range' j k)).run P w = .ok (eqs (xs.toList.drop (j * n)) (ys.toList.drop (j * n))) w
  | 0, j, hx, hy => by
    have lx := hx.len
    have ly := hy.len
    simp only [List.replicate_zero, List.flatten_nil, List.length_nil, List.length_eq_zero_iff] at lx ly
    simp [List.range', eqRow, lx, ly, eqs]
  | k + 1, j, hx, hy => by
    rw [List.replicate_succ, List.flatten_cons] at hx hy
    have hx1 := fit_append.1 hx
    have hy1 := fit_append.1 hy
    obtain ⟨u, v, hu, hv, hr⟩ := ih (j * n) hx1.1 hy1.1
    have lx : s.length ≤ (xs.toList.drop (j * n)).length := by rw [hx.len]; simp
    have ly : s.length ≤ (ys.toList.drop (j * n)).length := by rw [hy.len]; simp
    have ex : j * n + s.length = (j + 1) * n := by rw [Nat.succ_mul, hn]
    rw [List.drop_drop, ex] at hx1 hy1
    have rec' := eq_row s xs ys hn ih k (j + 1) hx1.2 hy1.2
    simp only [List.range'_succ, eqRow, Sem.run_bind, hu, hv, hr, Result.andThen_ok]
    rw [eqs_append (n := s.length) lx ly, List.drop_drop, List.drop_drop, ex]
    cases hb : eqs ((xs.toList.drop (j * n)).take s.length) ((ys.toList.drop (j * n)).take s.length) with
    | true => simpa using rec'
    | false => simp

/-- '==' over two values of a flat type. -/
theorem run_equalIn_flat : ∀ (d D : Nat) (t : TypeId) (s : List Sc) (u v : Value), d ≤ D → flatAt P d t = some s → Fit s u.cells.toList → Fit s v.cells.toList → FormV P t u → FormV P t v →
    (Op.equalIn D t u v).run P w = .ok (eqs u.cells.toList v.cells.toList) w
  | 0, _, _, _, _, _, _, h, _, _, _, _ => by cases h
  | d + 1, 0, _, _, _, _, hD, _, _, _, _, _ => by omega
  | d + 1, D + 1, t, s, u, v, hD, h, hu, hv, gu, gv => by
    have ihp : ∀ (xs ys : Array Value) (t : TypeId) (s : List Sc) (i : TypeInfo) (off : Nat), flatAt P d t = some s → P.info? t = some i → i.size = s.length → Fit s ((xs.toList.drop off).take s.length) → Fit s ((ys.toList.drop off).take s.length) →
        ∃ u v, (part t xs off).run P w = .ok u w ∧ (part t ys off).run P w = .ok v w ∧ (Op.equalIn D t u v).run P w = .ok (eqs ((xs.toList.drop off).take s.length) ((ys.toList.drop off).take s.length)) w := by
      intro xs ys t s i off hs hi hz hx hy
      obtain ⟨a, ha, ca, fa⟩ := run_part_flat w hs hi hz xs off hx
      obtain ⟨b, hb, cb, fb⟩ := run_part_flat w hs hi hz ys off hy
      refine ⟨a, b, ha, hb, ?_⟩
      rw [run_equalIn_flat d D t s a b (by omega) hs (by rw [ca]; exact hx) (by rw [cb]; exact hy) fa fb, ca, cb]
    unfold flatAt at h
    cases hut : P.underlying t with
    | none => rw [hut] at h; cases h
    | some k =>
      rw [hut] at h
      have notagg : ∀ v : Value, aggT P t = false → FormV P t v → ∀ cs, v ≠ .agg cs := by
        intro v hg hv cs e
        subst e
        rw [FormV, hg] at hv
        cases hv
      have isagg : ∀ v : Value, aggT P t = true → FormV P t v → ∃ cs, v = .agg cs := by
        intro v hg hv
        rw [FormV, hg] at hv
        cases v <;> first | (cases hv; done) | exact ⟨_, rfl⟩
      cases k with
      | bool =>
        obtain rfl : [Sc.b] = s := by simpa using h
        have e : ∀ v : Value, Fit [Sc.b] v.cells.toList → FormV P t v → ∃ x, v = .bool x := by
          intro v hv hg
          cases v with
          | agg cs => exact absurd rfl (notagg _ (by simp [aggT, hut]) hg cs)
          | bool x => exact ⟨x, rfl⟩
          | _ => obtain ⟨⟨n, hn⟩, _⟩ := hv; cases hn
        obtain ⟨x, rfl⟩ := e u hu gu
        obtain ⟨y, rfl⟩ := e v hv gv
        simp [Op.equalIn, run_underlying hut, eqs, eqv, Value.cells]
      | int k =>
        obtain rfl : [Sc.i k] = s := by simpa using h
        have e : ∀ v : Value, Fit [Sc.i k] v.cells.toList → FormV P t v → ∃ x, v = .int k x := by
          intro v hv hg
          cases v with
          | agg cs => exact absurd rfl (notagg _ (by simp [aggT, hut]) hg cs)
          | int k' x => obtain ⟨⟨n, hn⟩, _⟩ := hv; exact ⟨n, hn⟩
          | _ => obtain ⟨⟨n, hn⟩, _⟩ := hv; cases hn
        obtain ⟨x, rfl⟩ := e u hu gu
        obtain ⟨y, rfl⟩ := e v hv gv
        simp [Op.equalIn, run_underlying hut, eqs, eqv, Value.cells]
      | struct fs =>
        obtain ⟨xs, rfl⟩ := isagg u (by simp [aggT, hut]) gu
        obtain ⟨ys, rfl⟩ := isagg v (by simp [aggT, hut]) gv
        dsimp only at h
        split at h
        · cases h
        rename_i hs
        have hfo : P.fieldsOf t = fs := by simp [Program.fieldsOf, hut]
        rw [run_equalIn_struct w D t xs ys (by rw [hfo]; exact hut) (by simpa using hs), hfo]
        exact eq_fields w xs ys (ihp xs ys) fs.toList [] s h hu hv (by simp [eqs])
      | array n e =>
        obtain ⟨xs, rfl⟩ := isagg u (by simp [aggT, hut]) gu
        obtain ⟨ys, rfl⟩ := isagg v (by simp [aggT, hut]) gv
        dsimp only at h
        split at h
        case h_2 => cases h
        rename_i s1 i1 hs1 hi1
        split at h
        case isFalse => cases h
        rename_i hz
        obtain rfl : (List.replicate n s1).flatten = s := by simpa using h
        rw [run_equalIn_array w D t e n i1 xs ys hut hi1]
        have r := eq_row w s1 xs ys hz (fun off hx hy => ihp xs ys e s1 i1 off hs1 hi1 hz hx hy) n 0 (by simpa [Value.cells] using hu) (by simpa [Value.cells] using hv)
        simpa [Value.cells] using r
      | _ => cases h

/-- 'x == y', 'x != y' of a flat type, as the walk meets them. -/
theorem run_eql_flat (d : Nat) {t : TypeId} {s : List Sc} {xs ys : Array Value} (h : flatAt P d t = some s) (hd : d ≤ 10000) (hg : aggT P t = true) (hu : Fit s xs.toList) (hv : Fit s ys.toList) :
    (binOp .eql t (.agg xs) (.agg ys)).run P w = .ok (.bool (eqs xs.toList ys.toList)) w := by
  simp only [binOp]
  simp [Op.equal, Op.maxDepth, run_equalIn_flat w d 10000 t s (.agg xs) (.agg ys) hd h hu hv (by rw [FormV, hg]; rfl) (by rw [FormV, hg]; rfl), Value.cells]
theorem run_neq_flat (d : Nat) {t : TypeId} {s : List Sc} {xs ys : Array Value} (h : flatAt P d t = some s) (hd : d ≤ 10000) (hg : aggT P t = true) (hu : Fit s xs.toList) (hv : Fit s ys.toList) :
    (binOp .neq t (.agg xs) (.agg ys)).run P w = .ok (.bool (!eqs xs.toList ys.toList)) w := by
  simp only [binOp]
  simp [Op.equal, Op.maxDepth, run_equalIn_flat w d 10000 t s (.agg xs) (.agg ys) hd h hu hv (by rw [FormV, hg]; rfl) (by rw [FormV, hg]; rfl), Value.cells]
end

end Go.Proofs.YtagmlijhgncklaaGreatDoor
