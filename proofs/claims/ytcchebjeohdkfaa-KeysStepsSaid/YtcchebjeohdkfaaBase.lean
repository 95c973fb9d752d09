/- Small laws on worlds, used by all walks of this seat: one block has turned, all else stands. There are no conditions. -/
import Derived.WalkKit
import Derived.WalkLawsBesides
import Derived.WalkSpells
import Derived.Lib.Hide
import Derived.StillTailTactics
import Derived.Deep.QuietTactic
import Derived.BigQuiet
import Derived.Deep.Draws
import Derived.Deep.RegionHeld3
import Derived.Deep.MidRow
namespace Go.Proofs.Ytcchebjeohdkfaa
open Go.RowKit

/-- Behind a step block b holds o; every other block that was there is as it was. -/
def Upd (w : World) (b : Nat) (o : Obj) (w' : World) : Prop := w'.heap[b]? = some o ∧ w.grownBy w' (some b)

theorem has_lt {w : World} {b : Nat} {o : Obj} (h : w.heap[b]? = some o) : b < w.heap.size := (Array.getElem?_eq_some_iff.1 h).1
theorem has_cell {w : World} {b : Nat} {cs : Array Value} {t : TypeId} {fz : Nat × Nat} {v : Value} (i : Nat) (h : w.heap[b]? = some (.cells cs t fz)) (hi : cs[i]? = some v) : w.cell? ⟨b, i, none⟩ = some v := by simp [World.cell?, h, hi]
theorem has_free {w : World} {b : Nat} {cs : Array Value} {t : TypeId} (h : w.heap[b]? = some (.cells cs t (0, 0))) (i : Nat) : w.frozen? ⟨b, i, none⟩ = false := by simp [World.frozen?, h]

theorem below_has {w w' : World} {b : Nat} {o : Obj} (hb : Below w.heap.size w w') (h : w.heap[b]? = some o) : w'.heap[b]? = some o := (hb.block b (has_lt h)).trans h
theorem below_hasB {B : Nat} {w w' : World} {b : Nat} {o : Obj} (hb : Below B w w') (h : w.heap[b]? = some o) (hB : b < B) : w'.heap[b]? = some o := (hb.block b hB).trans h

theorem Upd.refl {w : World} {b : Nat} {o : Obj} (h : w.heap[b]? = some o) : Upd w b o w := ⟨h, rfl, rfl, rfl, Nat.le_refl _, fun _ _ _ => rfl⟩
theorem Upd.to {w w' : World} {b : Nat} {o o' : Obj} (h : Upd w b o w') (e : o = o') : Upd w b o' w' := e ▸ h
theorem Upd.drewN {w w' : World} {b : Nat} {o : Obj} (h : Upd w b o w') (n : Nat) : Upd w b o (w'.drewN n) := ⟨h.1, h.2.os, h.2.tape, h.2.output, h.2.size, h.2.block⟩
theorem Upd.drew {w w' : World} {b : Nat} {o : Obj} (h : Upd w b o w') : Upd w b o w'.drew := ⟨h.1, h.2.os, h.2.tape, h.2.output, h.2.size, h.2.block⟩
theorem Upd.alloc {w w' : World} {b : Nat} {o : Obj} (h : Upd w b o w') (x : Obj) : Upd w b o (w'.alloc x) :=
  ⟨(Below.heap_alloc w' x b (has_lt h.1)).trans h.1, h.2.os, h.2.tape, h.2.output, by have := h.2.size; simp; omega,
    fun k hk hne => (Below.heap_alloc w' x k (by have := h.2.size; omega)).trans (h.2.block k hk hne)⟩
theorem heap_setCell_self {w : World} {b i : Nat} {cs : Array Value} {t : TypeId} {fz : Nat × Nat} (h : w.heap[b]? = some (.cells cs t fz)) (v : Value) : (w.setCell ⟨b, i, none⟩ v).heap[b]? = some (.cells (cs.setIfInBounds i v) t fz) := by
  simp [World.setCell, Array.getElem?_modify, h]
theorem Upd.setCell {w w' : World} {b : Nat} {cs : Array Value} {t : TypeId} {fz : Nat × Nat} (h : Upd w b (.cells cs t fz) w') (i : Nat) (v : Value) : Upd w b (.cells (cs.setIfInBounds i v) t fz) (w'.setCell ⟨b, i, none⟩ v) :=
  ⟨heap_setCell_self h.1 v, h.2.os, h.2.tape, h.2.output, by simpa [World.setCell] using h.2.size,
    fun k hk hne => (Below.heap_setCell w' ⟨b, i, none⟩ v k (fun e => hne (by rw [e]))).trans (h.2.block k hk hne)⟩
theorem Upd.setNew {w w' : World} {b : Nat} {o : Obj} (h : Upd w b o w') {p : Addr} (hp : w.heap.size ≤ p.block) (hne : b ≠ p.block) (v : Value) : Upd w b o (w'.setCell p v) :=
  ⟨(Below.heap_setCell w' p v b hne).trans h.1, h.2.os, h.2.tape, h.2.output, by simpa [World.setCell] using h.2.size,
    fun k hk hkb => (Below.heap_setCell w' p v k (by omega)).trans (h.2.block k hk hkb)⟩
theorem Upd.other {w w' : World} {b c : Nat} {o x : Obj} (h : Upd w b o w') (hc : w.heap[c]? = some x) (hne : c ≠ b) : w'.heap[c]? = some x := (h.2.block c (has_lt hc) (by simpa using hne)).trans hc
theorem Upd.trans {w w1 w2 : World} {b : Nat} {o o' : Obj} (h : Upd w b o w1) (k : Upd w1 b o' w2) : Upd w b o' w2 :=
  ⟨k.1, k.2.os.trans h.2.os, k.2.tape.trans h.2.tape, k.2.output.trans h.2.output, Nat.le_trans h.2.size k.2.size,
    fun i hi hne => (k.2.block i (Nat.lt_of_lt_of_le hi h.2.size) hne).trans (h.2.block i hi hne)⟩
theorem Upd.reads {w w1 w2 : World} {b : Nat} {o : Obj} (h : Upd w b o w1) (k : Below w1.heap.size w1 w2) : Upd w b o w2 :=
  ⟨below_has k h.1, k.os.trans h.2.os, k.tape.trans h.2.tape, k.output.trans h.2.output, Nat.le_trans h.2.size k.size,
    fun i hi hne => (k.block i (Nat.lt_of_lt_of_le hi h.2.size)).trans (h.2.block i hi hne)⟩
theorem Upd.after {w w1 w2 : World} {b : Nat} {o : Obj} (k : Below w.heap.size w w1) (h : Upd w1 b o w2) : Upd w b o w2 :=
  ⟨h.1, h.2.os.trans k.os, h.2.tape.trans k.tape, h.2.output.trans k.output, Nat.le_trans k.size h.2.size,
    fun i hi hne => (h.2.block i (Nat.lt_of_lt_of_le hi k.size) hne).trans (k.block i hi)⟩
theorem Upd.below {w w' : World} {b B : Nat} {o : Obj} (h : Upd w b o w') (hb : B ≤ b) (hB : B ≤ w.heap.size) : Below B w w' :=
  ⟨h.2.os, h.2.tape, h.2.output, h.2.size, fun k hk => h.2.block k (by omega) (by simp; omega)⟩
theorem Upd.size {w w' : World} {b : Nat} {o : Obj} (h : Upd w b o w') : w.heap.size ≤ w'.heap.size := h.2.size

theorem below_drewN {B : Nat} {a w : World} (h : Below B a w) (n : Nat) : Below B a (w.drewN n) := ⟨h.os, h.tape, h.output, h.size, h.block⟩
theorem below_undrew {B : Nat} {w w' : World} (h : Below B w.drew w') : Below B w w' := ⟨h.os, h.tape, h.output, h.size, h.block⟩
/-- A step that reads, behind a world that is as it was below B. -/
theorem below_reads {B : Nat} {a w w' : World} (h : Below B a w) (k : Below w.heap.size w w') (hB : B ≤ w.heap.size) : Below B a w' := h.trans (k.mono hB)
theorem below_self (w : World) (B : Nat) : Below B w w := Below.refl _ _
theorem below_news {w w' : World} {o : Obj} (h : Below w.heap.size (w.alloc o) w') : Below w.heap.size w w' := ((Below.refl _ w).alloc (Nat.le_refl _) o).trans h

/-- What an array holds behind the store of a row of cells from o on. -/
def spl : Array Value → Nat → List Value → Array Value
  | cs, _, [] => cs
  | cs, o, v :: vs => spl (cs.setIfInBounds o v) (o + 1) vs
theorem Upd.setCells {w : World} {b : Nat} {t : TypeId} {fz : Nat × Nat} : ∀ (vs : List Value) (o : Nat) (cs : Array Value) (w' : World), Upd w b (.cells cs t fz) w' → Upd w b (.cells (spl cs o vs) t fz) (w'.setCells b o vs)
  | [], _, _, _, h => h
  | v :: vs, o, cs, w', h => Upd.setCells vs (o + 1) (cs.setIfInBounds o v) (w'.setCell ⟨b, o, none⟩ v) (h.setCell o v)
theorem spl_get : ∀ (vs : List Value) (o : Nat) (cs : Array Value) (k : Nat), o + vs.length ≤ cs.size → (spl cs o vs)[k]? = if o ≤ k ∧ k < o + vs.length then vs[k - o]? else cs[k]?
  | [], o, cs, k, _ => by simp [spl]; omega
  | v :: vs, o, cs, k, h => by
    simp only [List.length_cons] at h
    rw [spl, spl_get vs (o + 1) _ k (by simp; omega)]
    by_cases h1 : o + 1 ≤ k ∧ k < o + 1 + vs.length
    · rw [if_pos h1, if_pos (by simp; omega), show k - o = (k - (o + 1)) + 1 by omega, List.getElem?_cons_succ]
    · rw [if_neg h1, Array.getElem?_setIfInBounds]
      by_cases h2 : o = k
      · subst h2
        rw [if_pos rfl, if_pos (by omega), if_pos (by simp), Nat.sub_self]
        simp
      · rw [if_neg h2, if_neg (by simp; omega)]
theorem spl_size : ∀ (vs : List Value) (o : Nat) (cs : Array Value), (spl cs o vs).size = cs.size
  | [], _, _ => rfl
  | v :: vs, o, cs => by rw [spl, spl_size vs]; simp
theorem spl_all (vs : List Value) (cs : Array Value) (h : cs.size = vs.length) : spl cs 0 vs = vs.toArray := by
  apply Array.ext_getElem?
  intro k
  rw [spl_get vs 0 cs k (by omega)]
  by_cases hk : k < vs.length
  · rw [if_pos (by omega)]; simp
  · rw [if_neg (by omega), Array.getElem?_eq_none (by omega), Array.getElem?_eq_none (by simp; omega)]
theorem has_range {w : World} {b : Nat} {cs : Array Value} {t : TypeId} {fz : Nat × Nat} (h : w.heap[b]? = some (.cells cs t fz)) (l : List Value) (o : Nat) (hl : ∀ j, j < l.length → cs[o + j]? = l[j]?) : w.rangeAt b o l := by
  intro j v hv
  have hj : j < l.length := by
    rcases Nat.lt_or_ge j l.length with h' | h'
    · exact h'
    · rw [List.getElem?_eq_none h'] at hv; cases hv
  exact has_cell (o + j) h ((hl j hj).trans hv)
theorem has_there {w : World} {b : Nat} {cs : Array Value} {t : TypeId} (h : w.heap[b]? = some (.cells cs t (0, 0))) (o n : Nat) (hn : o + n ≤ cs.size) : w.there b o n :=
  fun j hj => ⟨by rw [has_cell (o + j) h (Array.getElem?_eq_getElem (by omega))]; rfl, has_free h _⟩

/-- A new block, filled by one store. -/
theorem copied (w : World) (Z : Array Value) (t : TypeId) (l : List Value) (hz : Z.size = l.length) :
    ((w.alloc (.cells Z t)).setCells w.heap.size 0 l).heap[w.heap.size]? = some (.cells l.toArray t (0, 0)) ∧ Below w.heap.size w ((w.alloc (.cells Z t)).setCells w.heap.size 0 l) := by
  have U := Upd.setCells (fz := (0, 0)) l 0 Z _ (Upd.refl (heap_alloc_new w (.cells Z t)))
  rw [spl_all l Z hz] at U
  exact ⟨U.1, ((Below.refl _ w).alloc (Nat.le_refl _) _).trans (U.below (Nat.le_refl _) (by simp))⟩

/-- Names the world where the walk stands. -/
theorem upd_wp {P : Program} {c : Code} {Q : Exit → Act → World → Prop} {a : Act} {w0 w : World} {b : Nat} {o : Obj} (U : Upd w0 b o w) (h : ∀ W, Upd w0 b o W → c.wp P Q a W) : c.wp P Q a w := h w U
theorem world_wp {P : Program} {c : Code} {Q : Exit → Act → World → Prop} {a : Act} {w : World} (S : World → Prop) (U : S w) (h : ∀ W, S W → c.wp P Q a W) : c.wp P Q a w := h w U
theorem calls_world {P : Program} {f : FuncId} {a : Array Value} {w : World} {R : Ending → World → Prop} (S : World → Prop) (U : S w) (h : ∀ W, S W → Calls P f a W R) : Calls P f a w R := h w U
theorem quiet_left {P : Program} {f : FuncId} {args : Array Value} {w : World} {n : Nat} {v : Value}
    (h : Calls P f args (w.drewN n) fun e w' => e = .returned v ∧ w.drewN n = w') : Calls P f args (w.drewN n) fun e w'' => e = .returned v ∧ ∃ m, w'' = w.drewN m :=
  h.mono fun _ _ ⟨he, hm⟩ => ⟨he, n, hm.symm⟩
theorem below_alloc_has {w : World} {b : Nat} {o x : Obj} (h : w.heap[b]? = some x) : (w.alloc o).heap[b]? = some x := (Below.heap_alloc w o b (has_lt h)).trans h
/-- Behind a step blocks b and c may have turned; every other block that was there is as it was. -/
structure Upd2 (w : World) (b c : Nat) (w' : World) : Prop where
  os : w'.os = w.os
  tape : w'.tape = w.tape
  output : w'.output = w.output
  size : w.heap.size ≤ w'.heap.size
  block : ∀ k, k < w.heap.size → k ≠ b → k ≠ c → w'.heap[k]? = w.heap[k]?
theorem Upd2.refl (w : World) (b c : Nat) : Upd2 w b c w := ⟨rfl, rfl, rfl, Nat.le_refl _, fun _ _ _ _ => rfl⟩
theorem Upd2.left {w w1 w2 : World} {b c : Nat} {o : Obj} (h : Upd2 w b c w1) (k : Upd w1 b o w2) : Upd2 w b c w2 :=
  ⟨k.2.os.trans h.os, k.2.tape.trans h.tape, k.2.output.trans h.output, Nat.le_trans h.size k.2.size, fun i hi h1 h2 => (k.2.block i (Nat.lt_of_lt_of_le hi h.size) (by simpa using h1)).trans (h.block i hi h1 h2)⟩
theorem Upd2.right {w w1 w2 : World} {b c : Nat} {o : Obj} (h : Upd2 w b c w1) (k : Upd w1 c o w2) : Upd2 w b c w2 :=
  ⟨k.2.os.trans h.os, k.2.tape.trans h.tape, k.2.output.trans h.output, Nat.le_trans h.size k.2.size, fun i hi h1 h2 => (k.2.block i (Nat.lt_of_lt_of_le hi h.size) (by simpa using h2)).trans (h.block i hi h1 h2)⟩
theorem Upd2.newer {w w1 w2 : World} {b c d : Nat} {o : Obj} (h : Upd2 w b c w1) (k : Upd w1 d o w2) (hd : w.heap.size ≤ d) : Upd2 w b c w2 :=
  ⟨k.2.os.trans h.os, k.2.tape.trans h.tape, k.2.output.trans h.output, Nat.le_trans h.size k.2.size, fun i hi h1 h2 => (k.2.block i (Nat.lt_of_lt_of_le hi h.size) (by simp; omega)).trans (h.block i hi h1 h2)⟩
theorem Upd2.reads {w w1 w2 : World} {b c : Nat} (h : Upd2 w b c w1) (k : Below w1.heap.size w1 w2) : Upd2 w b c w2 :=
  ⟨k.os.trans h.os, k.tape.trans h.tape, k.output.trans h.output, Nat.le_trans h.size k.size, fun i hi h1 h2 => (k.block i (Nat.lt_of_lt_of_le hi h.size)).trans (h.block i hi h1 h2)⟩
theorem Upd2.drew {w w1 : World} {b c : Nat} (h : Upd2 w b c w1) : Upd2 w b c w1.drew := ⟨h.os, h.tape, h.output, h.size, h.block⟩
theorem Upd2.trans {w w1 w2 : World} {b c : Nat} (h : Upd2 w b c w1) (k : Upd2 w1 b c w2) : Upd2 w b c w2 :=
  ⟨k.os.trans h.os, k.tape.trans h.tape, k.output.trans h.output, Nat.le_trans h.size k.size, fun i hi h1 h2 => (k.block i (Nat.lt_of_lt_of_le hi h.size) h1 h2).trans (h.block i hi h1 h2)⟩
theorem Upd2.below {w w' : World} {b c B : Nat} (h : Upd2 w b c w') (hb : B ≤ b) (hc : B ≤ c) (hB : B ≤ w.heap.size) : Below B w w' :=
  ⟨h.os, h.tape, h.output, h.size, fun k hk => h.block k (by omega) (by omega) (by omega)⟩
theorem Upd2.other {w w' : World} {b c d : Nat} {x : Obj} (h : Upd2 w b c w') (hd : w.heap[d]? = some x) (h1 : d ≠ b) (h2 : d ≠ c) : w'.heap[d]? = some x := (h.block d (has_lt hd) h1 h2).trans hd
theorem range_drewN {w : World} {b o : Nat} {cs : List Value} (h : w.rangeAt b o cs) (n : Nat) : (w.drewN n).rangeAt b o cs := h
/-- The load of a long array or struct in a region that only reads. -/
theorem quiet_load_mid {P : Program} {op : Oper} {a : Act} {K : Act → Prop} {w : World} (ty : TypeId) (x : Operand) (ho : op.op = .load ty x) (b o : Nat) (hx : a.eval x = .pointer (some ⟨b, o, none⟩)) (cs : List Value) (d : TypeDesc)
    (hc : w.rangeAt b o cs) (hu : P.underlying ty = some d) (hd : d.isRow = true) (hi : (P.info? ty).map (·.size) = some cs.length) (hk : K (a.put op.dst (.agg cs.toArray))) : op.quiet P a (fun w' => ∃ n, w' = w.drewN n) K :=
  ⟨_, fun w' ⟨n, hn⟩ => by
    subst hn
    unfold Oper.quietAt execOp
    simp only [ho, hx, Instr.loadAt, Instr.sureAddr, Sem.run_bind, Sem.run_pure, Result.andThen_ok, run_loadVar_mid (w.drewN n) b o ty cs d (range_drewN hc n) hu hd hi]
    exact ⟨rfl, rfl⟩, hk⟩
theorem still_tail {P : Program} {id : Nat} {Q : Exit → Act → World → Prop} {a : Act} {w : World} {l : List Oper} (n : Nat) (hm : P.follows .mixedOrders = true) (hB : Region.lexTailB .any l.toArray n = true)
    (h : wpStill P l.toArray w.drew (fun a' => wpList P l.toArray Q (l.drop n) a' w.drew) (l.take n) a) : (Code.region id l.toArray true).wp P Q a w := wp_region_still_tail n hm hB h
end Go.Proofs.Ytcchebjeohdkfaa
