/- What the loop of TableNever carries from round to round, and how each step hands it on. No conditions. -/
import Derived.Test.YtabbioclcjnjjaaC04Known
import Derived.Deep.DeepCutAuto
import Derived.Deep.CutBlock
namespace Go.Proofs.Ytabbioclcjnjjaa
open Go.RowKit

theorem own_shape {w : World} {base : Nat} {e : TypeId} {v : Value} {m : Nat} {xs : List Value} (h : w.ownsRow base e 1 v m xs) :
    ∃ (a : Option Addr) (cap : Nat), v = .slice a m cap ∧ (0 < m → ∃ g, a = some ⟨g, 0, none⟩ ∧ base ≤ g ∧ g < w.heap.size ∧ ∀ k, k < m → w.cell? ⟨g, k, none⟩ = xs[k]? ∧ w.frozen? ⟨g, k, none⟩ = false) := by
  have hh := h
  rcases h.2 with ⟨rfl, rfl⟩ | ⟨g, cap, cur, rfl, hb, hg, _⟩
  · exact ⟨none, 0, rfl, fun h => by omega⟩
  · exact ⟨_, cap, rfl, fun _ => ⟨g, rfl, hb, has_lt hg, fun k hk => ⟨hh.cellAt k (by omega), hh.frozenAt k⟩⟩⟩
theorem own_int {w : World} {base m cap : Nat} {a : Option Addr} {l : List Int} (h : w.ownsRow base 2 1 (.slice a m cap) m (l.map (.int .i64))) {k : Nat} (hk : k < l.length) :
    ∃ g, a = some ⟨g, 0, none⟩ ∧ w.cell? ⟨g, k, none⟩ = some (.int .i64 (l.getD k 0)) ∧ w.frozen? ⟨g, k, none⟩ = false := by
  have hm := h.1
  simp at hm
  rcases h.2 with ⟨e, h0⟩ | ⟨g, cap', cur, e, _⟩
  · omega
  · injection e with e1 e2 e3
    subst e1 e3
    refine ⟨g, rfl, ?_, h.frozenAt k⟩
    rw [h.cellAt k (by omega), List.getElem?_map, List.getElem?_eq_getElem hk, List.getD_eq_getElem?_getD, List.getElem?_eq_getElem hk]
    rfl
theorem own_bool {w : World} {base m cap : Nat} {a : Option Addr} {l : List Bool} (h : w.ownsRow base 4 1 (.slice a m cap) m (l.map .bool)) {k : Nat} (hk : k < l.length) :
    ∃ g, a = some ⟨g, 0, none⟩ ∧ w.cell? ⟨g, k, none⟩ = some (.bool (l.getD k false)) ∧ w.frozen? ⟨g, k, none⟩ = false := by
  have hm := h.1
  simp at hm
  rcases h.2 with ⟨e, h0⟩ | ⟨g, cap', cur, e, _⟩
  · omega
  · injection e with e1 e2 e3
    subst e1 e3
    refine ⟨g, rfl, ?_, h.frozenAt k⟩
    rw [h.cellAt k (by omega), List.getElem?_map, List.getElem?_eq_getElem hk, List.getD_eq_getElem?_getD, List.getElem?_eq_getElem hk]
    rfl
theorem own_apart {w : World} {base base' : Nat} {e e' : TypeId} {v v' : Value} {m m' : Nat} {xs xs' : List Value} (h : w.ownsRow base e 1 v m xs) (h' : w.ownsRow base' e' 1 v' m' xs') (hne : e ≠ e') : v.ownBlock = none ∨ v.ownBlock ≠ v'.ownBlock := by
  rcases h.2 with ⟨rfl, _⟩ | ⟨g, cap, cur, rfl, _, hg, _⟩
  · exact .inl rfl
  · refine .inr ?_
    rcases h'.2 with ⟨rfl, _⟩ | ⟨g', cap', cur', rfl, _, hg', _⟩
    · simp [Value.ownBlock]
    · simp only [Value.ownBlock, ne_eq, Option.some.injEq]
      intro eg
      subst eg
      rw [hg] at hg'
      injection hg' with hg'
      injection hg' with _ h2 _
      exact hne h2
theorem own_not {w : World} {base b : Nat} {e : TypeId} {v : Value} {m : Nat} {xs : List Value} (h : w.ownsRow base e 1 v m xs) (hb : b < base) : v.ownBlock = none ∨ v.ownBlock ≠ some b := by
  rcases h.2 with ⟨rfl, _⟩ | ⟨g, cap, cur, rfl, hg, _⟩
  · exact .inl rfl
  · refine .inr ?_
    simp [Value.ownBlock]; omega
theorem grown_of_below {w w' : World} (h : Below w.heap.size w w') (r : Option Nat) : w.grownBy w' r := ⟨h.os, h.tape, h.output, h.size, fun k hk _ => h.block k hk⟩
theorem below_of_grown {w w' : World} {v : Value} {base B : Nat} {e : TypeId} {m : Nat} {xs : List Value} (hv : w.ownsRow base e 1 v m xs) (h : w.grownBy w' v.ownBlock) (hB : B ≤ base) (hs : B ≤ w.heap.size) : Below B w w' :=
  ⟨h.os, h.tape, h.output, h.size, fun k hk => h.block k (by omega) (fun e' => by
    rcases hv.2 with ⟨rfl, _⟩ | ⟨g, cap, cur, rfl, hg, _⟩
    · simp [Value.ownBlock] at e'
    · simp [Value.ownBlock] at e'; omega)⟩

theorem info2 : (Try.prog.info? 2).map (fun i => (i.zero, i.size, i.bytes)) = some (some (.int .i64 0), 1, 8) := by kernel_rfl
theorem info4 : (Try.prog.info? 4).map (fun i => (i.zero, i.size, i.bytes)) = some (some (.bool false), 1, 1) := by kernel_rfl
theorem app_int {ops : Array Oper} {rest : List Oper} {o : Oper} {a : Act} {Q : Exit → Act → World → Prop} {w : World} {base : Nat} (hgd : o.guard = none) (s x : Operand)
    (ho : o.op = .call { callee := .builtin .append, args := #[s, x], argTypes := #[29, 29] }) (v : Value) (m : Nat) (xs : List Value) (hs : a.eval s = v) (hown : w.ownsRow base 2 1 v m xs)
    (g : Nat) (hx : a.eval x = .slice (some ⟨g, 0, none⟩) 1 1) (u : Int) (hu : w.cell? ⟨g, 0, none⟩ = some (.int .i64 u)) (hm : m ≤ 1000) (hbase : base ≤ w.heap.size)
    (h : ∀ v' w', w'.ownsRow base 2 1 v' (m + 1) (xs ++ [.int .i64 u]) → w.grownBy w' v.ownBlock → wpList Try.prog ops Q rest (a.put o.dst v') w') : wpList Try.prog ops Q (o :: rest) a w := by
  obtain ⟨i, hi, hz0, hz1, hz2⟩ := info_parts info2
  exact wpList_append_own w hgd s x 29 ho base 2 i (.int .i64 0) 1 8 Try.underlying29 hi hz0 hz1 hz2 rfl (by decide) v m xs hs hown ⟨g, 0, none⟩ 1 1 [.int .i64 u] hx rfl
    (fun j y hy => by
      match j with
      | 0 => simp at hy; subst hy; simpa [Addr.add] using hu
      | j + 1 => simp at hy) (by intro y hy; simp at hy; subst hy; rfl) (by unfold maxLen; omega) (by omega) hbase (fun v' w' h1 h2 _ => h v' w' h1 h2)
theorem app_bool {ops : Array Oper} {rest : List Oper} {o : Oper} {a : Act} {Q : Exit → Act → World → Prop} {w : World} {base : Nat} (hgd : o.guard = none) (s x : Operand)
    (ho : o.op = .call { callee := .builtin .append, args := #[s, x], argTypes := #[30, 30] }) (v : Value) (m : Nat) (xs : List Value) (hs : a.eval s = v) (hown : w.ownsRow base 4 1 v m xs)
    (g : Nat) (hx : a.eval x = .slice (some ⟨g, 0, none⟩) 1 1) (u : Bool) (hu : w.cell? ⟨g, 0, none⟩ = some (.bool u)) (hm : m ≤ 1000) (hbase : base ≤ w.heap.size)
    (h : ∀ v' w', w'.ownsRow base 4 1 v' (m + 1) (xs ++ [.bool u]) → w.grownBy w' v.ownBlock → wpList Try.prog ops Q rest (a.put o.dst v') w') : wpList Try.prog ops Q (o :: rest) a w := by
  obtain ⟨i, hi, hz0, hz1, hz2⟩ := info_parts info4
  exact wpList_append_own w hgd s x 30 ho base 4 i (.bool false) 1 1 Try.underlying30 hi hz0 hz1 hz2 rfl (by decide) v m xs hs hown ⟨g, 0, none⟩ 1 1 [.bool u] hx rfl
    (fun j y hy => by
      match j with
      | 0 => simp at hy; subst hy; simpa [Addr.add] using hu
      | j + 1 => simp at hy) (by intro y hy; simp at hy; subst hy; rfl) (by unfold maxLen; omega) (by omega) hbase (fun v' w' h1 h2 _ => h v' w' h1 h2)

theorem upd_undrew {w w' : World} {b : Nat} {o : Obj} (h : Upd w.drew b o w') : Upd w b o w' := ⟨h.1, h.2.os, h.2.tape, h.2.output, h.2.size, h.2.block⟩
theorem upd_cell {w w' : World} {b g k : Nat} {o : Obj} {v : Value} (h : Upd w b o w') (hg : g < w.heap.size) (hne : ¬ g = b) (hv : w.cell? ⟨g, k, none⟩ = some v) : w'.cell? ⟨g, k, none⟩ = some v := by
  rw [← hv]
  simp only [World.cell?]
  rw [h.2.block g hg (by simpa using hne)]
theorem upd_free {w w' : World} {b g k : Nat} {o : Obj} {v : Bool} (h : Upd w b o w') (hg : g < w.heap.size) (hne : ¬ g = b) (hv : w.frozen? ⟨g, k, none⟩ = v) : w'.frozen? ⟨g, k, none⟩ = v := by
  rw [← hv]
  simp only [World.frozen?]
  rw [h.2.block g hg (by simpa using hne)]
/-- What stands at the head of a round: the table, what was given, what is gone. -/
structure NSt (w0 : World) (tb n : Nat) (G : Nat) (L : List (Bool × Int)) (given : List Int) (gone : List Bool) (v7 v8 : Value) (w : World) : Prop where
  tab : w.heap[tb]? = some (tabO L)
  num : L.length = n
  gen : genOk L G
  inv : NInv L given gone
  o7 : w.ownsRow (tb + 1) 2 1 v7 given.length (given.map (.int .i64))
  o8 : w.ownsRow (tb + 1) 4 1 v8 given.length (gone.map .bool)
  few : given.length ≤ G
  base : w0.heap.size ≤ tb
  below : Below w0.heap.size w0 w
theorem NSt.reads {w0 w w' : World} {tb n G : Nat} {L : List (Bool × Int)} {given : List Int} {gone : List Bool} {v7 v8 : Value} (h : NSt w0 tb n G L given gone v7 v8 w) (hb : Below w.heap.size w w') : NSt w0 tb n G L given gone v7 v8 w' :=
  ⟨below_has hb h.tab, h.num, h.gen, h.inv, h.o7.kept (grown_of_below hb none) (by cases v7.ownBlock <;> simp), h.o8.kept (grown_of_below hb none) (by cases v8.ownBlock <;> simp), h.few, h.base, below_reads h.below hb h.below.size⟩
theorem NSt.up {w0 w : World} {tb n G : Nat} {L : List (Bool × Int)} {given : List Int} {gone : List Bool} {v7 v8 : Value} (h : NSt w0 tb n G L given gone v7 v8 w) : NSt w0 tb n (G + 1) L given gone v7 v8 w :=
  ⟨h.tab, h.num, fun i => by have := h.gen i; omega, h.inv, h.o7, h.o8, by have := h.few; omega, h.base, h.below⟩
/-- A handle is given. -/
theorem NSt.add {w0 w w1 w2 w3 : World} {tb n G i : Nat} {L : List (Bool × Int)} {given : List Int} {gone : List Bool} {v7 v8 v7' v8' : Value} {o : Obj} (h : NSt w0 tb n G L given gone v7 v8 w) (hi : i < L.length) (ht : tk L i = false)
    (hU : Upd w tb (tabO (L.set i (true, gn L i + 1))) w1)
    (h7 : w2.ownsRow (tb + 1) 2 1 v7' (given.length + 1) (given.map (.int .i64) ++ [.int .i64 ((i : Int) + 16 * (gn L i + 1))])) (g7 : (w1.alloc o).grownBy w2 v7.ownBlock) (o' : Obj)
    (h8 : w3.ownsRow (tb + 1) 4 1 v8' (given.length + 1) (gone.map .bool ++ [.bool false])) (g8 : (w2.alloc o').grownBy w3 v8.ownBlock) :
    NSt w0 tb n (G + 1) (L.set i (true, gn L i + 1)) (given ++ [(i : Int) + 16 * (gn L i + 1)]) (gone ++ [false]) v7' v8' w3 := by
  have hg := h.gen i
  have o71 : w1.ownsRow (tb + 1) 2 1 v7 _ _ := h.o7.kept hU.2 (own_not h.o7 (by omega))
  have o81 : w1.ownsRow (tb + 1) 4 1 v8 _ _ := h.o8.kept hU.2 (own_not h.o8 (by omega))
  have o71a := o71.alloc o
  have o81a := o81.alloc o
  have o82 := o81a.kept g7 (own_apart o81a o71a (by decide))
  have o82a := o82.alloc o'
  have o72a := h7.alloc o'
  have o73 := o72a.kept g8 (own_apart o72a o82a (by decide))
  have t1 := below_alloc_has (o := o) hU.1
  have t2 : w2.heap[tb]? = some (tabO (L.set i (true, gn L i + 1))) := (g7.block tb (has_lt t1) (fun e => by
    rcases own_not o71a (b := tb) (by omega) with q | q
    · rw [q] at e; cases e
    · exact q e.symm)).trans t1
  have t2a := below_alloc_has (o := o') t2
  have t3 : w3.heap[tb]? = some (tabO (L.set i (true, gn L i + 1))) := (g8.block tb (has_lt t2a) (fun e => by
    rcases own_not o82a (b := tb) (by omega) with q | q
    · rw [q] at e; cases e
    · exact q e.symm)).trans t2a
  have hlt := has_lt h.tab
  have b1 : Below w0.heap.size w0 w1 := h.below.trans (hU.below h.base h.below.size)
  have b1a : Below w0.heap.size w0 (w1.alloc o) := b1.alloc b1.size o
  have b2 : Below w0.heap.size w0 w2 := b1a.trans (below_of_grown o71a g7 (by have := h.base; omega) b1a.size)
  have b2a : Below w0.heap.size w0 (w2.alloc o') := b2.alloc b2.size o'
  have b3 : Below w0.heap.size w0 w3 := b2a.trans (below_of_grown o82a g8 (by have := h.base; omega) b2a.size)
  have hgen := (h.gen.set (x := true) (g := gn L i + 1) hi (by omega) (by omega))
  refine ⟨t3, by simpa using h.num, by simpa using hgen, h.inv.add hi ht, ?_, ?_, by have := h.few; simp; omega, h.base, b3⟩
  · simpa using o73
  · simpa using h8
/-- A handle's place is free again. -/
theorem NSt.drop {w0 w w1 : World} {tb n G k p g8 cap : Nat} {L : List (Bool × Int)} {given : List Int} {gone : List Bool} {v7 : Value} (h : NSt w0 tb n G L given gone v7 (.slice (some ⟨g8, 0, none⟩) given.length cap) w) (hk : k < given.length) (hg : gone.getD k false = false) (hp : p < L.length) (ht : tk L p = true) (e : given.getD k 0 = (p : Int) + 16 * gn L p)
    (hU : Upd w tb (tabO (L.set p (false, gn L p))) w1) : NSt w0 tb n (G + 1) (L.set p (false, gn L p)) given (gone.set k true) v7 (.slice (some ⟨g8, 0, none⟩) given.length cap) (w1.setCell ⟨g8, k, none⟩ (.bool true)) := by
  have o71 := h.o7.kept hU.2 (own_not h.o7 (by omega))
  have o81 := h.o8.kept hU.2 (own_not h.o8 (by omega))
  obtain ⟨s8, k8⟩ := o81.stored k (.bool true)
  have o72 := o71.kept k8 (own_apart o71 o81 (by decide))
  have hne : tb ≠ g8 := by
    have := own_not o81 (b := tb) (by omega)
    simp [Value.ownBlock] at this
    omega
  have t1 := (k8.block tb (has_lt hU.1) (by simp; exact hne)).trans hU.1
  have hg8 : tb + 1 ≤ g8 := (o81.lt g8 rfl).1
  have b1 : Below w0.heap.size w0 w1 := h.below.trans (hU.below h.base h.below.size)
  refine ⟨t1, by simpa using h.num, ?_, h.inv.drop hk hg hp ht e, o72, by simpa [List.map_set] using s8, by have := h.few; omega, h.base, b1.setCell (p := ⟨g8, k, none⟩) (by have := h.base; show w0.heap.size ≤ g8; omega) _⟩
  have hgp := h.gen p
  have := h.gen.set (x := false) (g := gn L p) hp (by omega) (by omega)
  simpa using this
/-- A handle that was gone stays so. -/
theorem NSt.gone {w0 w w1 : World} {tb n G k g8 cap : Nat} {L : List (Bool × Int)} {given : List Int} {gone : List Bool} {v7 : Value} (h : NSt w0 tb n G L given gone v7 (.slice (some ⟨g8, 0, none⟩) given.length cap) w) (hk : k < given.length) (hg : gone.getD k false = true)
    (hb : Below w.heap.size w w1) : NSt w0 tb n (G + 1) L given gone v7 (.slice (some ⟨g8, 0, none⟩) given.length cap) (w1.setCell ⟨g8, k, none⟩ (.bool true)) := by
  have h1 := (h.reads hb).up
  obtain ⟨s8, k8⟩ := h1.o8.stored k (.bool true)
  have hne : tb ≠ g8 := by
    have := own_not h1.o8 (b := tb) (by omega)
    simp [Value.ownBlock] at this
    omega
  have hg8 : tb + 1 ≤ g8 := (h1.o8.lt g8 rfl).1
  have hl := h.inv.len
  refine ⟨(k8.block tb (has_lt h1.tab) (by simp; exact hne)).trans h1.tab, h1.num, h1.gen, h1.inv, h1.o7.kept k8 (own_apart h1.o7 h1.o8 (by decide)), ?_, h1.few, h1.base, h1.below.setCell (p := ⟨g8, k, none⟩) (by have := h.base; show w0.heap.size ≤ g8; omega) _⟩
  have e : (gone.map Value.bool).set k (.bool true) = gone.map .bool := by rw [← List.map_set, set_same (by omega) hg]
  rwa [e] at s8
end Go.Proofs.Ytabbioclcjnjjaa
