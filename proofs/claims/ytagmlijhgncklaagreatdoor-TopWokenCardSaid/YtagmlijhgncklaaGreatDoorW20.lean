/-
  Maps from numbers: a row of entries, one more entry, a look-up. Conditions: the block is a map whose entries are said.
  What instructions do that are no calls (does), over the translation of this seat. Conditions: the block is a map whose entries are said.
  What an instruction makes of a thread's state (Step's parts), over the translation of this seat. Conditions: the blocks that are named hold what is said.
-/
import Derived.Test.YtagmlijhgncklaaGreatDoorW19
import Derived.MapKept
set_option linter.unusedVariables false
namespace Go.Proofs.YtagmlijhgncklaaGreatDoor
open Go.RowKit

/-- Block r is a map from numbers; its entries in their order. -/
def MapH (w : World) (r : Nat) (L : List (Int × Value)) : Prop := ∃ (es : Array MapEntry) (clock : Nat), w.heap[r]? = some (.map es clock) ∧ es.toList.map (fun e => (e.key, e.val)) = L.map (fun x => (Value.int .i64 x.1, x.2))
theorem MapH.reads {w w' : World} {r : Nat} {L : List (Int × Value)} (h : MapH w r L) (k : Below w.heap.size w w') : MapH w' r L := by
  obtain ⟨es, c, h1, h2⟩ := h
  exact ⟨es, c, below_has k h1, h2⟩
theorem MapH.new (w : World) : MapH (w.alloc (.map #[] 0)) w.heap.size [] := ⟨#[], 0, heap_alloc_new w _, rfl⟩
theorem find_none (k : Int) : ∀ (l : List MapEntry) (L : List (Int × Value)) (i : Nat), l.map (fun e => (e.key, e.val)) = L.map (fun x => (Value.int .i64 x.1, x.2)) → (L.any fun x => x.1 == k) = false → Instr.findNow (.int .i64) (.int .i64 k) l i = some none
  | [], _, _, _, _ => rfl
  | e :: l, [], _, h, _ => by simp at h
  | e :: l, x :: L, i, h, hk => by
    simp only [List.map_cons, List.cons.injEq, Prod.mk.injEq] at h
    simp only [List.any_cons, Bool.or_eq_false_iff, beq_eq_false_iff_ne] at hk
    have hs : Instr.sameNow (.int .i64) (.int .i64 k) e.key = some false := by
      rw [h.1.1]
      simp [Instr.sameNow]
      exact fun q => hk.1 q.symm
    simp only [Instr.findNow, hs]
    exact find_none k l L (i + 1) h.2 hk.2
theorem find_some (k : Int) (v : Value) : ∀ (l : List MapEntry) (L : List (Int × Value)) (i : Nat), l.map (fun e => (e.key, e.val)) = L.map (fun x => (Value.int .i64 x.1, x.2)) → (L.find? fun x => x.1 == k) = some (k, v) → ∃ j, Instr.findNow (.int .i64) (.int .i64 k) l i = some (some (j, v))
  | [], [], _, _, hk => by simp at hk
  | [], _ :: _, _, h, _ => by simp at h
  | e :: l, [], _, h, _ => by simp at h
  | e :: l, x :: L, i, h, hk => by
    simp only [List.map_cons, List.cons.injEq, Prod.mk.injEq] at h
    by_cases hx : x.1 = k
    · have hs : Instr.sameNow (.int .i64) (.int .i64 k) e.key = some true := by
        rw [h.1.1, hx]
        simp [Instr.sameNow]
      have hv : x = (k, v) := by simpa [List.find?_cons, hx] using hk
      refine ⟨i, ?_⟩
      simp only [Instr.findNow, hs, h.1.2, hv]
    · have hs : Instr.sameNow (.int .i64) (.int .i64 k) e.key = some false := by
        rw [h.1.1]
        simp [Instr.sameNow]
        exact fun q => hx q.symm
      have hb : (x.1 == k) = false := by simpa using hx
      rw [List.find?_cons, hb] at hk
      simp only [Instr.findNow, hs]
      exact find_some k v l L (i + 1) h.2 hk
theorem MapH.lookup {w : World} {r : Nat} {L : List (Int × Value)} (h : MapH w r L) (mty kt et : TypeId) (hm : Tryz.prog.underlying mty = some (.map kt et)) (hk : Tryz.prog.underlying kt = some (.int .i64)) (k : Int) (v : Value) (hf : (L.find? fun x => x.1 == k) = some (k, v)) : (Instr.lookup mty (.map (some r)) (.int .i64 k) true).run Tryz.prog w = .ok (.tuple #[v, .bool true]) w := by
  obtain ⟨es, c, h1, h2⟩ := h
  obtain ⟨j, hj⟩ := find_some k v es.toList L 0 h2 hf
  have hc : (Instr.checkKey es.isEmpty 10000 kt (.int .i64 k)).run Tryz.prog w = .ok () w := MapKept.run_checkKey (k := .int .i64 k) hk (by simp [MapKept.IsKey]) _ 9999
  simp [Instr.lookup, run_underlying hm, MapKept.run_getObj_map h1, hc, MapKept.run_findKey hk hj, Result.andThen]
theorem MapH.insert {w : World} {r : Nat} {L : List (Int × Value)} (h : MapH w r L) (mty kt et : TypeId) (hm : Tryz.prog.underlying mty = some (.map kt et)) (hk : Tryz.prog.underlying kt = some (.int .i64)) (k : Int) (v : Value) (hf : (L.any fun x => x.1 == k) = false) : ∃ w', (Instr.mapUpdate mty (.map (some r)) (.int .i64 k) v).run Tryz.prog w = .ok () w' ∧ MapH w' r (L ++ [(k, v)]) ∧ w.grownBy w' (some r) := by
  obtain ⟨es, c, h1, h2⟩ := h
  have hj := find_none k es.toList L 0 h2 hf
  have hc : (Instr.checkKey false 10000 kt (.int .i64 k)).run Tryz.prog w = .ok () w := MapKept.run_checkKey (k := .int .i64 k) hk (by simp [MapKept.IsKey]) _ 9999
  refine ⟨_, by simp [Instr.mapUpdate, run_underlying hm, MapKept.run_getObj_map h1, hc, MapKept.run_findKey hk hj, MapKept.run_setObj_map _ h1, Result.andThen]; rfl, ⟨_, _, (MapKept.heap_set h1).1, ?_⟩, ?_⟩
  · simp [h2]
  · exact ⟨rfl, rfl, rfl, by simp, fun i hi hne => (MapKept.heap_set h1).2 i (by simpa using hne)⟩
end Go.Proofs.YtagmlijhgncklaaGreatDoor
namespace Go.Proofs.YtagmlijhgncklaaGreatDoor
open Go.RowKit

theorem wpList_insert_int {ops : Array Oper} {rest : List Oper} {o : Oper} {a : Act} {w : World} {Q : Exit → Act → World → Prop} (hgd : o.guard = none) (mty : TypeId) (m kx vx : Operand) (ho : o.op = .insert mty m kx vx) (kt et : TypeId) (hu : Tryz.prog.underlying mty = some (.map kt et)) (hkt : Tryz.prog.underlying kt = some (.int .i64)) (r : Nat) (L : List (Int × Value)) (k : Int) (v : Value)
    (hm : a.eval m = .map (some r)) (hk : a.eval kx = .int .i64 k) (hv : a.eval vx = v) (h : MapH w r L) (hf : (L.any fun x => x.1 == k) = false) (h' : ∀ w', MapH w' r (L ++ [(k, v)]) → w.grownBy w' (some r) → wpList Tryz.prog ops Q rest (a.put o.dst undef) w') : wpList Tryz.prog ops Q (o :: rest) a w := by
  refine wpList_plain hgd fun K hK => ?_
  obtain ⟨w', hrun, hM, hg⟩ := h.insert mty kt et hu hkt k v hf
  unfold Oper.wp
  simp [execOp, ho, hm, hk, hv, hrun, Result.andThen]
  exact hK _ _ (h' w' hM hg)
def doesL : List (Int × Value) := [(1, .func (.func 295) #[] #[]), (2, .func (.func 296) #[] #[]), (3, .func (.func 297) #[] #[]), (4, .func (.func 298) #[] #[]), (5, .func (.func 299) #[] #[]), (6, .func (.func 300) #[] #[])]
/-- A step that turned nothing but a new block. -/
theorem below_grown {w w1 w2 : World} {r : Nat} (h : Below w.heap.size w w1) (g : w1.grownBy w2 (some r)) (hr : w.heap.size ≤ r) : Below w.heap.size w w2 :=
  ⟨g.os.trans h.os, g.tape.trans h.tape, g.output.trans h.output, Nat.le_trans h.size g.size, fun k hk => (g.block k (Nat.lt_of_lt_of_le hk h.size) (by simp; omega)).trans (h.block k hk)⟩
set_option maxRecDepth 100000 in
theorem does_c (w : World) : Calls Tryz.prog 148 #[] w fun e w' => ∃ r, e = .returned (.map (some r)) ∧ MapH w' r doesL ∧ Below w.heap.size w w' := by
  have hmm : ∀ w : World, (Instr.makeMap 335 none).run Tryz.prog w = .ok (.map (some w.heap.size)) (w.alloc (.map #[] 0)) := fun _ => rfl
  have H0 := Lib.hid (MapH.new w)
  have B0 := Lib.hid ((Below.refl w.heap.size w).alloc (Nat.le_refl _) (.map #[] 0))
  go_enter Tryz.func148, Tryz.ntmps148
  go_wp2_with (refine wpList_insert_int (by rfl) 335 (.tmp 1) _ _ (by rfl) 27 _ Tryz.underlying335 Tryz.underlying27 w.heap.size _ _ _ (by rfl) (by rfl) (by rfl) (by first | exact H0.out | assumption) (by rfl) ?_; intro w' hM hG; have B1 := below_grown (by first | exact B0.out | assumption) hG (Nat.le_refl _); clear hG)
  go_ret
  exact ⟨w.heap.size, rfl, by assumption, by assumption⟩
end Go.Proofs.YtagmlijhgncklaaGreatDoor
namespace Go.Proofs.YtagmlijhgncklaaGreatDoor.Code
open Go.RowKit Go.Proofs.YtagmlijhgncklaaGreatDoor

/-- A state: where it stands, eight registers. -/
def staO (pc : Int) (R : List Int) : Obj := .cells (.int .i64 pc :: R.map (Value.int .i64 ·)).toArray 247 (0, 0)
theorem in8_c (w : World) (n : Int) (h0 : 0 ≤ n) (h7 : n ≤ 7) : Calls Tryz.prog 149 #[.int .i64 n] w fun e w' => e = .returned (.bool true) ∧ w = w' := by
  have d0 : decide (0 ≤ n) = true := by simp; omega
  have d7 : decide (n ≤ 7) = true := by simp; omega
  go_enter Tryz.func149, Tryz.ntmps149
  go_wp2
  go_ret
  exact ⟨by simp [*], rfl⟩
set_option maxRecDepth 100000 in
theorem set_c (w : World) (s : Nat) (pc a b imm : Int) (d : Nat) (op : Int) (R : List Int) (hR : R.length = 8) (hd : d < 8) (hs : w.heap[s]? = some (staO pc R)) : Calls Tryz.prog 295 #[.agg #[.int .i64 op, .int .i64 d, .int .i64 a, .int .i64 b, .int .i64 imm], .pointer (some ⟨s, 0, none⟩)] w fun e w' => e = .returned (.tuple #[]) ∧ Upd w s (staO pc (R.set d imm)) w' := by
  have hx := below_alloc_has (o := .cells #[.int .i64 op, .int .i64 d, .int .i64 a, .int .i64 b, .int .i64 imm] 29) hs
  have hb := heap_alloc_new w (.cells #[.int .i64 op, .int .i64 d, .int .i64 a, .int .i64 b, .int .i64 imm] 29)
  have p1 := has_cell 1 hb rfl
  have p4 := has_cell 4 hb rfl
  obtain ⟨v, hv⟩ : ∃ v, R[d]? = some v := ⟨R[d], List.getElem?_eq_getElem (by omega)⟩
  have c0 : (w.alloc (.cells #[.int .i64 op, .int .i64 d, .int .i64 a, .int .i64 b, .int .i64 imm] 29)).cell? ⟨s, 1 + d, none⟩ = some (.int .i64 v) := has_cell (1 + d) hx (by rw [Nat.add_comm]; simp [hv])
  have f0 := has_free hx (1 + d)
  have i0 : (0 : Int) ≤ (d : Int) := by omega
  have i1 : (d : Int) < 8 := by omega
  have U := Lib.hid ((((Upd.refl hs).alloc (.cells #[.int .i64 op, .int .i64 d, .int .i64 a, .int .i64 b, .int .i64 imm] 29)).drew).setCell (1 + d) (.int .i64 imm))
  have HR := Lib.hid hR
  clear hx hs hb hv hR
  go_enter Tryz.func295, Tryz.ntmps295
  go_wp2
  refine still_tail 8 (by kernel_rfl) (by kernel_rfl) ?_
  simp only [List.take_succ_cons, List.take_zero, List.drop_succ_cons, List.drop_zero]
  repeat still_step
  refine wpStill_nil ?_
  go_wp2
  refine bodyPost_end (results_none rfl _ _ _) rfl ?_
  refine ⟨rfl, U.out.to ?_⟩
  simp only [staO, List.setIfInBounds_toArray, Nat.add_comm 1 d, List.set_cons_succ, List.map_set]
set_option maxRecDepth 100000 in
theorem add_c (w : World) (s : Nat) (pc imm x y : Int) (d a b : Nat) (op : Int) (R : List Int) (hR : R.length = 8) (hd : d < 8) (ha : R[a]? = some x) (hb : R[b]? = some y) (hs : w.heap[s]? = some (staO pc R)) : Calls Tryz.prog 297 #[.agg #[.int .i64 op, .int .i64 d, .int .i64 a, .int .i64 b, .int .i64 imm], .pointer (some ⟨s, 0, none⟩)] w fun e w' => e = .returned (.tuple #[]) ∧ Upd w s (staO pc (R.set d (wrap64 (x + y)))) w' := by
  have hx := below_alloc_has (o := .cells #[.int .i64 op, .int .i64 d, .int .i64 a, .int .i64 b, .int .i64 imm] 29) hs
  have hn := heap_alloc_new w (.cells #[.int .i64 op, .int .i64 d, .int .i64 a, .int .i64 b, .int .i64 imm] 29)
  have p1 := has_cell 1 hn rfl
  have p2 := has_cell 2 hn rfl
  have p3 := has_cell 3 hn rfl
  obtain ⟨v, hv⟩ : ∃ v, R[d]? = some v := ⟨R[d], List.getElem?_eq_getElem (by omega)⟩
  have ha8 : a < 8 := by have := (List.getElem?_eq_some_iff.1 ha).1; omega
  have hb8 : b < 8 := by have := (List.getElem?_eq_some_iff.1 hb).1; omega
  have c0 : (w.alloc (.cells #[.int .i64 op, .int .i64 d, .int .i64 a, .int .i64 b, .int .i64 imm] 29)).cell? ⟨s, 1 + d, none⟩ = some (.int .i64 v) := has_cell (1 + d) hx (by rw [Nat.add_comm]; simp [hv])
  have c1 : (w.alloc (.cells #[.int .i64 op, .int .i64 d, .int .i64 a, .int .i64 b, .int .i64 imm] 29)).cell? ⟨s, 1 + a, none⟩ = some (.int .i64 x) := has_cell (1 + a) hx (by rw [Nat.add_comm]; simp [ha])
  have c2 : (w.alloc (.cells #[.int .i64 op, .int .i64 d, .int .i64 a, .int .i64 b, .int .i64 imm] 29)).cell? ⟨s, 1 + b, none⟩ = some (.int .i64 y) := has_cell (1 + b) hx (by rw [Nat.add_comm]; simp [hb])
  have f0 := has_free hx (1 + d)
  have i0 : (0 : Int) ≤ (d : Int) := by omega
  have i1 : (d : Int) < 8 := by omega
  have j0 : (0 : Int) ≤ (a : Int) := by omega
  have j1 : (a : Int) < 8 := by omega
  have k0 : (0 : Int) ≤ (b : Int) := by omega
  have k1 : (b : Int) < 8 := by omega
  have U := Lib.hid ((((Upd.refl hs).alloc (.cells #[.int .i64 op, .int .i64 d, .int .i64 a, .int .i64 b, .int .i64 imm] 29)).drew).setCell (1 + d) (.int .i64 (wrap64 (x + y))))
  clear hx hs hn hv hR ha hb
  go_enter Tryz.func297, Tryz.ntmps297
  go_wp2
  refine still_tail 21 (by kernel_rfl) (by kernel_rfl) ?_
  simp only [List.take_succ_cons, List.take_zero, List.drop_succ_cons, List.drop_zero]
  repeat still_step
  refine wpStill_nil ?_
  go_wp2
  refine bodyPost_end (results_none rfl _ _ _) rfl ?_
  refine ⟨rfl, U.out.to ?_⟩
  simp only [staO, List.setIfInBounds_toArray, Nat.add_comm 1 d, List.set_cons_succ, List.map_set]
end Go.Proofs.YtagmlijhgncklaaGreatDoor.Code
