/- What the document's cancellation computes, over the translation of this seat. Conditions: the blocks that are named hold what is said. -/
import Derived.Test.YtdpeccbdacdkiaaC20Can4
import Derived.OwnWalk
import Derived.Deep.RegionLaw
namespace Go.Proofs.Ytdpeccbdacdkiaa
open Go.RowKit

def refO (s : Cs) (v : Value) : Obj := .cells #[.bool s.ak, .bool (!s.on), .bool s.ay, .bool s.un, v] 57 (0, 0)
structure RRef (w : World) (B r : Nat) (s : Cs) (v : Value) : Prop where
  ref : w.heap[r]? = some (refO s v)
  own : w.ownsRow B 30 2 v s.L.length (rowC s.L)
  nil : s.L = [] → v = .slice none 0 0
theorem own_mono {w : World} {base B : Nat} {e : TypeId} {k : Nat} {v : Value} {m : Nat} {xs : List Value} (h : w.ownsRow base e k v m xs) (hB : B ≤ base) : w.ownsRow B e k v m xs := by
  refine ⟨h.1, ?_⟩
  rcases h.2 with h | ⟨g, cap, cur, e, hb, r⟩
  · exact .inl h
  · exact .inr ⟨g, cap, cur, e, by omega, r⟩
theorem own_below {w w' : World} {base : Nat} {e : TypeId} {k : Nat} {v : Value} {m : Nat} {xs : List Value} (h : w.ownsRow base e k v m xs) (hb : Below w.heap.size w w') : w'.ownsRow base e k v m xs := by
  refine ⟨h.1, ?_⟩
  rcases h.2 with h | ⟨g, cap, cur, e, hB, hg, r⟩
  · exact .inl h
  · exact .inr ⟨g, cap, cur, e, hB, below_has hb hg, r⟩
theorem own_upd {w w' : World} {base : Nat} {e : TypeId} {k b : Nat} {o : Obj} {v : Value} {m : Nat} {xs : List Value} (h : w.ownsRow base e k v m xs) (u : Upd w b o w') (hb : v.ownBlock ≠ some b) : w'.ownsRow base e k v m xs := by
  refine ⟨h.1, ?_⟩
  rcases h.2 with h | ⟨g, cap, cur, rfl, hB, hg, r⟩
  · exact .inl h
  · exact .inr ⟨g, cap, cur, rfl, hB, u.other hg (fun e => hb (by rw [← e]; rfl)), r⟩
theorem own_far {w : World} {base b k : Nat} {e : TypeId} {v : Value} {m : Nat} {xs : List Value} {cs : Array Value} {T : TypeId} {fz : Nat × Nat} (h : w.ownsRow base e k v m xs) (hb : w.heap[b]? = some (.cells cs T fz)) (hT : T ≠ e) : v.ownBlock ≠ some b := by
  rcases h.2 with ⟨rfl, _⟩ | ⟨g, cap, cur, rfl, _, hg, _⟩
  · simp [Value.ownBlock]
  · simp only [Value.ownBlock, ne_eq, Option.some.injEq]
    rintro rfl
    rw [hb] at hg
    injection hg with hg
    injection hg with _ hg
    exact hT hg
/-- A row of cleanups, its cells. -/
theorem own_row {w : World} {B : Nat} {v : Value} {L : List (Int × Int)} (h : w.ownsRow B 30 2 v L.length (rowC L)) (hn : L = [] → v = .slice none 0 0) :
    ∃ (a : Option Addr) (cap : Nat), v = .slice a L.length cap ∧ (0 < L.length → ∃ g, a = some ⟨g, 0, none⟩ ∧ B ≤ g ∧ g < w.heap.size ∧ L.length ≤ cap ∧ ∀ k, k < L.length → w.cell? ⟨g, k * 2, none⟩ = some (.int .i64 (at0 L k)) ∧ w.cell? ⟨g, k * 2 + 1, none⟩ = some (.int .i64 (at1 L k))) := by
  rcases h.2 with ⟨rfl, h0⟩ | ⟨g, cap, cur, rfl, hb, hg, hc, _, hs, ht⟩
  · exact ⟨none, 0, by rw [h0], fun h => by omega⟩
  · refine ⟨_, cap, rfl, fun _ => ⟨g, rfl, hb, has_lt hg, hc, fun k hk => ?_⟩⟩
    obtain ⟨r1, r2⟩ := rowC_get L k hk
    have e : ∀ j, j < L.length * 2 → cur[j]? = (rowC L)[j]? := fun j hj => by
      rw [← ht, List.getElem?_take_of_lt hj]
      simp
    exact ⟨has_cell _ hg (by rw [e _ (by omega), r1]), has_cell _ hg (by rw [e _ (by omega), r2])⟩
theorem info30 : (Try.prog.info? 30).map (fun i => (i.zero, i.size, i.bytes)) = some (some (.agg #[.int .i64 0, .int .i64 0]), 2, 16) := by kernel_rfl
theorem info_parts {e : TypeId} {z : Value} {s b : Nat} (h : (Try.prog.info? e).map (fun i => (i.zero, i.size, i.bytes)) = some (some z, s, b)) : ∃ i, Try.prog.info? e = some i ∧ i.zero = some z ∧ i.size = s ∧ i.bytes = b := by
  cases hi : Try.prog.info? e with
  | none => rw [hi] at h; cases h
  | some i =>
    rw [hi] at h
    simp only [Option.map_some, Option.some.injEq, Prod.mk.injEq] at h
    exact ⟨i, rfl, h.1, h.2.1, h.2.2⟩
theorem run_append_nils {P : Program} (t ty e : TypeId) (i : TypeInfo) (ht : P.underlying t = some (.slice e)) (hi : P.info? e = some i) (w : World) :
    (Builtin.append_ #[t, t] ty #[.slice none 0 0, .slice none 0 0]).run P w = .ok (.slice none 0 0) w := by
  simp [Builtin.append_, run_underlying ht, sizeOf, typeInfo, hi, Builtin.lenOf, run_firstCells_none]
theorem rowC_one {L : List (Int × Int)} : ∀ v ∈ rowC L, v.oneCell' = true := by
  intro v h
  simp only [rowC, List.mem_flatMap, plc, List.mem_cons, List.not_mem_nil, or_false] at h
  obtain ⟨p, _, rfl | rfl⟩ := h <;> rfl
/-- What append onto nil of an own row leaves: a new row. -/
theorem run_list (w : World) (ty : TypeId) {B : Nat} {v : Value} {L : List (Int × Int)} (hown : w.ownsRow B 30 2 v L.length (rowC L)) (hl : L.length ≤ 1000) :
    ∃ v' w', (Builtin.append_ #[37, 37] ty #[.slice none 0 0, v]).run Try.prog w = .ok v' w' ∧ w'.ownsRow w.heap.size 30 2 v' L.length (rowC L) ∧ Below w.heap.size w w' ∧ (L = [] → v' = .slice none 0 0) := by
  obtain ⟨i, hi, hz0, hz1, hz2⟩ := info_parts info30
  rcases hown.2 with ⟨rfl, h0⟩ | ⟨g, cap, cur, rfl, hb, hg, hc, _, hs, ht⟩
  · obtain rfl := List.length_eq_zero_iff.1 h0
    exact ⟨_, w, run_append_nils 37 ty 30 i Try.underlying37 hi w, World.ownsRow_nil _ _ _ _, Below.refl _ _, fun _ => rfl⟩
  · have hcell : ∀ k, k < L.length → w.cell? ⟨g, k * 2, none⟩ = some (.int .i64 (at0 L k)) ∧ w.cell? ⟨g, k * 2 + 1, none⟩ = some (.int .i64 (at1 L k)) := fun k hk => by
      obtain ⟨r1, r2⟩ := rowC_get L k hk
      have e : ∀ j, j < L.length * 2 → cur[j]? = (rowC L)[j]? := fun j hj => by
        rw [← ht, List.getElem?_take_of_lt hj]
        simp
      exact ⟨has_cell _ hg (by rw [e _ (by omega), r1]), has_cell _ hg (by rw [e _ (by omega), r2])⟩
    obtain ⟨v', w', hr, h2, h3, h4⟩ := run_append_own (P := Try.prog) w w.heap.size 37 ty 30 i (.agg #[.int .i64 0, .int .i64 0]) 2 16 Try.underlying37 hi hz0 hz1 hz2 rfl (by decide) (.slice none 0 0) 0 [] (World.ownsRow_nil _ _ _ _)
      ⟨g, 0, none⟩ L.length cap (rowC L) (rowC_length L) (fun j u hu => by
        have hj : j < (rowC L).length := by
          rcases Nat.lt_or_ge j (rowC L).length with h | h
          · exact h
          · rw [List.getElem?_eq_none h] at hu; cases hu
        rw [rowC_length] at hj
        obtain ⟨r1, r2⟩ := rowC_get L (j / 2) (by omega)
        obtain ⟨c1, c2⟩ := hcell (j / 2) (by omega)
        rw [show (⟨g, 0, none⟩ : Addr).add j = ⟨g, j, none⟩ by by_cases h0 : j = 0 <;> simp [Addr.add, h0]]
        rcases Nat.mod_two_eq_zero_or_one j with hm | hm
        · have e : j / 2 * 2 = j := by omega
          rw [e] at r1 c1
          rw [c1, ← r1, hu]
        · have e : j / 2 * 2 + 1 = j := by omega
          rw [e] at r2 c2
          rw [c2, ← r2, hu]) rowC_one (by unfold maxLen; omega) (by omega) (Nat.le_refl _)
    refine ⟨v', w', hr, by simpa using h2, ⟨h3.os, h3.tape, h3.output, h3.size, fun k hk => h3.block k hk (by simp [Value.ownBlock])⟩, fun h => h4.2 ⟨rfl, by rw [h]; rfl⟩⟩
theorem run_one (w : World) (ty : TypeId) {base : Nat} {v : Value} {m : Nat} {xs : List Value} (hown : w.ownsRow base 30 2 v m xs) (g : Nat) (p q : Int) (h0 : w.cell? ⟨g, 0, none⟩ = some (.int .i64 p)) (h1 : w.cell? ⟨g, 1, none⟩ = some (.int .i64 q)) (hm : m ≤ 1000) (hbase : base ≤ w.heap.size) :
    ∃ v' w', (Builtin.append_ #[37, 37] ty #[v, .slice (some ⟨g, 0, none⟩) 1 1]).run Try.prog w = .ok v' w' ∧ w'.ownsRow base 30 2 v' (m + 1) (xs ++ [.int .i64 p, .int .i64 q]) ∧ w.grownBy w' v.ownBlock := by
  obtain ⟨i, hi, hz0, hz1, hz2⟩ := info_parts info30
  obtain ⟨v', w', hr, h2, h3, _⟩ := run_append_own (P := Try.prog) w base 37 ty 30 i (.agg #[.int .i64 0, .int .i64 0]) 2 16 Try.underlying37 hi hz0 hz1 hz2 rfl (by decide) v m xs hown
    ⟨g, 0, none⟩ 1 1 [.int .i64 p, .int .i64 q] rfl (fun j u hu => by
      match j with
      | 0 => simp at hu; subst hu; simpa [Addr.add] using h0
      | 1 => simp at hu; subst hu; simpa [Addr.add] using h1
      | j + 2 => simp at hu) (by intro y hy; simp at hy; rcases hy with rfl | rfl <;> rfl) (by unfold maxLen; omega) (by omega) hbase
  exact ⟨v', w', hr, h2, h3⟩
section
variable {ops : Array Oper} {o : Oper} {a : Act} {w : World} {K : Act → World → Prop} {Q : Exit → Act → World → Prop} {E : Prop}
theorem step_list {B : Nat} {L : List (Int × Int)} (hg : o.guard = none) (s x : Operand) (hop : o.op = Op.call { callee := Callee.builtin Builtin.append, args := #[s, x], argTypes := #[37, 37] })
    (hs : a.eval s = .slice none 0 0) (v : Value) (hx : a.eval x = v) (hown : w.ownsRow B 30 2 v L.length (rowC L)) (hl : L.length ≤ 1000)
    (hK : ∀ v' w', w'.ownsRow w.heap.size 30 2 v' L.length (rowC L) → Below w.heap.size w w' → (L = [] → v' = .slice none 0 0) → K (a.put o.dst v') w') :
    if Region.wanted o (yielded ops a.tmps) = true then Oper.wp Try.prog o a w K Q else E := by
  have hw : Region.wanted o (yielded ops a.tmps) = true := by simp [Region.wanted, hg]
  rw [if_pos hw]
  obtain ⟨v', w', hr, r1, r2, r3⟩ := run_list w o.type hown hl
  unfold Oper.wp
  simp [execOp, hop, resolve, invoke, builtin, hs, hx, hr, Result.andThen]
  exact hK v' w' r1 r2 r3
theorem step_one {base m : Nat} {xs : List Value} (hg : o.guard = none) (s x : Operand) (hop : o.op = Op.call { callee := Callee.builtin Builtin.append, args := #[s, x], argTypes := #[37, 37] })
    (v : Value) (hs : a.eval s = v) (hown : w.ownsRow base 30 2 v m xs) (g : Nat) (hx : a.eval x = .slice (some ⟨g, 0, none⟩) 1 1) (p q : Int) (h0 : w.cell? ⟨g, 0, none⟩ = some (.int .i64 p)) (h1 : w.cell? ⟨g, 1, none⟩ = some (.int .i64 q)) (hm : m ≤ 1000) (hbase : base ≤ w.heap.size)
    (hK : ∀ v' w', w'.ownsRow base 30 2 v' (m + 1) (xs ++ [.int .i64 p, .int .i64 q]) → w.grownBy w' v.ownBlock → K (a.put o.dst v') w') :
    if Region.wanted o (yielded ops a.tmps) = true then Oper.wp Try.prog o a w K Q else E := by
  have hw : Region.wanted o (yielded ops a.tmps) = true := by simp [Region.wanted, hg]
  rw [if_pos hw]
  obtain ⟨v', w', hr, r1, r2⟩ := run_one w o.type hown g p q h0 h1 hm hbase
  unfold Oper.wp
  simp [execOp, hop, resolve, invoke, builtin, hs, hx, hr, Result.andThen]
  exact hK v' w' r1 r2
end
theorem below_of_grown {w w' : World} {v : Value} {base B k : Nat} {e : TypeId} {m : Nat} {xs : List Value} (hv : w.ownsRow base e k v m xs) (h : w.grownBy w' v.ownBlock) (hB : B ≤ base) (hs : B ≤ w.heap.size) : Below B w w' :=
  ⟨h.os, h.tape, h.output, h.size, fun k hk => h.block k (by omega) (fun e' => by
    rcases hv.2 with ⟨rfl, _⟩ | ⟨g, cap, cur, rfl, hg, _⟩
    · simp [Value.ownBlock] at e'
    · simp [Value.ownBlock] at e'; omega)⟩
theorem rnew_c (w : World) : Calls Try.prog 8 #[] w fun e w' => e = .returned (.pointer (some ⟨w.heap.size, 0, none⟩)) ∧ w'.heap[w.heap.size]? = some (refO newS (.slice none 0 0)) ∧ Below w.heap.size w w' ∧ w.heap.size < w'.heap.size := by
  go_enter Try.func8, Try.ntmps8
  go_wp2
  go_ret
  refine ⟨rfl, ?_, (Below.refl _ _).alloc (Nat.le_refl _) _, by simp⟩
  rw [heap_alloc_new]
  rfl
end Go.Proofs.Ytdpeccbdacdkiaa
