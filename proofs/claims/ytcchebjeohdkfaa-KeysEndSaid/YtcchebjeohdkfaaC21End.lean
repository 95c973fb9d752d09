/- The walk of KeysEnd: it returns true, and turns nothing that was there. Conditions: three slices of numbers; the first has room for its elements. -/
import Derived.Test.YtcchebjeohdkfaaC21Known
import Derived.Test.YtcchebjeohdkfaaLift
import Derived.Test.YtcchebjeohdkfaaCap
import Derived.Deep.RegionLaw
import Derived.Laws.AppendOwn
namespace Go.Proofs.Ytcchebjeohdkfaa
open Go.RowKit

abbrev intSc : List Sc := [.i .i64]
theorem int_cells {w : World} {a : Option Addr} {len : Nat} (h : IsRows w intSc a len) (h0 : 0 < len) :
    ∃ (b off : Nat) (l : List Int), a = some ⟨b, off, none⟩ ∧ l.length = len ∧ b < w.heap.size ∧ ∀ k, k < len → w.cell? ⟨b, off + k, none⟩ = some (.int .i64 (l.getD k 0)) := by
  rcases h with h | ⟨b, off, rfl, _, hb, h⟩
  · omega
  · have hq : ∀ k : Nat, ∃ x : Int, k < len → w.cell? ⟨b, off + k, none⟩ = some (.int .i64 x) := fun k => by
      by_cases hk : k < len
      · obtain ⟨cs, hf, hc⟩ := h k hk
        have hl : cs.length = 1 := hf.len
        match cs, hl with
        | [x], _ =>
          obtain ⟨⟨y, hy, _⟩, _⟩ := hf
          have := hc 0 (by decide)
          simp only [List.length_cons, List.length_nil, Nat.zero_add, Nat.mul_one, Nat.add_zero, List.getElem?_cons_zero] at this
          exact ⟨y, fun _ => by rw [this, hy]⟩
      · exact ⟨0, fun h => absurd h hk⟩
    refine ⟨b, off, (List.range len).map fun k => (hq k).choose, rfl, by simp, hb h0, fun k hk => ?_⟩
    rw [(hq k).choose_spec hk, List.getD_eq_getElem?_getD, List.getElem?_map, List.getElem?_range hk]
    rfl

/-- Keys that are made so far, with their destructors; the second thread's values are 77. -/
structure MadeTo (s : Ks) (n T : Nat) (l : List Int) : Prop where
  cnt : s.n = n
  made : ∀ i, i < T → (s.k i).is = true ∧ (s.k i).d = l.getD i 0 ∧ (s.k i).v 2 = 77
  free : ∀ i, T ≤ i → i < n → (s.k i).is = false
  e : s.e 1 = noEnd
theorem made0 (n : Nat) (l : List Int) : MadeTo (newK n) n 0 l := ⟨rfl, fun i h => absurd h (Nat.not_lt_zero _), fun _ _ _ => rfl, rfl⟩
theorem made_free {s : Ks} {n T : Nat} {l : List Int} (h : MadeTo s n T l) (hT : T < n) : freeF s = some T :=
  first_of (Nat.zero_le _) (by rw [h.cnt]; exact hT) (by simp [h.free T (Nat.le_refl _) hT]) (fun j _ hj => by simp [(h.made j hj).1])
theorem made_next {s : Ks} {n T : Nat} {l l' : List Int} {d : Int} (h : MadeTo s n T l) (hT : T < n) (hd : l'.getD T 0 = d) (hl : ∀ i, i < T → l'.getD i 0 = l.getD i 0) : MadeTo (setF (makeF s T d) 2 T 77) n (T + 1) l' := by
  have e0 : eF (makeF s T d) 2 (T : Int) = 0 := eF_nat (t := 2) (by decide) (by show T < s.n; rw [h.cnt]; exact hT) (by simp [makeF, put_self])
  have e : setF (makeF s T d) 2 T 77 = { makeF s T d with k := put (makeF s T d).k T { (makeF s T d).k T with v := put ((makeF s T d).k T).v 2 77 } } := by
    unfold setF
    rw [if_pos e0]
    simp
  rw [e]
  refine ⟨h.cnt, fun i hi => ?_, fun i h1 h2 => ?_, h.e⟩
  · by_cases hit : i = T
    · subst hit
      rw [List.getD_eq_getElem?_getD] at hd
      simp [makeF, put_self, hd]
    · have := h.made i (by omega)
      simp only [makeF, put_ne _ _ hit]
      rw [hl i (by omega)]
      exact this
  · have := h.free i (by omega) h2
    simp only [makeF, put_ne _ _ (show i ≠ T by omega)]
    exact this
theorem made_set {s : Ks} {n T : Nat} {l : List Int} (i : Nat) (v : Int) (h : MadeTo s n T l) (hT : T ≤ n) (hi : i < T) : MadeTo (setF s 1 i v) n T l := by
  have hm := h.made i hi
  have e0 : eF s 1 (i : Int) = 0 := eF_nat (t := 1) (by decide) (by rw [h.cnt]; omega) hm.1
  have e : setF s 1 i v = { s with k := put s.k i { s.k i with v := put (s.k i).v 1 v } } := by
    unfold setF
    rw [if_pos e0]
    simp
  rw [e]
  refine ⟨h.cnt, fun j hj => ?_, fun j h1 h2 => ?_, h.e⟩
  · by_cases hji : j = i
    · subst hji
      simp only [put_self]
      exact ⟨hm.1, hm.2.1, by simp only [put_ne _ _ (show (2 : Nat) ≠ 1 by decide)]; exact hm.2.2⟩
    · simp only [put_ne _ _ hji]
      exact h.made j hj
  · simp only [put_ne _ _ (show j ≠ i by omega)]
    exact h.free j h1 h2

/-- What the first loop leaves. -/
structure EndA (w W : World) (b g off n : Nat) (s : Ks) (l : List Int) : Prop where
  below : Below w.heap.size w W
  ks : W.heap[b]? = some (kO s)
  ok : KOk s
  lb : w.heap.size ≤ b
  len : l.length = n
  lg : g < W.heap.size
  row : ∀ k, k < n → W.cell? ⟨g, off + k, none⟩ = some (.int .i64 (l.getD k 0))

theorem EndA.set {w W W' : World} {b g off n : Nat} {s s' : Ks} {l : List Int} (h : EndA w W b g off n s l) (u : Upd W b (kO s') W') (ok : KOk s') (hg : g ≠ b) : EndA w W' b g off n s' l :=
  ⟨h.below.trans (u.below h.lb h.below.size), u.1, ok, h.lb, h.len, Nat.lt_of_lt_of_le h.lg u.2.size, fun k hk => (World.cell?_of_block (u.2.block g h.lg (by simpa using hg))).trans (h.row k hk)⟩
theorem EndA.reads {w W W' : World} {b g off n : Nat} {s : Ks} {l : List Int} (h : EndA w W b g off n s l) (u : Below W.heap.size W W') : EndA w W' b g off n s l :=
  ⟨below_reads h.below u h.below.size, below_has u h.ks, h.ok, h.lb, h.len, Nat.lt_of_lt_of_le h.lg u.size, fun k hk => (u.cell (p := ⟨g, _, none⟩) h.lg).trans (h.row k hk)⟩
/-- Another block is written. -/
theorem EndA.other {w W W' : World} {b g off n x : Nat} {o : Obj} {s : Ks} {l : List Int} (h : EndA w W b g off n s l) (u : Upd W x o W') (hw : w.heap.size ≤ x) (hb : b ≠ x) (hg : g ≠ x) : EndA w W' b g off n s l :=
  ⟨h.below.trans (u.below hw h.below.size), u.other h.ks hb, h.ok, h.lb, h.len, Nat.lt_of_lt_of_le h.lg u.2.size, fun k hk => (World.cell?_of_block (u.2.block g h.lg (by simpa using hg))).trans (h.row k hk)⟩
/-- The keys while a thread ends: all are made, the second thread's values are 77. -/
structure MadeK (s : Ks) (n : Nat) (l : List Int) : Prop where
  cnt : s.n = n
  made : ∀ i, i < n → (s.k i).is = true ∧ (s.k i).d = l.getD i 0 ∧ (s.k i).v 2 = 77
theorem MadeK.get {s : Ks} {n : Nat} {l : List Int} (h : MadeK s n l) {i t : Nat} (hi : i < n) (ht : t < 16) : getF s t i = (s.k i).v t := by
  unfold getF
  rw [if_pos (eF_nat ht (by rw [h.cnt]; exact hi) (h.made i hi).1)]
  simp
theorem MadeK.set {s : Ks} {n : Nat} {l : List Int} (h : MadeK s n l) {i : Nat} (hi : i < n) (v : Int) : MadeK (setF s 1 i v) n l ∧ (setF s 1 i v).e = s.e := by
  have hm := h.made i hi
  have e0 : eF s 1 (i : Int) = 0 := eF_nat (t := 1) (by decide) (by rw [h.cnt]; omega) hm.1
  have e : setF s 1 i v = { s with k := put s.k i { s.k i with v := put (s.k i).v 1 v } } := by
    unfold setF
    rw [if_pos e0]
    simp
  rw [e]
  refine ⟨⟨h.cnt, fun j hj => ?_⟩, rfl⟩
  by_cases hji : j = i
  · subst hji
    simp only [put_self]
    exact ⟨hm.1, hm.2.1, by simp only [put_ne _ _ (show (2 : Nat) ≠ 1 by decide)]; exact hm.2.2⟩
  · simp only [put_ne _ _ hji]
    exact h.made j hj
theorem getm_c {n : Nat} {l : List Int} (w : World) (b : Nat) (s : Ks) (t i : Nat) {y : Int} (h : w.heap[b]? = some (kO s)) (ok : KOk s) (hm : MadeK s n l) (hi : i < n) (ht : t < 16) (hy : (s.k i).v t = y) :
    Calls Try.prog 12 #[.pointer (some ⟨b, 0, none⟩), .int .i64 t, .int .i64 i] w fun e w' => e = .returned (.tuple #[.int .i64 y, .int .i64 0]) ∧ Below w.heap.size w w' := by
  have c := get_c w b s t i h ok
  rw [hm.get hi ht, hy, eF_nat ht (by rw [hm.cnt]; exact hi) (hm.made i hi).1] at c
  exact c
/-- One value is taken. -/
def takeS (s : Ks) (i : Nat) (e : En) : Ks := { s with k := put s.k i { s.k i with v := put (s.k i).v 1 0 }, e := put s.e 1 e }
theorem MadeK.take {s : Ks} {n : Nat} {l : List Int} (h : MadeK s n l) {i : Nat} (hi : i < n) (e : En) : MadeK (takeS s i e) n l := by
  have hm := h.made i hi
  refine ⟨h.cnt, fun j hj => ?_⟩
  by_cases hji : j = i
  · subst hji
    simp only [takeS, put_self]
    exact ⟨hm.1, hm.2.1, by simp only [put_ne _ _ (show (2 : Nat) ≠ 1 by decide)]; exact hm.2.2⟩
  · simp only [takeS, put_ne _ _ hji]
    exact h.made j hj
theorem MadeK.ends {s : Ks} {n : Nat} {l : List Int} (h : MadeK s n l) (e : En) : MadeK { s with e := put s.e 1 e } n l := ⟨h.cnt, h.made⟩
theorem take_val (s : Ks) (i : Nat) (e : En) (k : Nat) : ((takeS s i e).k k).v 1 = if k = i then 0 else (s.k k).v 1 := by
  by_cases hk : k = i
  · subst hk
    simp [takeS, put_self]
  · simp [takeS, put_ne _ _ hk, hk]
/-- What the main loop leaves. -/
structure EndM (w W : World) (b g off n wb xb j : Nat) (s : Ks) (l : List Int) (f : Nat → Int) (d v : Int) : Prop where
  a : EndA w W b g off n s l
  was : W.heap[wb]? = some (.cells (rowI f 8).toArray 33 (0, 0))
  one : W.heap[xb]? = some (.cells #[.int .i64 d, .int .i64 v] 37 (0, 0))
  eqd : l.getD j 0 = d
  eqv : f j = v
  nz : v ≠ 0
  oth : ∀ k, k < n → (s.k k).v 1 = if k = j then 0 else f k
theorem EndM.reads {w W W' : World} {b g off n wb xb j : Nat} {s : Ks} {l : List Int} {f : Nat → Int} {d v : Int} (h : EndM w W b g off n wb xb j s l f d v) (u : Below W.heap.size W W') : EndM w W' b g off n wb xb j s l f d v :=
  ⟨h.a.reads u, below_has u h.was, below_has u h.one, h.eqd, h.eqv, h.nz, h.oth⟩
theorem was_cell {W : World} {wb : Nat} {f : Nat → Int} (h : W.heap[wb]? = some (.cells (rowI f 8).toArray 33 (0, 0))) {k : Nat} (hk : k < 8) : W.cell? ⟨wb, k, none⟩ = some (.int .i64 (f k)) :=
  has_cell k h (by rw [List.getElem?_toArray, rowI_get f hk])
theorem zero33 : (rowI (fun _ => 0) 8).toArray = #[.int .i64 0, .int .i64 0, .int .i64 0, .int .i64 0, .int .i64 0, .int .i64 0, .int .i64 0, .int .i64 0] := rfl
theorem set_getD {l : List Int} {T : Nat} {d : Int} (h : T < l.length) : (l.set T d).getD T 0 = d ∧ ∀ i, i < T → (l.set T d).getD i 0 = l.getD i 0 := by
  refine ⟨by simp [h], fun i hi => ?_⟩
  rw [List.getD_eq_getElem?_getD, List.getD_eq_getElem?_getD, List.getElem?_set_ne (by omega)]
/-- The walk's own list. -/
def OwnL (w : World) (B : Nat) (v : Value) (l : List Int) : Prop := w.ownsRow B 3 1 v l.length (l.map (.int .i64))
theorem own_nil (w : World) (B : Nat) : OwnL w B (.slice none 0 0) [] := World.ownsRow_nil _ _ _ _
theorem own_mono {w : World} {base B : Nat} {v : Value} {l : List Int} (h : OwnL w base v l) (hB : B ≤ base) : OwnL w B v l := by
  refine ⟨h.1, ?_⟩
  rcases h.2 with h | ⟨g, cap, cur, e, hb, r⟩
  · exact .inl h
  · exact .inr ⟨g, cap, cur, e, by omega, r⟩
theorem grown_of_below {w w' : World} (h : Below w.heap.size w w') (r : Option Nat) : w.grownBy w' r := ⟨h.os, h.tape, h.output, h.size, fun k hk _ => h.block k hk⟩
theorem own_below {w w' : World} {B : Nat} {v : Value} {l : List Int} (h : OwnL w B v l) (hb : Below w.heap.size w w') : OwnL w' B v l := World.ownsRow.kept h (grown_of_below hb none) (by cases v.ownBlock <;> simp)
theorem below_of_grown {w w' : World} {v : Value} {base B : Nat} {l : List Int} (hv : OwnL w base v l) (h : w.grownBy w' v.ownBlock) (hB : B ≤ base) (hs : B ≤ w.heap.size) : Below B w w' :=
  ⟨h.os, h.tape, h.output, h.size, fun k hk => h.block k (by omega) (fun e' => by
    rcases hv.2 with ⟨rfl, _⟩ | ⟨g, cap, cur, rfl, hg, _⟩
    · simp [Value.ownBlock] at e'
    · simp [Value.ownBlock] at e'; omega)⟩
theorem own_block {w : World} {B : Nat} {v : Value} {l : List Int} (h : OwnL w B v l) {k : Nat} (e : v.ownBlock = some k) : B ≤ k ∧ k < w.heap.size := by
  rcases h.2 with ⟨rfl, _⟩ | ⟨g, cap, cur, rfl, hg, hh, _⟩
  · simp [Value.ownBlock] at e
  · simp [Value.ownBlock] at e; subst e; exact ⟨hg, has_lt hh⟩
theorem info_parts {P : Program} {t : TypeId} {z : Value} {s b : Nat} (h : (P.info? t).map (fun i => (i.zero, i.size, i.bytes)) = some (some z, s, b)) : ∃ i, P.info? t = some i ∧ i.zero = some z ∧ i.size = s ∧ i.bytes = b := by
  cases hi : P.info? t with
  | none => rw [hi] at h; cases h
  | some i =>
    rw [hi] at h
    simp only [Option.map_some, Option.some.injEq, Prod.mk.injEq] at h
    exact ⟨i, rfl, h.1, h.2.1, h.2.2⟩
theorem info3 : (Try.prog.info? 3).map (fun i => (i.zero, i.size, i.bytes)) = some (some (.int .i64 0), 1, 8) := by kernel_rfl
/-- Behind some of the three appends. -/
structure ApW (w3 W : World) (v : Value) (L : List Int) : Prop where
  below : Below w3.heap.size w3 W
  own : OwnL W w3.heap.size v L
theorem ApW.alloc {w3 W : World} {v : Value} {L : List Int} (h : ApW w3 W v L) (o : Obj) : ApW w3 (W.alloc o) v L := ⟨h.below.alloc h.below.size _, own_below h.own ((Below.refl _ _).alloc (Nat.le_refl _) _)⟩
theorem ApW.ne {w3 W : World} {v : Value} {L : List Int} (h : ApW w3 W v L) : v.ownBlock ≠ some W.heap.size := fun e => by have := own_block h.own e; omega
theorem ap_lit {W : World} {B : Nat} {d : Int} (h : W.heap[B]? = some (.cells #[.int .i64 d] 3 (0, 0))) {k : Nat} (hk : k < [d].length) : W.cell? ⟨B, 0 + k, none⟩ = some (.int .i64 ([d].getD k 0)) := by
  have : k = 0 := by simpa using hk
  subst this
  exact has_cell 0 h rfl
theorem ap_kept {W W' : World} {o : Obj} {B : Nat} (hg : W.grownBy W' (Value.ownBlock (.slice none 0 0))) (h : W.heap[B]? = some o) : W'.heap[B]? = some o := (hg.block B (has_lt h) (by simp [Value.ownBlock])).trans h
theorem ap_out {w3 W : World} {v : Value} {L : List Int} {n : Nat} (h : ApW w3 W v L) (hn : L.length = n) (h0 : 1 ≤ n) : ∃ g cap, v = .slice (some ⟨g, 0, none⟩) n cap ∧ n ≤ cap ∧ w3.heap.size ≤ g ∧ ∀ k, k < n → W.cell? ⟨g, k, none⟩ = some (.int .i64 (L.getD k 0)) := by
  subst hn
  have hh := h.own
  rcases h.own.2 with ⟨rfl, h0'⟩ | ⟨g, cap, cur, rfl, hb, hg, hc, _⟩
  · omega
  · refine ⟨g, cap, rfl, by first | exact hc | omega, hb, fun k hk => ?_⟩
    rw [hh.cellAt k (by omega), List.getElem?_map, List.getElem?_eq_getElem hk, List.getD_eq_getElem?_getD, List.getElem?_eq_getElem hk]
    rfl
theorem has_cell_lt {W : World} {g n : Nat} {f : Nat → Value} (h : ∀ k, k < n → W.cell? ⟨g, k, none⟩ = some (f k)) (h0 : 1 ≤ n) : g < W.heap.size := World.block_lt_of_cell? W ⟨g, 0, none⟩ (h 0 h0)
theorem set_parts {l : List Int} {T : Nat} {d : Int} (h : T < l.length) : l.set T d = l.take T ++ [d] ++ l.drop (T + 1) := by
  rw [List.set_eq_take_append_cons_drop, if_pos h]
  simp
/-- A step of a region that draws: a row of numbers is appended to an own one. -/
theorem step_app {ops : Array Oper} {o : Oper} {a : Act} {w w3 : World} {K : Act → World → Prop} {Q : Exit → Act → World → Prop} {E : Prop} (hgd : o.guard = none) (s x : Operand)
    (ho : o.op = .call { callee := .builtin .append, args := #[s, x], argTypes := #[22, 22] }) (v : Value) (l : List Int) (hs : a.eval s = v) (hA : ApW w3 w v l) (L : List Int)
    (hx : ∃ ad c, a.eval x = .slice (some ad) L.length c ∧ (0 < L.length → ∃ g off, ad = ⟨g, off, none⟩ ∧ ∀ k, k < L.length → w.cell? ⟨g, off + k, none⟩ = some (.int .i64 (L.getD k 0)))) (hl : l.length + L.length ≤ 1000)
    (h : ∀ v' w', ApW w3 w' v' (l ++ L) → w.grownBy w' v.ownBlock → (v = .slice none 0 0 → OwnL w' w.heap.size v' L) → K (a.put o.dst v') w') :
    if Region.wanted o (yielded ops a.tmps) = true then Oper.wp Try.prog o a w K Q else E := by
  have hw : Region.wanted o (yielded ops a.tmps) = true := by simp [Region.wanted, hgd]
  rw [if_pos hw]
  obtain ⟨i, hi, hz0, hz1, hz2⟩ := info_parts info3
  obtain ⟨ad, c, hx, hc⟩ := hx
  have hn : ∀ j u, (L.map (Value.int .i64))[j]? = some u → w.cell? (ad.add j) = some u := fun j y hy => by
    rcases Nat.lt_or_ge j L.length with hj | hj
    · obtain ⟨g, off, rfl, hcc⟩ := hc (by omega)
      rw [List.getElem?_map, List.getElem?_eq_getElem hj] at hy
      simp only [Option.map_some, Option.some.injEq] at hy
      subst hy
      have := hcc j hj
      rw [List.getD_eq_getElem?_getD, List.getElem?_eq_getElem hj] at this
      rw [Addr.add_mid]
      exact this
    · rw [List.getElem?_eq_none (by simpa using hj)] at hy; cases hy
  have h1 : ∀ u ∈ L.map (Value.int .i64), u.oneCell' = true := by
    intro u hu
    simp only [List.mem_map] at hu
    obtain ⟨z, _, rfl⟩ := hu
    rfl
  have hsz := hA.below.size
  by_cases hv : v = .slice none 0 0
  · subst hv
    have h0 : l = [] := by
      rcases hA.own.2 with ⟨_, h0⟩ | ⟨g, cap, cur, e, _⟩
      · exact List.length_eq_zero_iff.1 h0
      · cases e
    subst h0
    obtain ⟨v', w', hrun, r1, r2, _⟩ := run_append_own (P := Try.prog) w w.heap.size 22 o.type 3 i (.int .i64 0) 1 8 Try.underlying22 hi hz0 hz1 hz2 rfl (by decide) (.slice none 0 0) 0 [] (World.ownsRow_nil _ _ _ _) ad L.length c (L.map (.int .i64)) (by simp) hn h1 (by unfold maxLen; omega) (by omega) (Nat.le_refl _)
    rw [Nat.zero_add, List.nil_append] at r1
    have hO : OwnL w' w.heap.size v' L := r1
    unfold Oper.wp
    simp [execOp, ho, resolve, invoke, builtin, hs, hx, hrun, Result.andThen]
    exact h v' w' ⟨below_reads hA.below (below_of_grown (own_nil w w.heap.size) r2 (Nat.le_refl _) (Nat.le_refl _)) hsz, own_mono hO hsz⟩ r2 (fun _ => hO)
  · obtain ⟨v', w', hrun, r1, r2, _⟩ := run_append_own (P := Try.prog) w w3.heap.size 22 o.type 3 i (.int .i64 0) 1 8 Try.underlying22 hi hz0 hz1 hz2 rfl (by decide) v l.length _ hA.own ad L.length c (L.map (.int .i64)) (by simp) hn h1 (by unfold maxLen; omega) (by omega) hsz
    have hO : OwnL w' w3.heap.size v' (l ++ L) := by unfold OwnL; rw [List.length_append, List.map_append]; exact r1
    unfold Oper.wp
    simp [execOp, ho, resolve, invoke, builtin, hs, hx, hrun, Result.andThen]
    exact h v' w' ⟨hA.below.trans (below_of_grown hA.own r2 (Nat.le_refl _) hsz), hO⟩ r2 (fun e => absurd e hv)

set_option maxRecDepth 100000 in
set_option maxHeartbeats 4000000 in
theorem end_walk (w : World) (a : Option Addr) (len cap : Nat) (hs : IsRows w intSc a len) (hcap : len ≤ cap) (a1 : Option Addr) (len1 cap1 : Nat) (hs1 : IsRows w intSc a1 len1) (a2 : Option Addr) (len2 cap2 : Nat) (hs2 : IsRows w intSc a2 len2) :
    Calls Try.prog 3 #[.slice a len cap, .slice a1 len1 cap1, .slice a2 len2 cap2] w fun e w' => e = .returned (.bool true) ∧ Below w.heap.size w w' := by
  have hm := hs.max
  have hm1 := hs1.max
  have hm2 := hs2.max
  unfold maxLen at hm hm1 hm2
  have HS := Lib.hid hs
  have HS1 := Lib.hid hs1
  have HS2 := Lib.hid hs2
  clear hs hs1 hs2
  by_cases hbad : 8 < len ∨ len = 0 ∨ 8 < len1 ∨ 60 < len2
  · clear hcap
    by_cases c1 : 8 < len
    · have d1 : decide ((8 : Int) < (len : Int)) = true := by rw [decide_eq_true_eq]; omega
      go_enter Try.func3, Try.ntmps3
      go_wp2_with fail
      refine (known_c w).mono ?_; rintro e w1 ⟨rfl, hB⟩
      go_wp2_with fail
      go_ret
      exact ⟨rfl, hB⟩
    · by_cases c2 : len = 0
      · subst c2
        go_enter Try.func3, Try.ntmps3
        go_wp2_with fail
        refine (known_c w).mono ?_; rintro e w1 ⟨rfl, hB⟩
        go_wp2_with fail
        go_ret
        exact ⟨rfl, hB⟩
      · by_cases c3 : 8 < len1
        · have d1 : decide ((8 : Int) < (len : Int)) = false := by rw [decide_eq_false_iff_not]; omega
          have d2 : ((len : Int) == 0) = false := by simp; omega
          have d3 : decide ((8 : Int) < (len1 : Int)) = true := by rw [decide_eq_true_eq]; omega
          go_enter Try.func3, Try.ntmps3
          go_wp2_with fail
          refine (known_c w).mono ?_; rintro e w1 ⟨rfl, hB⟩
          go_wp2_with fail
          go_ret
          exact ⟨rfl, hB⟩
        · have d1 : decide ((8 : Int) < (len : Int)) = false := by rw [decide_eq_false_iff_not]; omega
          have d2 : ((len : Int) == 0) = false := by simp; omega
          have d3 : decide ((8 : Int) < (len1 : Int)) = false := by rw [decide_eq_false_iff_not]; omega
          have d4 : decide ((60 : Int) < (len2 : Int)) = true := by rw [decide_eq_true_eq]; omega
          go_enter Try.func3, Try.ntmps3
          go_wp2_with fail
          refine (known_c w).mono ?_; rintro e w1 ⟨rfl, hB⟩
          go_wp2_with fail
          go_ret
          exact ⟨rfl, hB⟩
  have hl8 : len ≤ 8 := by omega
  have hl0 : 1 ≤ len := by omega
  have hv8 : len1 ≤ 8 := by omega
  have hw60 : len2 ≤ 60 := by omega
  clear hbad
  have HC := Lib.hid hcap
  have d1 : decide ((8 : Int) < (len : Int)) = false := by rw [decide_eq_false_iff_not]; omega
  have d2 : ((len : Int) == 0) = false := by rw [beq_eq_false_iff_ne]; omega
  have d3 : decide ((8 : Int) < (len1 : Int)) = false := by rw [decide_eq_false_iff_not]; omega
  have d4 : decide ((60 : Int) < (len2 : Int)) = false := by rw [decide_eq_false_iff_not]; omega
  go_enter Try.func3, Try.ntmps3
  go_wp2_with fail
  refine (known_c w).mono ?_; rintro e w1 ⟨rfl, hB⟩
  go_wp2_with fail
  refine (new_c _ len hl0 hl8).mono ?_; rintro e w2 ⟨rfl, hK, hB2, _⟩
  obtain ⟨b0, off0, l0, rfl, hll, hbl, hcells⟩ := int_cells HS.out hl0
  have hA : EndA w w2 w1.heap.size b0 off0 len (newK len) l0 := ⟨hB.trans (hB2.mono hB.size), hK, newK_ok hl0 hl8, hB.size, hll, Nat.lt_of_lt_of_le (Nat.lt_of_lt_of_le hbl hB.size) hB2.size, fun k hk => ((hB2.mono hB.size).cell (p := ⟨b0, _, none⟩) hbl).trans ((hB.cell (p := ⟨b0, _, none⟩) hbl).trans (hcells k hk))⟩
  have hgb : b0 < w1.heap.size := Nat.lt_of_lt_of_le hbl hB.size
  obtain ⟨b, hb⟩ : ∃ b, b = w1.heap.size := ⟨_, rfl⟩
  rw [← hb] at hA hgb ⊢
  have hgb' : b0 ≠ b := by omega
  clear hb hB hB2 hK hcells hbl hll hgb
  go_wp2_with (go_at_call 9; refine (num_c _ _).mono ?_; rintro e w' ⟨rfl, rfl⟩)
  clear d1 d2 d3 d4
  go_loopw [0, 9] (fun p i wr => ∃ (g off cap' T : Nat) (s : Ks) (l : List Int), p = .slice (some ⟨g, off, none⟩) len cap' ∧ len ≤ cap' ∧ i = .int .i64 T ∧ T ≤ len ∧ g ≠ b ∧ EndA w wr b g off len s l ∧ MadeTo s len T l) (fun _ i _ => len - (intOf i).toNat)
  case atStart => exact ⟨b0, off0, cap, 0, _, l0, rfl, HC.out, rfl, Nat.zero_le _, hgb', hA, made0 _ _⟩
  case round =>
    clear hA hgb'
    obtain ⟨g, off, cap', T, s, l, rfl, hcl, rfl, hT, hgb, hA, hM⟩ := hrel
    by_cases hlt : T < len
    · have q0 := hA.row T hlt
      obtain ⟨x, hx⟩ : ∃ x, x = l.getD T 0 := ⟨_, rfl⟩
      rw [← hx] at q0
      have HX := Lib.hid hx
      have HA := Lib.hid hA
      have HM := Lib.hid hM
      have HLT := Lib.hid hlt
      clear hx hA hM
      go_upto_region 12 with fail
      go_cut [71] from 56 to 106 (fun s71 wx => ∃ y : Bool, s71 = .bool y ∧ (y = false → -1 ≤ x ∧ x < 32) ∧ wx = wr)
      case first =>
        by_cases h1 : x < -1
        · go_wp2_with fail
          go_meet
          exact ⟨true, rfl, (fun h => by cases h), rfl⟩
        · by_cases h2 : 31 < x
          · go_wp2_with fail
            go_meet
            exact ⟨true, rfl, (fun h => by cases h), rfl⟩
          · go_wp2_with fail
            go_meet
            exact ⟨false, rfl, (fun _ => by omega), rfl⟩
      obtain ⟨y, rfl, hy, rfl⟩ := hcut
      go_upto_if 71 with fail
      go_cut [10] from 56 to 106 (fun s10 wx => ∃ d : Int, s10 = .int .i64 d ∧ -1 ≤ d ∧ d < 32 ∧ wx = wc)
      case first =>
        cases y with
        | true =>
          go_wp2_with fail
          go_meet
          exact ⟨-1, rfl, by omega, by omega, rfl⟩
        | false =>
          have hy' := hy rfl
          go_wp2_with fail
          go_meet
          exact ⟨x, rfl, hy'.1, hy'.2, rfl⟩
      case rest =>
        clear hy
        obtain ⟨d, rfl, hd1, hd2, rfl⟩ := hcut
        have hA := HA.out
        have hM := HM.out
        have hcr := create_c wc b s d hA.ks hA.ok ⟨hd1, hd2⟩
        rw [made_free hM HLT.out] at hcr
        clear q0
        go_wp2_with fail
        refine hcr.mono ?_; rintro e w3 ⟨rfl, u⟩
        clear hcr
        go_upto_region 17 with (go_at_call 9; refine (num_c _ _).mono ?_; rintro e w' ⟨rfl, rfl⟩)
        have hrow : ∀ k, k < len → w3.cell? ⟨g, off + k, none⟩ = some (.int .i64 (l.getD k 0)) := fun k hk => (World.cell?_of_block (u.2.block g hA.lg (by simpa using hgb))).trans (hA.row k hk)
        have hlg := Nat.lt_of_lt_of_le hA.lg u.2.size
        have hlen := hA.len
        have hcT : (T : Int) ≤ (cap' : Int) := by omega
        have hcT1 : (T : Int) + 1 ≤ (len : Int) := by omega
        have hcT2 : (len : Int) ≤ (cap' : Int) := by omega
        go_cut [0] from 56 to 106 (fun s0 wx => ∃ g' cap'', s0 = .slice (some ⟨g', 0, none⟩) len cap'' ∧ len ≤ cap'' ∧ Below w3.heap.size w3 wx ∧ w3.heap.size ≤ g' ∧ g' < wx.heap.size ∧ ∀ k, k < len → wx.cell? ⟨g', k, none⟩ = some (.int .i64 ((l.set T d).getD k 0)))
        case first =>
          clear hA hM
          have hA0 : ApW w3 w3.drew (.slice none 0 0) [] := ⟨below_drewN (Below.refl _ _) 1, own_nil _ _⟩
          have rd1 : ∀ W, Below w3.heap.size w3 W → ∀ k, k < (l.take T).length → W.cell? ⟨g, off + k, none⟩ = some (.int .i64 ((l.take T).getD k 0)) := fun W hW k hk => by
            rw [List.length_take] at hk
            rw [(hW.cell (p := ⟨g, off + k, none⟩) hlg).trans (hrow k (by omega)), List.getD_eq_getElem?_getD, List.getD_eq_getElem?_getD, List.getElem?_take_of_lt (by omega)]
          have rd2 : ∀ W, Below w3.heap.size w3 W → ∀ k, k < (l.drop (T + 1)).length → W.cell? ⟨g, off + (T + 1) + k, none⟩ = some (.int .i64 ((l.drop (T + 1)).getD k 0)) := fun W hW k hk => by
            rw [List.length_drop] at hk
            rw [Nat.add_assoc, (hW.cell (p := ⟨g, off + (T + 1 + k), none⟩) hlg).trans (hrow (T + 1 + k) (by omega)), List.getD_eq_getElem?_getD, List.getD_eq_getElem?_getD, List.getElem?_drop]
          have htk : (l.take T).length = T := by rw [List.length_take]; omega
          have hdk : (l.drop (T + 1)).length = len - (T + 1) := by rw [List.length_drop, hlen]
          obtain ⟨T1, hT1⟩ : ∃ T1, T1 = T + 1 := ⟨_, rfl⟩
          have hw1 : IntKind.i64.wrap ((T : Int) + 1) = (T1 : Int) := by rw [hT1, show ((T : Int) + 1) = ((T + 1 : Nat) : Int) by simp]; exact IntWalk.i64_in _ (by omega)
          have hw2 : T1 ≤ len := by omega
          rw [← hT1] at rd2 hdk
          have HT1 := Lib.hid hT1
          clear hT1
          have rd92 : ∀ W, Below w3.heap.size w3 W → ∃ ad c, Value.slice (if cap' = T1 then some ⟨g, off, none⟩ else some ⟨g, off + T1, none⟩) (len - T1) (cap' - T1) = .slice (some ad) (l.drop T1).length c ∧ (0 < (l.drop T1).length → ∃ g off, ad = ⟨g, off, none⟩ ∧ ∀ k, k < (l.drop T1).length → W.cell? ⟨g, off + k, none⟩ = some (.int .i64 ((l.drop T1).getD k 0))) := fun W hW => by
            by_cases hc : cap' = T1
            · exact ⟨_, cap' - T1, by rw [if_pos hc, hdk], fun h => by rw [hdk] at h; omega⟩
            · exact ⟨_, cap' - T1, by rw [if_neg hc, hdk], fun h => ⟨g, off + T1, rfl, rd2 W hW⟩⟩
          go_region_law (first
            | (refine step_app (w3 := w3) rfl (.const (.slice none 0 0)) (.tmp 83) rfl (.slice none 0 0) [] rfl hA0 (l.take T) ⟨⟨g, off, none⟩, cap', by simp [Act.eval, Act.put, htk], fun _ => ⟨g, off, rfl, rd1 _ hA0.below⟩⟩ (by rw [htk]; simp; omega) ?_; intro v4 w4 hA4 hg4 hn4)
            | (refine step_app (w3 := w3) rfl (.const (.slice none 0 0)) (.tmp 83) rfl (.slice none 0 0) [] rfl (hA0.alloc _) (l.take T) ⟨⟨g, off, none⟩, cap', by simp [Act.eval, Act.put, htk], fun _ => ⟨g, off, rfl, rd1 _ (hA0.alloc _).below⟩⟩ (by rw [htk]; simp; omega) ?_; intro v4 w4 hA4 hg4 hn4)
            | (refine step_app (w3 := w3) rfl (.tmp 84) (.tmp 86) rfl v4 (l.take T) rfl (hA4.alloc _) [d] ⟨⟨w4.heap.size, 0, none⟩, 1, rfl, fun _ => ⟨_, 0, rfl, fun k hk => ap_lit (heap_alloc_new _ _) hk⟩⟩ (by rw [htk]; simp; omega) ?_; intro v5 w5 hA5 hg5 hn5)
            | (refine step_app (w3 := w3) rfl (.tmp 84) (.tmp 86) rfl v4 (l.take T) rfl hA4 [d] ⟨⟨w3.heap.size, 0, none⟩, 1, rfl, fun _ => ⟨_, 0, rfl, fun k hk => ap_lit (ap_kept hg4 (heap_alloc_new _ _)) hk⟩⟩ (by rw [htk]; simp; omega) ?_; intro v5 w5 hA5 hg5 hn5)
            | (refine step_app (w3 := w3) rfl (.tmp 87) (.tmp 91) rfl v5 (l.take T ++ [d]) rfl hA5 (l.drop T1) (rd92 _ hA5.below) (by rw [hdk, List.length_append, htk]; simp; omega) ?_; intro v6 w6 hA6 hg6 hn6))
          all_goals
            obtain ⟨g', cap2, e2, h1, h2, h3⟩ := ap_out hA6 (show (l.take T ++ [d] ++ l.drop T1).length = len by have := HT1.out; rw [List.length_append, List.length_append, htk, hdk]; simp; omega) hl0
            subst e2
            go_wp2_with fail
            all_goals
              go_meet
              exact ⟨g', cap2, rfl, h1, hA6.below, h2, has_cell_lt h3 hl0, fun k hk => by rw [h3 k hk, HT1.out, ← set_parts (by omega)]⟩
        case rest =>
          obtain ⟨g', cap2', rfl, hc2, hb3, hlo, hlg', hrow'⟩ := hcut
          have hok3 := makeF_ok hA.ok T d
          have hA3 : EndA w wc b g' 0 len (makeF s T d) (l.set T d) :=
            ⟨below_reads (hA.below.trans (u.below hA.lb hA.below.size)) hb3 (Nat.le_trans hA.below.size u.2.size), below_has hb3 u.1, hok3, hA.lb, by rw [List.length_set]; exact hA.len, hlg', fun k hk => by rw [Nat.zero_add]; exact hrow' k hk⟩
          have hgb' : g' ≠ b := by have := has_lt u.1; omega
          obtain ⟨e1, e2⟩ := set_getD (d := d) (show T < l.length by rw [hlen]; exact HLT.out)
          have hM3 := made_next hM HLT.out e1 e2
          have HE := Lib.hid e2
          clear hA hM hb3 hlo hlg' hrow' u hrow hlg hlen e1 e2 hcT hcT1 hcT2
          go_wp2_with fail
          refine (set_c wc b _ 2 T 77 hA3.ks hok3).mono ?_; rintro e w5 ⟨rfl, u5⟩
          have hA5 := hA3.set u5 (setF_ok hok3 _ _ _) hgb'
          clear hA3 u5
          by_cases hv : T < len1
          · obtain ⟨b1, off1, l1, rfl, hl1, hbl1, hc1⟩ := int_cells HS1.out (by omega)
            have q1 := (hA5.below.cell (p := ⟨b1, off1 + T, none⟩) hbl1).trans (hc1 T hv)
            clear hc1 hl1 hbl1
            go_wp2_with fail
            refine (set_c w5 b _ 1 T _ hA5.ks hA5.ok).mono ?_; rintro e w6 ⟨rfl, u6⟩
            have hA6 := hA5.set u6 (setF_ok hA5.ok _ _ _) hgb'
            have hM6 := made_set T (l1.getD T 0) hM3 (Nat.succ_le_of_lt HLT.out) (Nat.lt_succ_self _)
            clear hA5 u6 hM3 q1
            go_wp2_with fail
            go_roundw
            case rel => exact ⟨g', 0, cap2', T + 1, _, _, rfl, hc2, by go_num, HLT.out, hgb', hA6, hM6⟩
            case measure => have := HLT.out; simp [intOf]; omega
          · go_wp2_with fail
            go_roundw
            case rel => exact ⟨g', 0, cap2', T + 1, _, _, rfl, hc2, by go_num, HLT.out, hgb', hA5, hM3⟩
            case measure => have := HLT.out; simp [intOf]; omega
    · obtain rfl : len = T := by omega
      have hMK : MadeK s len l := ⟨hM.cnt, hM.made⟩
      have hE : Ends len (s.e 1) 0 0 8 := ⟨.inl ⟨rfl, rfl, rfl, by rw [hM.e]; rfl⟩⟩
      clear hM HS
      go_wp2_with fail
      go_loopw [13, 14, 15] (fun c r q wx => ∃ (calls round last : Nat) (s : Ks), c = .int .i64 calls ∧ r = .int .i64 round ∧ q = .int .i64 last ∧ EndA w wx b g off len s l ∧ MadeK s len l ∧ Ends len (s.e 1) calls round last) (fun c _ _ _ => 4 * len - (intOf c).toNat)
      case atStart => exact ⟨0, 0, 8, s, rfl, rfl, rfl, hA, hMK, hE⟩
      case round =>
        clear hA hMK hE
        obtain ⟨calls, round, last, s, rfl, rfl, rfl, hA, hMK, hE⟩ := hrel
        go_upto_region 24 with fail
        refine world_wp (fun W => EndA w W b g off len s l ∧ W.heap[wr.heap.size]? = some (.cells (rowI (fun _ => 0) 8).toArray 33 (0, 0))) ⟨hA.reads ((Below.refl _ _).alloc (Nat.le_refl _) _), by rw [zero33]; exact heap_alloc_new _ _⟩ ?_
        rintro W0 ⟨hA0, hX0⟩
        have hgw := hA.lg
        have hbw := has_lt hA.ks
        have hww := hA.below.size
        obtain ⟨wb, hwb⟩ : ∃ wb, wr.heap.size = wb := ⟨_, rfl⟩
        rw [hwb] at hX0 hgw hbw hww ⊢
        clear hwb hA
        have HMK := Lib.hid hMK
        have HE := Lib.hid hE
        clear hMK hE
        go_wp2_with fail
        go_loopw [17] (fun i wx => ∃ (T : Nat) (f : Nat → Int), i = .int .i64 T ∧ T ≤ len ∧ EndA w wx b g off len s l ∧ wx.heap[wb]? = some (.cells (rowI f 8).toArray 33 (0, 0)) ∧ ∀ k, k < T → f k = (s.k k).v 1) (fun i _ => len - (intOf i).toNat)
        case atStart => exact ⟨0, _, rfl, Nat.zero_le _, hA0, hX0, fun k hk => absurd hk (Nat.not_lt_zero _)⟩
        case round =>
          clear hA0 hX0
          obtain ⟨T, f, rfl, hT, hA, hX, hf⟩ := hrel
          by_cases hlt : T < len
          · have hT8 : T < 8 := by omega
            have hTi : (T : Int) < 8 := by omega
            obtain ⟨y, hy⟩ : ∃ y, (s.k T).v 1 = y := ⟨_, rfl⟩
            have HF := Lib.hid hf
            have HLT := Lib.hid hlt
            have HY := Lib.hid hy
            clear hf hy
            go_wp2_with fail
            refine (getm_c wr b s 1 T hA.ks hA.ok HMK.out HLT.out (by decide) HY.out).mono ?_; rintro e W5 ⟨rfl, hb⟩
            have hX5 := below_has hb hX
            have hA5 := hA.reads hb
            have f5 := has_free hX5
            have U := (Upd.refl hX5).setCell T (.int .i64 y)
            have c5 := was_cell hX5 hT8
            clear hA hX hb
            go_wp2_with fail
            go_roundw
            case rel =>
              refine ⟨T + 1, fun k => if k = T then y else f k, by go_num, HLT.out, hA5.other U hww (by omega) (by omega), ?_, fun k hk => ?_⟩
              · have := U.1
                rwa [List.setIfInBounds_toArray, rowI_set _ _ hT8] at this
              · show (if k = T then y else f k) = (s.k k).v 1
                by_cases hkT : k = T
                · subst hkT
                  rw [if_pos rfl]
                  exact HY.out.symm
                · rw [if_neg hkT]
                  exact HF.out k (by omega)
            case measure => have := HLT.out; simp [intOf]; omega
          · obtain rfl : len = T := by omega
            have hf' : ∀ k, k < len → f k = (s.k k).v 1 := fun k hk => hf k (by omega)
            have HF := Lib.hid hf'
            have hnc := next_c wr b s 1 hA.ks hA.ok (by decide)
            clear hf hf' hlt hT
            cases hN : nextK s 1 with
            | mk e' o =>
              cases o with
              | none =>
                obtain ⟨h1, h2⟩ := next_none hN
                rw [h1, h2] at hnc
                simp only [nextV] at hnc
                have hokn := nextS_ok hA.ok 1
                rw [h1] at hokn
                have hmn := HMK.out.ends e'
                have hle := ends_bound HE.out
                obtain ⟨s', hs'⟩ : ∃ s' : Ks, s' = { s with e := put s.e 1 e' } := ⟨_, rfl⟩
                rw [← hs'] at hnc hokn hmn
                clear hN h1 h2 hs' HE
                go_wp2_with fail
                refine hnc.mono ?_; rintro e W5 ⟨rfl, u5⟩
                have hA5 := hA.set u5 hokn (by omega)
                clear hA hnc u5 hX
                go_upto_region 49 with fail
                refine world_wp (fun W => EndA w W b g off len s' l) (by first | exact hA5.reads ((Below.refl _ _).alloc (Nat.le_refl _) _) | exact hA5.reads (below_drewN ((Below.refl _ _).alloc (Nat.le_refl _) _) _)) ?_
                intro W6 hA6
                clear hA5
                go_wp2_with fail
                have HM := Lib.hid hmn
                have HLE := Lib.hid hle
                clear hmn hle
                go_loopw [24] (fun i wx => ∃ T : Nat, i = .int .i64 T ∧ T ≤ len ∧ EndA w wx b g off len s' l) (fun i _ => len - (intOf i).toNat)
                case atStart => exact ⟨0, rfl, Nat.zero_le _, hA6⟩
                case round =>
                  clear hA6
                  obtain ⟨T, rfl, hT, hA⟩ := hrel
                  by_cases hlt : T < len
                  · have HLT := Lib.hid hlt
                    go_wp2_with fail
                    refine (getm_c wr b s' 2 T hA.ks hA.ok HM.out HLT.out (by decide) (HM.out.made T HLT.out).2.2).mono ?_; rintro e W7 ⟨rfl, hb⟩
                    have hA7 := hA.reads hb
                    clear hA hb
                    go_wp2_with fail
                    go_roundw
                    case rel => exact ⟨T + 1, by go_num, HLT.out, hA7⟩
                    case measure => have := HLT.out; simp [intOf]; omega
                  · have hdc : decide ((calls : Int) ≤ 4 * (len : Int)) = true := by rw [decide_eq_true_eq]; have := HLE.out; omega
                    have hbl := hA.below
                    clear hA
                    go_wp2_with fail
                    go_ret
                    exact ⟨rfl, hbl⟩
              | some i =>
                obtain ⟨h1, h2⟩ := next_one hN
                rw [h1, h2] at hnc
                simp only [nextV] at hnc
                have hokn := nextS_ok hA.ok 1
                rw [h1] at hokn
                obtain ⟨i1, i2, i3, i4, i5⟩ := ends_step hl8 HE.out (by have := hN; unfold nextK at this; rw [HMK.out.cnt] at this; exact this)
                have hmt := HMK.out.take i1 e'
                have hml := HMK.out.made i i1
                have hv0 : (s.k i).v 1 ≠ 0 := by
                  unfold liveF at i2
                  simp only [Bool.and_eq_true, bne_iff_ne] at i2
                  exact i2.2
                have htv := take_val s i e'
                obtain ⟨R, hR⟩ : ∃ R, R = (if i ≤ last then round + 1 else round) := ⟨_, rfl⟩
                rw [← hR] at i3 i4 i5
                have hfi := HF.out i i1
                obtain ⟨y, hy⟩ : ∃ y, y = (s.k i).v 1 := ⟨_, rfl⟩
                obtain ⟨dd, hdd⟩ : ∃ dd, dd = (s.k i).d := ⟨_, rfl⟩
                have hnc0 : Calls Try.prog 13 #[.pointer (some ⟨b, 0, none⟩), .int .i64 (1 : Nat)] wr fun e w' => e = .returned (.tuple #[.agg #[.int .i64 (s.k i).d, .int .i64 ((s.k i).v 1)], .bool true]) ∧ Upd wr b (kO (takeS s i e')) w' := hnc
                rw [← hy, ← hdd] at hnc0
                rw [← hdd] at hml
                rw [← hy] at hv0 hfi
                have hokt : KOk (takeS s i e') := hokn
                have hot : ∀ k, k < len → ((takeS s i e').k k).v 1 = if k = i then 0 else f k := fun k hk => by rw [htv k, HF.out k hk]
                have hte : (takeS s i e').e 1 = e' := by simp [takeS, put_self]
                have hnc' := hnc0
                obtain ⟨s', hs'⟩ : ∃ s' : Ks, s' = takeS s i e' := ⟨_, rfl⟩
                rw [← hs'] at hnc' hokt hmt hot hte
                rw [← hte] at i3 i4
                clear hN h1 h2 hs' hnc hnc0 hokn htv hy hdd HE HMK HF hte i2
                go_wp2_with fail
                refine hnc'.mono ?_; rintro e W5 ⟨rfl, u5⟩
                have hA5 := hA.set u5 hokt (by omega)
                have hX5 := u5.other hX (by omega)
                have hwz := has_lt hX5
                have HI3 := Lib.hid i3
                have HI4 := Lib.hid i4
                have HI5 := Lib.hid i5
                have HR := Lib.hid hR
                have HOT := Lib.hid hot
                have HMT := Lib.hid hmt
                have HML := Lib.hid hml.2.1.symm
                have HFI := Lib.hid hfi
                have HV0 := Lib.hid hv0
                clear hA hnc' u5 hX i3 i4 i5 hR hot hmt hml hfi hv0
                go_upto_region 30 with fail
                refine world_wp (fun W => EndM w W b g off len wb W5.heap.size i s' l f dd y) ⟨hA5.reads ((Below.refl _ _).alloc (Nat.le_refl _) _), below_alloc_has hX5, heap_alloc_new _ _, HML.out, HFI.out, HV0.out, HOT.out⟩ ?_
                intro W6 hM6
                have hxb : wb < W5.heap.size := hwz
                obtain ⟨xb, hxb'⟩ : ∃ xb, W5.heap.size = xb := ⟨_, rfl⟩
                rw [hxb'] at hM6 hxb ⊢
                clear hxb' hA5 hX5 hwz HML HFI HV0 HOT
                go_wp2_with fail
                go_loopw [20, 21] (fun a t wx => ∃ (T : Nat) (z : Int), a = .int .i64 z ∧ t = .int .i64 T ∧ T ≤ len ∧ ((i < T ∧ z = i) ∨ (T ≤ i ∧ z = -1)) ∧ EndM w wx b g off len wb xb i s' l f dd y) (fun _ t _ => len - (intOf t).toNat)
                case atStart => exact ⟨0, -1, rfl, rfl, Nat.zero_le _, .inr ⟨Nat.zero_le _, rfl⟩, hM6⟩
                case round =>
                  clear hM6
                  obtain ⟨T, z, rfl, rfl, hT, hz, hM⟩ := hrel
                  by_cases hlt : T < len
                  · have HLT := Lib.hid hlt
                    have hT8 : T < 8 := by omega
                    have hTi : (T : Int) < 8 := by omega
                    by_cases hTe : T = i
                    · subst hTe
                      obtain rfl : z = -1 := by omega
                      have hg0 := hM.oth T hlt
                      rw [if_pos rfl] at hg0
                      have HG := Lib.hid hg0
                      clear hz hg0
                      go_wp2_with fail
                      refine (getm_c wr b s' 1 T hM.a.ks hM.a.ok HMT.out HLT.out (by decide) HG.out).mono ?_; rintro e W7 ⟨rfl, hb⟩
                      have hM7 := hM.reads hb
                      have c1 := was_cell hM7.was hT8
                      rw [hM7.eqv] at c1
                      have c2 := has_cell 0 hM7.one rfl
                      have c3 := has_cell 1 hM7.one rfl
                      have c4 := hM7.a.row T HLT.out
                      rw [hM7.eqd] at c4
                      have b1 : ((0 : Int) != y) = true := by have := hM7.nz; simp; omega
                      clear hM hb
                      go_wp2_with fail
                      go_quiet (fail)
                      go_upto_region 38 with fail
                      refine world_wp (fun W => EndM w W b g off len wb xb T s' l f dd y) (hM7.reads (below_drewN (Below.refl _ _) _)) ?_
                      intro W8 hM8
                      clear hM7 c1 c2 c3 c4 b1
                      go_wp2_with fail
                      go_roundw
                      case rel => exact ⟨T + 1, T, rfl, by go_num, HLT.out, .inl ⟨Nat.lt_succ_self _, rfl⟩, hM8⟩
                      case measure => have := HLT.out; simp [intOf]; omega
                    · have hg0 := hM.oth T hlt
                      rw [if_neg hTe] at hg0
                      obtain ⟨q, hq⟩ : ∃ q, f T = q := ⟨_, rfl⟩
                      rw [hq] at hg0
                      have HG := Lib.hid hg0
                      have HQ := Lib.hid hq
                      have HZ := Lib.hid hz
                      have HTE := Lib.hid hTe
                      clear hz hg0 hq hTe
                      go_wp2_with fail
                      refine (getm_c wr b s' 1 T hM.a.ks hM.a.ok HMT.out HLT.out (by decide) HG.out).mono ?_; rintro e W7 ⟨rfl, hb⟩
                      have hM7 := hM.reads hb
                      have c1 := was_cell hM7.was hT8
                      rw [HQ.out] at c1
                      clear hM hb
                      go_wp2_with fail
                      go_roundw
                      case rel => exact ⟨T + 1, z, rfl, by go_num, HLT.out, by have h1 := HZ.out; have h2 := HTE.out; omega, hM7⟩
                      case measure => have := HLT.out; simp [intOf]; omega
                  · obtain rfl : len = T := by omega
                    obtain rfl : z = i := by omega
                    clear hz hT hlt
                    have c3 := has_cell 1 hM.one rfl
                    have b1 : (y == 0) = false := by simpa using hM.nz
                    have b2 : decide ((i : Int) < 0) = false := by rw [decide_eq_false_iff_not]; omega
                    have hre : ((if thF 1 = true then (s'.e (1 : Int).toNat).round else 0 : Nat)) = R := by have := HI4.out; simpa [thF] using this
                    have hrc := round_c wr b s' 1 hM.a.ks hM.a.ok
                    rw [hre] at hrc
                    clear hre
                    have hcb := ends_bound HI3.out
                    have hcb2 : calls + 1 ≤ 32 := by omega
                    have hRv := HR.out
                    have hR4 := HI5.out
                    by_cases hil : i ≤ last
                    · rw [if_pos hil] at hRv
                      have hw : IntKind.i64.wrap ((round : Int) + 1) = (R : Int) := by rw [hRv, show ((round : Int) + 1) = ((round + 1 : Nat) : Int) by simp]; exact IntWalk.i64_in _ (by omega)
                      clear hRv
                      go_wp2_with fail
                      refine hrc.mono ?_; rintro e w' ⟨rfl, rfl⟩
                      by_cases hc : calls < len2
                      · obtain ⟨b2, off2, l2, rfl, hl2, hbl2, hc2⟩ := int_cells HS2.out (by omega)
                        have q1 := (hM.a.below.cell (p := ⟨b2, off2 + calls, none⟩) hbl2).trans (hc2 calls hc)
                        obtain ⟨v2, hv2⟩ : ∃ v2, l2.getD calls 0 = v2 := ⟨_, rfl⟩
                        rw [hv2] at q1
                        clear hv2 hl2 hbl2 hc2 hrc
                        go_wp2_with fail
                        refine (set_c wr b s' 1 i v2 hM.a.ks hM.a.ok).mono ?_; rintro e W7 ⟨rfl, u7⟩
                        have hA7 := hM.a.set u7 (setF_ok hM.a.ok _ _ _) (by omega)
                        obtain ⟨hK7, hE7⟩ := HMT.out.set i1 v2
                        have HBQ := Lib.hid (And.intro hcb hcb2)
                        clear hM u7 q1
                        go_wp2_with fail
                        go_roundw
                        case rel => exact ⟨calls + 1, R, i, _, by go_num, rfl, rfl, hA7, hK7, by rw [hE7]; exact HI3.out⟩
                        case measure => have := HBQ.out; simp [intOf]; omega
                      · have HBQ := Lib.hid (And.intro hcb hcb2)
                        have hA7 := hM.a
                        clear hM hrc
                        go_wp2_with fail
                        go_roundw
                        case rel => exact ⟨calls + 1, R, i, _, by go_num, rfl, rfl, hA7, HMT.out, HI3.out⟩
                        case measure => have := HBQ.out; simp [intOf]; omega
                    · rw [if_neg hil] at hRv
                      subst hRv
                      go_wp2_with fail
                      refine hrc.mono ?_; rintro e w' ⟨rfl, rfl⟩
                      by_cases hc : calls < len2
                      · obtain ⟨b2, off2, l2, rfl, hl2, hbl2, hc2⟩ := int_cells HS2.out (by omega)
                        have q1 := (hM.a.below.cell (p := ⟨b2, off2 + calls, none⟩) hbl2).trans (hc2 calls hc)
                        obtain ⟨v2, hv2⟩ : ∃ v2, l2.getD calls 0 = v2 := ⟨_, rfl⟩
                        rw [hv2] at q1
                        clear hv2 hl2 hbl2 hc2 hrc
                        go_wp2_with fail
                        refine (set_c wr b s' 1 i v2 hM.a.ks hM.a.ok).mono ?_; rintro e W7 ⟨rfl, u7⟩
                        have hA7 := hM.a.set u7 (setF_ok hM.a.ok _ _ _) (by omega)
                        obtain ⟨hK7, hE7⟩ := HMT.out.set i1 v2
                        have HBQ := Lib.hid (And.intro hcb hcb2)
                        clear hM u7 q1
                        go_wp2_with fail
                        go_roundw
                        case rel => exact ⟨calls + 1, R, i, _, by go_num, rfl, rfl, hA7, hK7, by rw [hE7]; exact HI3.out⟩
                        case measure => have := HBQ.out; simp [intOf]; omega
                      · have HBQ := Lib.hid (And.intro hcb hcb2)
                        have hA7 := hM.a
                        clear hM hrc
                        go_wp2_with fail
                        go_roundw
                        case rel => exact ⟨calls + 1, R, i, _, by go_num, rfl, rfl, hA7, HMT.out, HI3.out⟩
                        case measure => have := HBQ.out; simp [intOf]; omega
end Go.Proofs.Ytcchebjeohdkfaa
