/-
  The lists of the dying owner's row, as they grow; its job. Conditions: those said.
  The calls that lay the dying owner's programs; what was there ahead of the kernel. Conditions: those said.
  TopDead: the walk of the row's own function, where the row is not too long. Conditions: those said.
  TopDead: the row's own function, at every row. Conditions: a row of truth values.
-/
import Derived.Test.YtagmlijhgncklaaGreatDoorD43
import Derived.Test.YtagmlijhgncklaaGreatDoorD44
import Derived.Test.YtagmlijhgncklaaGreatDoorD40
set_option linter.unusedVariables false
namespace Go.Proofs.YtagmlijhgncklaaGreatDoor.Ker
namespace Dd
open Go.RowKit Go.Proofs.YtagmlijhgncklaaGreatDoor Go.Proofs.YtagmlijhgncklaaGreatDoor.Code

/-- Main's program and the others', so far. -/
structure DW (w W : World) (v3 v5 : Value) (L : List Ins) (PS : List Prg) : Prop where
  main : OwnI W w.heap.size v3 L
  heirs : Heirs W w.heap.size v5 PS
  ap : ∀ b, v3.ownBlock = some b → v5.ownBlock ≠ some b ∧ ∀ x ∈ PS, x.p ≠ b
  below : Below w.heap.size w W
theorem DW.reads {w W W' : World} {v3 v5 : Value} {L : List Ins} {PS : List Prg} (h : DW w W v3 v5 L PS) (k : Below W.heap.size W W') : DW w W' v3 v5 L PS :=
  ⟨owns_kept h.main fun b hb => k.block b (owns_lt h.main hb), h.heirs.reads k, h.ap, h.below.trans (k.mono h.below.size)⟩
theorem row_base {w : World} {B : Nat} {e : TypeId} {s n : Nat} {v : Value} {xs : List Value} (h : w.ownsRow B e s v n xs) {b : Nat} (hb : v.ownBlock = some b) : B ≤ b := (World.ownsRow.lt h b hb).1
theorem grown_past {w W W' : World} {r : Option Nat} (h : Below w.heap.size w W) (g : W.grownBy W' r) (hr : ∀ b, r = some b → w.heap.size ≤ b) : Below w.heap.size w W' :=
  ⟨g.os.trans h.os, g.tape.trans h.tape, g.output.trans h.output, Nat.le_trans h.size g.size, fun k hk => (g.block k (Nat.lt_of_lt_of_le hk h.size) (fun e => by have := hr k e.symm; omega)).trans (h.block k hk)⟩
theorem DW.put {w W W' : World} {v3 v5 v3' : Value} {L L' : List Ins} {PS : List Prg} (h : DW w W v3 v5 L PS) (o : OwnI W' w.heap.size v3' L') (g : W.grownBy W' v3.ownBlock) (hat : v3'.ownBlock = v3.ownBlock ∨ ∀ b, v3'.ownBlock = some b → W.heap.size ≤ b) : DW w W' v3' v5 L' PS := by
  refine ⟨o, h.heirs.grows g h.ap, fun b hb => ?_, grown_past h.below g fun b hb => row_base h.main hb⟩
  rcases hat with e | e
  · exact h.ap b (e ▸ hb)
  · have hle := e b hb
    refine ⟨fun q => ?_, fun x hx q => ?_⟩
    · have := owns_lt h.heirs.row q
      omega
    · have := prg_lt (h.heirs.ps x hx).1
      omega
theorem DW.more {w W W' : World} {v3 v5 v5' : Value} {L : List Ins} {PS : List Prg} {x : Prg} (h : DW w W v3 v5 L PS) (hx : PrgH W x.p x.L) (hb : w.heap.size ≤ x.p) (hn3 : v3.ownBlock ≠ some x.p) (hn5 : v5.ownBlock ≠ some x.p)
    (o : W'.ownsRow w.heap.size 24 1 v5' (PS.length + 1) (PS.map Prg.val ++ [x.val])) (g : W.grownBy W' v5.ownBlock) (hat : v5'.ownBlock = v5.ownBlock ∨ v5'.ownBlock = some W.heap.size) : DW w W' v3 v5' L (PS ++ [x]) := by
  have hat2 : ∀ b, b < W.heap.size → v5.ownBlock ≠ some b → v5'.ownBlock ≠ some b := by
    intro b hb hne q
    rcases hat with e | e
    · rw [e] at q; exact hne q
    · rw [e] at q; cases q; omega
  refine ⟨owns_kept h.main fun b hb => g.block b (owns_lt h.main hb) (fun e => (h.ap b hb).1 e.symm), ⟨?_, ?_⟩, ?_, grown_past h.below g fun b hb => row_base h.heirs.row hb⟩
  · rw [List.length_append, List.map_append]
    exact o
  · intro y hy
    rcases List.mem_append.1 hy with hy | hy
    · obtain ⟨p1, p2, p3⟩ := h.heirs.ps y hy
      exact ⟨prg_move p1 (g.block _ (prg_lt p1) (fun e => p3 e.symm)), p2, hat2 _ (prg_lt p1) p3⟩
    · obtain rfl : y = x := by simpa using hy
      exact ⟨prg_move hx (g.block _ (prg_lt hx) (fun e => hn5 e.symm)), hb, hat2 _ (prg_lt hx) hn5⟩
  · intro b hb
    refine ⟨hat2 b (owns_lt h.main hb) (h.ap b hb).1, fun y hy => ?_⟩
    rcases List.mem_append.1 hy with hy | hy
    · exact (h.ap b hb).2 y hy
    · obtain rfl : y = x := by simpa using hy
      intro q
      subst q
      exact hn3 hb
/-- A list of the caller's own, begun behind w. -/
structure LW (w W : World) (v : Value) (L : List Ins) : Prop where
  own : OwnI W w.heap.size v L
  below : Below w.heap.size w W
theorem LW.nil (w : World) : LW w w (.slice none 0 0) [] := ⟨⟨rfl, .inl ⟨rfl, rfl⟩⟩, Below.refl _ _⟩
theorem LW.reads {w W W' : World} {v : Value} {L : List Ins} (h : LW w W v L) (k : Below W.heap.size W W') : LW w W' v L :=
  ⟨owns_kept h.own fun b hb => k.block b (owns_lt h.own hb), h.below.trans (k.mono h.below.size)⟩
theorem LW.grown {w W W' : World} {v v' : Value} {L L' : List Ins} (h : LW w W v L) (o : OwnI W' w.heap.size v' L') (g : W.grownBy W' v.ownBlock) : LW w W' v' L' :=
  ⟨o, grown_past h.below g fun _ hb => row_base h.own hb⟩
/-- The heirs' programs. -/
def heirsL (cs : List Bool) (n : Nat) : List (List Ins) := (List.range n).map fun i => thL (cs.getD i false)
theorem heirsL_succ (cs : List Bool) (n : Nat) : heirsL cs (n + 1) = heirsL cs n ++ [thL (cs.getD n false)] := by
  unfold heirsL
  rw [List.range_succ, List.map_append]
  rfl
def deadJ (PS : List Prg) (c cap : Nat) : Job := ⟨8, 4, 4, 2, 5, PS, c, cap⟩
theorem set_ok {d : Nat} (hd : d < 8) (x m : Int) : (iSet d x).Ok m :=
  .inl ⟨rfl, .inl ⟨rfl, by show (0 : Int) ≤ (d : Int); omega, by show (d : Int) ≤ 7; omega⟩, .inr ⟨rfl, rfl⟩, .inr ⟨rfl, rfl⟩⟩
theorem call_ok {k : Int} (h0 : 0 ≤ k) (h1 : k ≤ 255) (m : Int) : (iCall k).Ok m :=
  .inr (.inr (.inr (.inl ⟨rfl, .inr ⟨rfl, rfl⟩, .inr ⟨rfl, rfl⟩, .inr ⟨rfl, rfl⟩, h0, h1⟩)))
theorem note_ok (m : Int) : (⟨8, 0, 1, 0, 0⟩ : Ins).Ok m :=
  .inr (.inr (.inr (.inr ⟨rfl, .inr ⟨rfl, rfl⟩, .inl ⟨rfl, by show (0 : Int) ≤ 1; decide, by show (1 : Int) ≤ 7; decide⟩, .inr ⟨rfl, rfl⟩, rfl⟩)))
theorem head_ok (m : Int) : ∀ i ∈ headL, i.Ok m := by
  intro i hi
  simp only [headL, List.mem_cons, List.mem_nil_iff, or_false] at hi
  rcases hi with rfl | rfl | rfl | rfl | rfl | rfl | rfl | rfl | rfl | rfl | rfl | rfl <;> first | exact set_ok (by decide) _ _ | exact call_ok (by decide) (by decide) _
theorem block_ok (j : Nat) (m : Int) : ∀ i ∈ blockL j, i.Ok m := by
  intro i hi
  simp only [blockL, List.mem_cons, List.mem_nil_iff, or_false] at hi
  rcases hi with rfl | rfl | rfl | rfl | rfl | rfl | rfl | rfl | rfl <;> first | exact set_ok (by decide) _ _ | exact call_ok (by decide) (by decide) _
theorem main_ok (n : Nat) (m : Int) : ∀ i ∈ mainD n, i.Ok m := by
  intro i hi
  rcases List.mem_append.1 hi with hi | hi
  · exact head_ok m i hi
  · induction n with
    | zero => cases hi
    | succ n ih =>
      rcases List.mem_append.1 hi with hi | hi
      · exact ih (List.mem_append_right _ hi) hi
      · exact block_ok n m i hi
theorem dies_ok (m : Int) : ∀ i ∈ diesL, i.Ok m := by
  intro i hi
  simp only [diesL, List.mem_cons, List.mem_nil_iff, or_false] at hi
  rcases hi with rfl | rfl <;> first | exact set_ok (by decide) _ _ | exact call_ok (by decide) (by decide) _
theorem th_ok (c : Bool) (m : Int) : ∀ i ∈ thL c, i.Ok m := by
  intro i hi
  cases c
  · have hi : i ∈ [iSet 2 16, iCall 13, ⟨8, 0, 1, 0, 0⟩, iSet 2 16, iCall 16] := hi
    simp only [List.mem_cons, List.mem_nil_iff, or_false] at hi
    rcases hi with rfl | rfl | rfl | rfl | rfl <;> first | exact set_ok (by decide) _ _ | exact call_ok (by decide) (by decide) _ | exact note_ok _
  · have hi : i ∈ [iSet 2 16, iCall 13, ⟨8, 0, 1, 0, 0⟩, iSet 2 16, iCall 17, iSet 2 16, iCall 16] := hi
    simp only [List.mem_cons, List.mem_nil_iff, or_false] at hi
    rcases hi with rfl | rfl | rfl | rfl | rfl | rfl | rfl <;> first | exact set_ok (by decide) _ _ | exact call_ok (by decide) (by decide) _ | exact note_ok _
theorem th_len (c : Bool) : (thL c).length ≤ 7 := by cases c <;> decide
theorem heirsL_len (cs : List Bool) (n : Nat) : (heirsL cs n).length = n := by simp [heirsL]
theorem deadJ_ok (cs : List Bool) (n : Nat) (hn : n ≤ 6) {PS : List Prg} (hL : PS.map Prg.L = mainD n :: diesL :: heirsL cs n) (c cap : Nat) : (deadJ PS c cap).Ok := by
  have hlen : PS.length = n + 2 := by
    have := congrArg List.length hL
    simpa [heirsL_len] using this
  refine ⟨by show (1 : Int) ≤ 8; decide, by show (8 : Int) ≤ 16; decide, by show (1 : Int) ≤ 4; decide, by show (4 : Int) ≤ 8; decide, by show (1 : Int) ≤ 4; decide, by show (4 : Int) ≤ 32; decide, by show (1 : Int) ≤ 2; decide, by show (2 : Int) ≤ 100; decide, by show (1 : Int) ≤ 5; decide, by show (5 : Int) ≤ 31; decide, by show 1 ≤ PS.length; omega, by show PS.length ≤ 32; omega, ?_⟩
  intro x hx
  have hm : x.L ∈ PS.map Prg.L := List.mem_map.2 ⟨x, hx, rfl⟩
  rw [hL] at hm
  show (∀ i ∈ x.L, i.Ok x.L.length) ∧ x.L.length ≤ 256
  simp only [List.mem_cons, heirsL, List.mem_map] at hm
  rcases hm with e | e | ⟨i, _, e⟩
  · rw [e]
    exact ⟨main_ok n _, by rw [mainD_len]; omega⟩
  · rw [e]
    exact ⟨dies_ok _, by decide⟩
  · rw [← e]
    exact ⟨th_ok _ _, Nat.le_trans (th_len _) (by decide)⟩
/-- A row of programs, as the job has it. -/
theorem pgs_of {w : World} {B : Nat} {v : Value} {PS : List Prg} (h : w.ownsRow B 24 1 v PS.length (PS.map Prg.val)) (h0 : 0 < PS.length) (hp : ∀ x ∈ PS, PrgH w x.p x.L) : ∃ g cap, v = .slice (some ⟨g, 0, none⟩) PS.length cap ∧ PgsH w g PS := by
  rcases h.2 with ⟨_, e⟩ | ⟨g, cap, cur, e, hb, hg, _, _, hs, ht⟩
  · omega
  · refine ⟨g, cap, e, ⟨cur.toList, by simpa using hg, fun k x hk => ?_⟩, hp⟩
    have hk2 : k < PS.length := (List.getElem?_eq_some_iff.1 hk).1
    have q : (PS.map Prg.val)[k]? = some x.val := by rw [List.getElem?_map, hk]; rfl
    rw [← ht] at q
    rwa [List.getElem?_take_of_lt (by omega)] at q
theorem dj_of {B : KB} {PS : List Prg} {b cap : Nat} {t o s q pr : Int} {cs : List Bool} (hJ : B.J = ⟨t, o, s, q, pr, PS, b, cap⟩) (hL : PS.map Prg.L = mainD cs.length :: diesL :: heirsL cs cs.length) (hn : B.n = 8) (n1 : 1 ≤ cs.length) (n6 : cs.length ≤ 6) : ∃ m PS', DJ B m PS' cs := by
  have hlen : PS.length = cs.length + 2 := by
    have := congrArg List.length hL
    simpa [heirsL_len] using this
  match PS, hL, hJ, hlen with
  | m :: y :: PS', hL, hJ, hlen =>
    simp only [List.map_cons, List.cons.injEq] at hL
    obtain ⟨e1, e2, e3⟩ := hL
    refine ⟨m, y :: PS', ⟨hn, by rw [hJ], by rw [hlen]; omega⟩, e1, ⟨y, by rw [hJ]; rfl, e2⟩, fun i hi => ?_, hlen, n1, n6⟩
    have q : (PS'.map Prg.L)[i]? = some (thL (cs.getD i false)) := by
      rw [e3, heirsL, List.getElem?_map, List.getElem?_range hi]
      rfl
    rw [List.getElem?_map] at q
    obtain ⟨z, hz, hzL⟩ := Option.map_eq_some_iff.1 q
    exact ⟨z, by rw [hJ]; exact hz, hzL⟩
/-- The row's argument. -/
abbrev boolSc : List Sc := [.b]
theorem bool_cells {w : World} {a : Option Addr} {len : Nat} (h : IsRows w boolSc a len) (h0 : 0 < len) :
    ∃ (b off : Nat) (l : List Bool), a = some ⟨b, off, none⟩ ∧ l.length = len ∧ b < w.heap.size ∧ ∀ k, k < len → w.cell? ⟨b, off + k, none⟩ = some (.bool (l.getD k false)) := by
  rcases h with h | ⟨b, off, rfl, _, hb, h⟩
  · omega
  · have hq : ∀ k : Nat, ∃ x : Bool, k < len → w.cell? ⟨b, off + k, none⟩ = some (.bool x) := fun k => by
      by_cases hk : k < len
      · obtain ⟨cs, hf, hc⟩ := h k hk
        have hl : cs.length = 1 := hf.len
        match cs, hl with
        | [x], _ =>
          obtain ⟨⟨y, hy⟩, _⟩ := hf
          have := hc 0 (by decide)
          simp only [List.length_cons, List.length_nil, Nat.zero_add, Nat.mul_one, Nat.add_zero, List.getElem?_cons_zero] at this
          exact ⟨y, fun _ => by rw [this, hy]⟩
      · exact ⟨false, fun h => absurd h hk⟩
    refine ⟨b, off, (List.range len).map fun k => (hq k).choose, rfl, by simp, hb h0, fun k hk => ?_⟩
    rw [(hq k).choose_spec hk, List.getD_eq_getElem?_getD, List.getElem?_map, List.getElem?_range hk]
    rfl
/-- What the notes hold. -/
theorem notesF_get (cs : List Bool) : ∀ n i, i < n → (notesF cs n)[i]? = some (1, eF cs i) := by
  intro n
  induction n with
  | zero => intro i hi; omega
  | succ n ih =>
    intro i hi
    rw [notesF]
    by_cases e : i < n
    · rw [List.getElem?_append_left (by rw [notesF_len]; exact e)]
      exact ih i e
    · obtain rfl : i = n := by omega
      rw [List.getElem?_append_right (by rw [notesF_len]; omega), notesF_len, Nat.sub_self]
      rfl
theorem pairs_get : ∀ (l : List (Int × Int)) (i : Nat) (x : Int × Int), l[i]? = some x → (l.flatMap fun x => [Value.int .i64 x.1, Value.int .i64 x.2])[i * 2 + 1]? = some (.int .i64 x.2)
  | [], i, x, h => by simp at h
  | y :: l, 0, x, h => by
    simp at h
    subst h
    rfl
  | y :: l, i + 1, x, h => by
    have q := pairs_get l i x (by simpa using h)
    rw [show (i + 1) * 2 + 1 = i * 2 + 1 + 1 + 1 by omega]
    exact q
theorem notes_cells {W : World} {B : Nat} {v : Value} {cs : List Bool} (h0 : 0 < cs.length) (h : W.ownsRow B 48 2 v cs.length ((notesF cs cs.length).flatMap fun x => [.int .i64 x.1, .int .i64 x.2])) : ∃ g cap, v = .slice (some ⟨g, 0, none⟩) cs.length cap ∧ ∀ i, i < cs.length → W.cell? ⟨g, i * 2 + 1, none⟩ = some (.int .i64 (eF cs i)) := by
  rcases h.2 with ⟨_, e⟩ | ⟨g, cap, cur, e, hb, hg, hn, _, hs, ht⟩
  · omega
  · refine ⟨g, cap, e, fun i hi => has_cell _ hg ?_⟩
    have q := pairs_get _ i _ (notesF_get cs cs.length i hi)
    rw [← ht, List.getElem?_take_of_lt (by omega)] at q
    simpa using q
/-- What is wanted of the next one. -/
theorem eF_next (cs : List Bool) (i : Nat) : eF cs (i + 1) = if eF cs i = 130 then (if cs.getD i false then 0 else 131) else eF cs i := by
  unfold eF
  rw [if_neg (by omega)]
  by_cases h : i = 0
  · subst h
    rfl
  · rw [if_neg h]
    cases cs.getD 0 false <;> rfl
end Dd
end Go.Proofs.YtagmlijhgncklaaGreatDoor.Ker
namespace Go.Proofs.YtagmlijhgncklaaGreatDoor.Ker
namespace Dd
open Go.RowKit Go.Proofs.YtagmlijhgncklaaGreatDoor Go.Proofs.YtagmlijhgncklaaGreatDoor.Code

/-- A call is laid behind main's program. -/
theorem main_call {w W : World} {v3 v5 : Value} {L : List Ins} {PS : List Prg} (h : DW w W v3 v5 L PS) (hl : L.length ≤ 1000) (cells : Array Value) (xs : List Int) (hx : cells = (xs.map (Value.int .i64)).toArray) (hal : xs.length ≤ 100) (n : Int) (cap : Nat) :
    Calls Tryz.prog 8 #[v3, .int .i64 n, .slice (some ⟨W.heap.size, 0, none⟩) xs.length cap] (W.alloc (.cells cells 2)) fun e w' => ∃ v', e = .returned v' ∧ DW w w' v' v5 (L ++ setsF 2 xs ++ [⟨7, 0, 0, 0, n⟩]) PS := by
  subst hx
  have h1 := h.reads ((Below.refl _ W).alloc (Nat.le_refl _) (.cells (xs.map (Value.int .i64)).toArray 2))
  refine (put_c _ w.heap.size v3 L h1.main h1.below.size n W.heap.size cap xs (heap_alloc_new W _) (fun e => absurd (owns_lt h.main e) (by omega)) hl hal).mono ?_
  rintro e w' ⟨v', rfl, P⟩
  refine ⟨v', rfl, h1.put P.own P.grown ?_⟩
  rcases P.blk with e | e
  · exact .inl e
  · exact .inr e
/-- A call is laid behind a list of the caller's own. -/
theorem heir_call {w W : World} {v : Value} {L : List Ins} (h : LW w W v L) (hl : L.length ≤ 1000) (cells : Array Value) (xs : List Int) (hx : cells = (xs.map (Value.int .i64)).toArray) (hal : xs.length ≤ 100) (n : Int) (cap : Nat) :
    Calls Tryz.prog 8 #[v, .int .i64 n, .slice (some ⟨W.heap.size, 0, none⟩) xs.length cap] (W.alloc (.cells cells 2)) fun e w' => ∃ v', e = .returned v' ∧ LW w w' v' (L ++ setsF 2 xs ++ [⟨7, 0, 0, 0, n⟩]) := by
  subst hx
  have h1 := h.reads ((Below.refl _ W).alloc (Nat.le_refl _) (.cells (xs.map (Value.int .i64)).toArray 2))
  refine (put_c _ w.heap.size v L h1.own h1.below.size n W.heap.size cap xs (heap_alloc_new W _) (fun e => absurd (owns_lt h.own e) (by omega)) hl hal).mono ?_
  rintro e w' ⟨v', rfl, P⟩
  exact ⟨v', rfl, h1.grown P.own P.grown⟩
theorem own_more {w2 : World} {B : Nat} {v2 : Value} {L : List Ins} {i : Ins} (h2 : w2.ownsRow B 29 5 v2 (L.length + 1) (L.flatMap Ins.cells ++ i.cells)) : OwnI w2 B v2 (L ++ [i]) := by
  show w2.ownsRow B 29 5 v2 (L ++ [i]).length ((L ++ [i]).flatMap Ins.cells)
  rw [List.flatMap_append]
  simpa using h2
/-- The row of programs begins. -/
theorem DW.start {w w1 w2 : World} {v3 : Value} {L L4 : List Ins} {a ca : Nat} (h1 : LW w w1 v3 L) (h2 : Below w1.heap.size w1 w2) (hp : PrgH w2 a L4) (ha : w1.heap.size ≤ a) : DW w (w2.alloc (.cells #[.slice (some ⟨a, 0, none⟩) L4.length ca] 24)) v3 (.slice (some ⟨w2.heap.size, 0, none⟩) 1 1) L [⟨a, L4, ca⟩] := by
  have hL := (h1.reads h2).reads ((Below.refl _ w2).alloc (Nat.le_refl _) (.cells #[.slice (some ⟨a, 0, none⟩) L4.length ca] 24))
  have hlt := prg_lt hp
  have s1 := h1.below.size
  have s2 := h2.size
  refine ⟨hL.own, ⟨⟨rfl, .inr ⟨w2.heap.size, 1, _, rfl, by omega, heap_alloc_new w2 _, Nat.le_refl _, by simp only [maxLen]; omega, rfl, rfl⟩⟩, ?_⟩, ?_, hL.below⟩
  · intro x hx
    obtain rfl : x = ⟨a, L4, ca⟩ := by simpa using hx
    refine ⟨hp.reads ((Below.refl _ w2).alloc (Nat.le_refl _) _), by show w.heap.size ≤ a; omega, ?_⟩
    show some w2.heap.size ≠ some a
    intro e
    cases e
    omega
  · intro b hb
    have hb1 := owns_lt h1.own hb
    refine ⟨fun e => by have e' : w2.heap.size = b := Option.some.inj e; omega, fun x hx => ?_⟩
    obtain rfl : x = ⟨a, L4, ca⟩ := by simpa using hx
    show a ≠ b
    omega
theorem vals_one (PS : List Prg) : ∀ u ∈ PS.map Prg.val, u.oneCell' = true := by
  intro u hu
  obtain ⟨x, _, rfl⟩ := List.mem_map.1 hu
  rfl
/-- The row of programs as a slice. -/
theorem DW.rows {w W : World} {v3 v5 : Value} {L : List Ins} {PS : List Prg} (h : DW w W v3 v5 L PS) (h0 : 0 < PS.length) : ∃ g cap, v5 = .slice (some ⟨g, 0, none⟩) PS.length cap ∧ ∀ j u, (PS.map Prg.val)[j]? = some u → W.cell? ((⟨g, 0, none⟩ : Addr).add j) = some u := by
  rcases h.heirs.row.2 with ⟨_, e⟩ | ⟨g, cap, cur, e, _⟩
  · omega
  · exact ⟨g, cap, e, World.ownsRow.cells h.heirs.row (by rw [e]; rfl)⟩
/-- Main's program ahead of the others: the job's row. -/
theorem DW.job {w W W' : World} {v5 v' : Value} {L : List Ins} {PS : List Prg} {a ca : Nat} (h : DW w W (.slice (some ⟨a, 0, none⟩) L.length ca) v5 L PS) (hp : PrgH W a L)
    (o : W'.ownsRow w.heap.size 24 1 v' (1 + PS.length) ([.slice (some ⟨a, 0, none⟩) L.length ca] ++ PS.map Prg.val)) (g : (W.alloc (.cells #[.slice (some ⟨a, 0, none⟩) L.length ca] 24)).grownBy W' (some W.heap.size)) :
    ∃ g cap, v' = .slice (some ⟨g, 0, none⟩) (PS.length + 1) cap ∧ PgsH W' g (⟨a, L, ca⟩ :: PS) ∧ Below w.heap.size w W' := by
  have b1 := (Below.refl _ W).alloc (Nat.le_refl _) (.cells #[.slice (some ⟨a, 0, none⟩) L.length ca] 24)
  have k : ∀ p L', PrgH W p L' → PrgH W' p L' := by
    intro p L' q
    have lt := prg_lt q
    exact prg_move (q.reads b1) (g.block p (by simp; omega) (fun e => by cases e; omega))
  obtain ⟨gg, cap, e, q⟩ := pgs_of (PS := ⟨a, L, ca⟩ :: PS) (by rw [show (1 : Nat) + PS.length = (⟨a, L, ca⟩ :: PS : List Prg).length by simp; omega] at o; exact o) (by simp) (by
    intro x hx
    rcases List.mem_cons.1 hx with rfl | hx
    · exact k a L hp
    · exact k x.p x.L (h.heirs.ps x hx).1)
  refine ⟨gg, cap, e, q, ?_⟩
  have s := h.below.size
  exact grown_past (h.below.trans (b1.mono s)) g fun b hb => by cases hb; exact s
/-- What was there ahead of the kernel is as it was. -/
def BelowK (w : World) (S : KS) (W : World) : Prop := Below w.heap.size w W ∧ ∀ k, k < w.heap.size → S.lo.lab k = 0
theorem BelowK.fr {w W W' : World} {S S' : KS} (h : BelowK w S W) (f : Fr S S' W W') : BelowK w S' W' :=
  ⟨⟨f.os.trans h.1.os, f.tape.trans h.1.tape, f.output.trans h.1.output, Nat.le_trans h.1.size f.size, fun k hk => (f.block k (Nat.lt_of_lt_of_le hk h.1.size) (h.2 k hk)).trans (h.1.block k hk)⟩, fun k hk => (f.lab k (Nat.lt_of_lt_of_le hk h.1.size)).trans (h.2 k hk)⟩
theorem nv_some {W : World} {S : KS} (h : KW W S) (h0 : 0 < S.lo.notes.length) : ∃ g cap, S.lo.nv = .slice (some ⟨g, 0, none⟩) S.lo.notes.length cap := by
  rcases h.nt.2 with ⟨_, e⟩ | ⟨g, cap, cur, e, _⟩
  · omega
  · exact ⟨g, cap, e⟩
theorem alive_7 (w : World) : Calls Tryz.prog 7 #[] w fun e w' => e = .returned (.bool true) ∧ Below w.heap.size w w' := alive_c w
/-- The first events find a kernel without a mutex. -/
theorem first_i {B : KB} {lo : Lo} {b c : Nat} (N : Now (KS.first B lo 8 4 5 b c) B (Pl.first B 8 5 b c)) : ZI B (z0 b c) (KS.first B lo 8 4 5 b c) := by
  unfold ZI
  rw [← zi_first]
  exact ⟨N, rfl, rfl, rfl, rfl, rfl, rfl⟩
end Dd
end Go.Proofs.YtagmlijhgncklaaGreatDoor.Ker
namespace Go.Proofs.YtagmlijhgncklaaGreatDoor.Ker
namespace Dd
open Go.RowKit Go.Proofs.YtagmlijhgncklaaGreatDoor Go.Proofs.YtagmlijhgncklaaGreatDoor.Code

theorem len_take5 : (headL.take 5).length ≤ 1000 := by decide
theorem len_take10 : (headL.take 10).length ≤ 1000 := by decide
/-- At the head of the j-th round. -/
def DJ1 (w wr : World) (cs : List Bool) (v3 v5 : Value) (j : Nat) : Prop := ∃ PS, DW w wr v3 v5 (mainD j) PS ∧ PS.map Prg.L = diesL :: heirsL cs j
theorem dj1_len {PS : List Prg} {cs : List Bool} {j : Nat} (h : PS.map Prg.L = diesL :: heirsL cs j) : PS.length = j + 1 := by
  have := congrArg List.length h
  simpa [heirsL_len] using this
theorem a_last_B {B : KB} {cs : List Bool} (b c : Nat) (h : cs.length ≤ 6) (S : KS) (hS : Aj B cs b c 60 S) : S.B = B := by
  have hS : (if 58 + 1 ≤ cs.length then SAt B cs (58 + 1) else SDone B cs (21 * (58 + 2))) S := hS
  rw [if_neg (by omega)] at hS
  obtain ⟨z, A, N⟩ := hS
  exact N.B
set_option maxHeartbeats 4000000 in
set_option maxRecDepth 100000 in
theorem dead_walk (w : World) (ab off cap : Nat) (cs : List Bool) (n1 : 1 ≤ cs.length) (n6 : cs.length ≤ 6) (hab : ab < w.heap.size) (hcs : ∀ k, k < cs.length → w.cell? ⟨ab, off + k, none⟩ = some (.bool (cs.getD k false))) :
    Calls Tryz.prog 5 #[.slice (some ⟨ab, off, none⟩) cs.length cap] w fun e w' => e = .returned (.bool true) ∧ Below w.heap.size w w' := by
  obtain ⟨n, hn⟩ : ∃ n, n = cs.length := ⟨_, rfl⟩
  rw [← hn] at n1 n6 hcs ⊢
  have HN := Lib.hid hn
  have HCS := Lib.hid hcs
  have HAB := Lib.hid hab
  have HN1 := Lib.hid n1
  have HN6 := Lib.hid n6
  clear hn hcs hab
  have i1 : (1 : Int) ≤ n := by omega
  have i6 : (n : Int) ≤ 6 := by omega
  go_enter Tryz.func5, Tryz.ntmps5
  have PC := heir_call (LW.nil w) (by decide) #[.int .i64 0, .int .i64 0, .int .i64 0, .int .i64 1] [0, 0, 0, 1] rfl (by decide) 11 4
  rw [heads_put0] at PC
  go_upto_region 5 with (go_at_call 8; refine PC.mono ?_; rintro e w1 ⟨v1, rfl, K1⟩; have HM := Lib.hid K1; clear K1 PC)
  have PC := heir_call (LW.nil w1) (by decide) #[.int .i64 16] [16] rfl (by decide) 13 1
  rw [dies_put] at PC
  go_upto_region 6 with (go_at_call 8; refine PC.mono ?_; rintro e w2 ⟨v2, rfl, K2⟩; have HD := Lib.hid K2; clear K2 PC)
  obtain ⟨a4, ca4, hv2, h4, p4⟩ := own_prg HD.out.own (by decide)
  subst hv2
  have K := DW.start (ca := ca4) HM.out HD.out.below p4 h4
  have HK := Lib.hid K
  clear K h4 p4 HM HD
  go_upto_region 7 with fail
  refine world_wp (fun W => DW w W v1 (.slice (some ⟨w2.heap.size, 0, none⟩) 1 1) (headL.take 5) [⟨a4, diesL, ca4⟩]) HK.out ?_
  clear HK
  intro W3 h3
  have PC := main_call h3 len_take5 #[.int .i64 1, .int .i64 30, .int .i64 0, .int .i64 0] [1, 30, 0, 0] rfl (by decide) 1 4
  rw [heads_put1] at PC
  clear h3
  go_upto_region 8 with (go_at_call 8; refine PC.mono ?_; rintro e w4 ⟨v4, rfl, K4⟩; have HM := Lib.hid K4; clear K4 PC)
  have PC := main_call HM.out len_take10 #[.int .i64 17] [17] rfl (by decide) 3 1
  rw [heads_put2] at PC
  clear HM
  go_upto_region 9 with (go_at_call 8; refine PC.mono ?_; rintro e w5 ⟨v5, rfl, K5⟩; have HM : RowKit.Hid (DJ1 w w5 cs v5 (.slice (some ⟨w2.heap.size, 0, none⟩) 1 1) 0) := Lib.hid ⟨_, (show mainD 0 = headL from rfl) ▸ K5, rfl⟩; clear K5 PC)
  obtain ⟨v6, hv6⟩ : ∃ v6, v6 = Value.slice (some ⟨w2.heap.size, 0, none⟩) 1 1 := ⟨_, rfl⟩
  rw [← hv6] at HM ⊢
  clear hv6
  go_wp2_with fail
  go_loopw [3, 5, 6] (fun u3 u5 u6 wr => ∃ j : Nat, u6 = .int .i64 j ∧ j ≤ n ∧ DJ1 w wr cs u3 u5 j) (fun _ _ u6 _ => n - (intOf u6).toNat)
  case atStart => exact ⟨0, rfl, by omega, HM.out⟩
  case round =>
    clear HM
    obtain ⟨j, rfl, hj, PS, hD, hL⟩ := hrel
    have HD := Lib.hid hD
    have HL := Lib.hid hL
    clear hD hL
    by_cases hlt : j < n
    · have i0 : (0 : Int) ≤ j := by omega
      have ij : (j : Int) < (n : Int) := by omega
      have HJ := Lib.hid hlt
      have PC := heir_call (LW.nil wr) (by decide) #[.int .i64 16] [16] rfl (by decide) 13 1
      rw [dies_put] at PC
      clear hlt hj
      go_upto_region 14 with (go_at_call 8; refine PC.mono ?_; rintro e w6 ⟨v7, rfl, K7⟩; have HK := Lib.hid K7; clear K7 PC)
      obtain ⟨i0, hi, hz0, hz1, hz2⟩ := info_parts info29
      have HI := Lib.hid hi
      have HZ0 := Lib.hid hz0
      have HZ1 := Lib.hid hz1
      have HZ2 := Lib.hid hz2
      clear hi hz0 hz1 hz2
      go_upto_region 15 with (at_builtin; refine wpList_append_own_at _ rfl _ _ 24 rfl wr.heap.size 29 i0 (.agg #[.int .i64 0, .int .i64 0, .int .i64 0, .int .i64 0, .int .i64 0]) 5 40 Tryz.underlying24 HI.out HZ0.out HZ1.out HZ2.out rfl (by decide) _ diesL.length (diesL.flatMap Ins.cells) rfl (World.ownsRow.alloc HK.out.own _) ⟨w6.heap.size, 0, none⟩ 1 1 (Ins.mk 8 0 1 0 0).cells rfl rfl (news_ins w6 (Ins.mk 8 0 1 0 0)) (ins_one _) ?h63 ?hby ?hbase ?_)
      case h63 => show 2 + 1 ≤ maxLen; simp only [maxLen]; omega
      case hby => show (2 + 1) * 40 ≤ _; omega
      case hbase => have := HK.out.below.size; simp; omega
      intro v8 w8 h8 g8 _ _
      have HK8 : RowKit.Hid (LW wr w8 v8 (diesL ++ [⟨8, 0, 1, 0, 0⟩])) := Lib.hid ((HK.out.reads ((Below.refl _ w6).alloc (Nat.le_refl _) _)).grown (own_more (i := ⟨8, 0, 1, 0, 0⟩) h8) g8)
      clear h8 g8 HK HI HZ0 HZ1 HZ2
      go_upto_region 15 with fail
      obtain ⟨c, hc⟩ : ∃ c, c = cs.getD j false := ⟨_, rfl⟩
      have cb : w8.cell? ⟨ab, off + j, none⟩ = some (.bool c) := by
        have q := HCS.out j HJ.out
        rw [← hc] at q
        exact (Below.cell (p := ⟨ab, off + j, none⟩) (HD.out.below.trans (HK8.out.below.mono HD.out.below.size)) HAB.out).trans q
      have HC := Lib.hid hc
      clear hc
      obtain ⟨i24, hi, hz0, hz1, hz2⟩ := info_parts info24
      have HI := Lib.hid hi
      have HZ0 := Lib.hid hz0
      have HZ1 := Lib.hid hz1
      have HZ2 := Lib.hid hz2
      clear hi hz0 hz1 hz2
      cases c with
      | true =>
        have PC := heir_call HK8.out (by decide) #[.int .i64 16] [16] rfl (by decide) 17 1
        go_upto_region 17 with (go_at_call 8; refine PC.mono ?_; rintro e w9 ⟨v9, rfl, K9⟩; have HK9 := Lib.hid K9; clear K9 PC HK8)
        have PC := heir_call HK9.out (by decide) #[.int .i64 16] [16] rfl (by decide) 16 1
        go_upto_region 18 with (go_at_call 8; refine PC.mono ?_; rintro e w10 ⟨v10, rfl, K10⟩; have HT : RowKit.Hid (LW wr w10 v10 (thL true)) := Lib.hid K10; clear K10 PC HK9)
        obtain ⟨a10, ca10, hv10, h10, p10⟩ := own_prg HT.out.own (by decide)
        subst hv10
        have b10 := HT.out.below
        have HD10 := Lib.hid (HD.out.reads b10)
        have HP10 := Lib.hid p10
        have HA10 := Lib.hid h10
        clear b10 p10 h10 HT
        go_upto_region 19 with (at_builtin; refine wpList_append_own_at _ rfl _ _ 31 rfl w.heap.size 24 i24 (.slice none 0 0) 1 24 Tryz.underlying31 HI.out HZ0.out HZ1.out HZ2.out rfl (by decide) _ PS.length (PS.map Prg.val) rfl (World.ownsRow.alloc HD10.out.heirs.row _) ⟨w10.heap.size, 0, none⟩ 1 1 [.slice (some ⟨a10, 0, none⟩) (thL true).length ca10] rfl rfl (World.news_of_block (heap_alloc_new w10 (.cells #[.slice (some ⟨a10, 0, none⟩) (thL true).length ca10] 24))) (by intro u hu; simp at hu; subst hu; rfl) ?h63 ?hby ?hbase ?_)
        case h63 => have := dj1_len HL.out; simp only [maxLen]; omega
        case hby => have := dj1_len HL.out; have := HJ.out; have := HN6.out; omega
        case hbase => have := HD10.out.below.size; simp; omega
        intro v11 w11 h11 g11 _ hat11
        have ba := (Below.refl w10.heap.size w10).alloc (Nat.le_refl _) (.cells #[.slice (some ⟨a10, 0, none⟩) (thL true).length ca10] 24)
        have D11 := (HD10.out.reads ba).more (x := ⟨a10, thL true, ca10⟩) (HP10.out.reads ba) (Nat.le_trans HD.out.below.size HA10.out) (fun e => absurd (owns_lt HD.out.main e) (by show ¬ a10 < _; have := HA10.out; omega)) (fun e => absurd (owns_lt HD.out.heirs.row e) (by show ¬ a10 < _; have := HA10.out; omega)) h11 g11 (by simpa using hat11)
        have HD11 := Lib.hid D11
        clear h11 g11 hat11 ba D11 HD10 HP10 HA10 HI HZ0 HZ1 HZ2
        go_upto_region 19 with fail
        have PC := main_call HD11.out (by rw [mainD_len]; have := HJ.out; have := HN6.out; omega) #[.int .i64 ((j : Int) + 2), .int .i64 30, .int .i64 0, .int .i64 1] [(j : Int) + 2, 30, 0, 1] rfl (by show (4 : Nat) ≤ 100; decide) 1 4
        go_upto_region 20 with (go_at_call 8; refine PC.mono ?_; rintro e w12 ⟨v12, rfl, K12⟩; have HD12 := Lib.hid K12; clear K12 PC HD11)
        have PC := main_call HD12.out (by rw [List.length_append, List.length_append, setsF_len, mainD_len]; have := HJ.out; have := HN6.out; simp; omega) #[.int .i64 1, .int .i64 0, .int .i64 1] [1, 0, 1] rfl (by decide) 62 3
        rw [show (j : Int) + 2 = ((j + 2 : Nat) : Int) by omega, main_put j] at PC
        go_wp2_with (go_at_call 8; refine PC.mono ?_; rintro e w13 ⟨v13, rfl, K13⟩; have HD13 := Lib.hid K13; clear K13 PC HD12)
        go_roundw
        case rel => exact ⟨j + 1, by go_num, by have := HJ.out; omega, _, HD13.out, by rw [List.map_append, HL.out, heirsL_succ, ← HC.out]; rfl⟩
        case measure => have := HJ.out; simp [intOf]; omega
      | false =>
        go_upto_region 17 with fail
        have PC := heir_call HK8.out (by decide) #[.int .i64 16] [16] rfl (by decide) 16 1
        go_upto_region 18 with (go_at_call 8; refine PC.mono ?_; rintro e w10 ⟨v10, rfl, K10⟩; have HT : RowKit.Hid (LW wr w10 v10 (thL false)) := Lib.hid K10; clear K10 PC HK8)
        obtain ⟨a10, ca10, hv10, h10, p10⟩ := own_prg HT.out.own (by decide)
        subst hv10
        have b10 := HT.out.below
        have HD10 := Lib.hid (HD.out.reads b10)
        have HP10 := Lib.hid p10
        have HA10 := Lib.hid h10
        clear b10 p10 h10 HT
        go_upto_region 19 with (at_builtin; refine wpList_append_own_at _ rfl _ _ 31 rfl w.heap.size 24 i24 (.slice none 0 0) 1 24 Tryz.underlying31 HI.out HZ0.out HZ1.out HZ2.out rfl (by decide) _ PS.length (PS.map Prg.val) rfl (World.ownsRow.alloc HD10.out.heirs.row _) ⟨w10.heap.size, 0, none⟩ 1 1 [.slice (some ⟨a10, 0, none⟩) (thL false).length ca10] rfl rfl (World.news_of_block (heap_alloc_new w10 (.cells #[.slice (some ⟨a10, 0, none⟩) (thL false).length ca10] 24))) (by intro u hu; simp at hu; subst hu; rfl) ?h63 ?hby ?hbase ?_)
        case h63 => have := dj1_len HL.out; simp only [maxLen]; omega
        case hby => have := dj1_len HL.out; have := HJ.out; have := HN6.out; omega
        case hbase => have := HD10.out.below.size; simp; omega
        intro v11 w11 h11 g11 _ hat11
        have ba := (Below.refl w10.heap.size w10).alloc (Nat.le_refl _) (.cells #[.slice (some ⟨a10, 0, none⟩) (thL false).length ca10] 24)
        have D11 := (HD10.out.reads ba).more (x := ⟨a10, thL false, ca10⟩) (HP10.out.reads ba) (Nat.le_trans HD.out.below.size HA10.out) (fun e => absurd (owns_lt HD.out.main e) (by show ¬ a10 < _; have := HA10.out; omega)) (fun e => absurd (owns_lt HD.out.heirs.row e) (by show ¬ a10 < _; have := HA10.out; omega)) h11 g11 (by simpa using hat11)
        have HD11 := Lib.hid D11
        clear h11 g11 hat11 ba D11 HD10 HP10 HA10 HI HZ0 HZ1 HZ2
        go_upto_region 19 with fail
        have PC := main_call HD11.out (by rw [mainD_len]; have := HJ.out; have := HN6.out; omega) #[.int .i64 ((j : Int) + 2), .int .i64 30, .int .i64 0, .int .i64 1] [(j : Int) + 2, 30, 0, 1] rfl (by show (4 : Nat) ≤ 100; decide) 1 4
        go_upto_region 20 with (go_at_call 8; refine PC.mono ?_; rintro e w12 ⟨v12, rfl, K12⟩; have HD12 := Lib.hid K12; clear K12 PC HD11)
        have PC := main_call HD12.out (by rw [List.length_append, List.length_append, setsF_len, mainD_len]; have := HJ.out; have := HN6.out; simp; omega) #[.int .i64 1, .int .i64 0, .int .i64 1] [1, 0, 1] rfl (by decide) 62 3
        rw [show (j : Int) + 2 = ((j + 2 : Nat) : Int) by omega, main_put j] at PC
        go_wp2_with (go_at_call 8; refine PC.mono ?_; rintro e w13 ⟨v13, rfl, K13⟩; have HD13 := Lib.hid K13; clear K13 PC HD12)
        go_roundw
        case rel => exact ⟨j + 1, by go_num, by have := HJ.out; omega, _, HD13.out, by rw [List.map_append, HL.out, heirsL_succ, ← HC.out]; rfl⟩
        case measure => have := HJ.out; simp [intOf]; omega
    · obtain rfl : n = j := by omega
      obtain ⟨a, ca, hv3, ha, pa⟩ := own_prg HD.out.main (by rw [mainD_len]; omega)
      subst hv3
      have ba := (Below.refl wr.heap.size wr).alloc (Nat.le_refl _) (.cells #[.slice (some ⟨a, 0, none⟩) (mainD n).length ca] 24)
      obtain ⟨g5, c5, hv5, cells5⟩ := (HD.out.reads ba).rows (by rw [dj1_len HL.out]; omega)
      subst hv5
      obtain ⟨i24, hi, hz0, hz1, hz2⟩ := info_parts info24
      have HI := Lib.hid hi
      have HZ0 := Lib.hid hz0
      have HZ1 := Lib.hid hz1
      have HZ2 := Lib.hid hz2
      have HPA := Lib.hid pa
      have HC5 := Lib.hid cells5
      clear hi hz0 hz1 hz2 pa ha cells5 hj hlt ba
      go_upto_region 22 with (at_builtin; refine wpList_append_own_at _ rfl _ _ 31 rfl w.heap.size 24 i24 (.slice none 0 0) 1 24 Tryz.underlying31 HI.out HZ0.out HZ1.out HZ2.out rfl (by decide) _ 1 [.slice (some ⟨a, 0, none⟩) (mainD n).length ca] rfl ⟨rfl, .inr ⟨wr.heap.size, 1, _, rfl, HD.out.below.size, heap_alloc_new wr _, Nat.le_refl _, (by simp only [maxLen]; omega), rfl, rfl⟩⟩ ⟨g5, 0, none⟩ PS.length c5 (PS.map Prg.val) rfl (by simp) HC5.out (vals_one PS) ?h63 ?hby ?hbase ?_)
      case h63 => have := dj1_len HL.out; have := HN6.out; simp only [maxLen]; omega
      case hby => have := dj1_len HL.out; have := HN6.out; omega
      case hbase => have := HD.out.below.size; simp; omega
      intro v6 w6 h6 g6 _ _
      obtain ⟨gj, cj, hv6, hpg, hbw⟩ := HD.out.job HPA.out h6 g6
      subst hv6
      have HPG := Lib.hid hpg
      have HBW := Lib.hid hbw
      clear h6 g6 hpg hbw HI HZ0 HZ1 HZ2 HPA HC5
      have hplen : PS.length + 1 = n + 2 := by have := dj1_len HL.out; omega
      have JC : ∀ V, Calls Tryz.prog 11 #[.slice (some ⟨gj, 0, none⟩) (PS.length + 1) cj] V fun e w' => e = .returned (.agg #[.int .i64 4, .int .i64 4, .int .i64 4, .int .i64 2, .int .i64 512, .int .i64 5, .slice (some ⟨gj, 0, none⟩) (PS.length + 1) cj, .slice none 0 0]) ∧ Below V.heap.size V w' := fun V => Job_c V (⟨a, mainD n, ca⟩ :: PS) gj cj
      have HPL := Lib.hid hplen
      clear hplen
      go_upto_region 22 with (go_at_call 11; with_reducible refine (JC _).mono ?_; rintro e w7 ⟨rfl, b7⟩; have HB7 := Lib.hid b7; clear b7 JC)
      obtain ⟨jb, hjb⟩ : ∃ jb, jb = w7.heap.size := ⟨_, rfl⟩
      obtain ⟨PG, hPG⟩ : ∃ PG, PG = (⟨a, mainD n, ca⟩ :: PS : List Prg) := ⟨_, rfl⟩
      have hpgl : PS.length + 1 = PG.length := by rw [hPG]; rfl
      have hpgm : PG.map Prg.L = mainD n :: diesL :: heirsL cs n := by rw [hPG, List.map_cons, HL.out]
      have hpg1 := HPG.out.reads HB7.out
      have hbw1 := HBW.out.trans (HB7.out.mono HBW.out.size)
      rw [← hPG] at hpg1
      rw [hpgl]
      have bl3 := (Below.refl w7.heap.size w7).alloc (Nat.le_refl _) (.cells #[.int .i64 4, .int .i64 4, .int .i64 4, .int .i64 2, .int .i64 512, .int .i64 5, .slice (some ⟨gj, 0, none⟩) PG.length cj, .slice none 0 0] 34)
      rw [← hjb]
      refine world_wp (fun W => W.heap[jb]? = some (.cells #[.int .i64 4, .int .i64 4, .int .i64 4, .int .i64 2, .int .i64 512, .int .i64 5, .slice (some ⟨gj, 0, none⟩) PG.length cj, .slice none 0 0] 34 (0, 0)) ∧ ∀ o W', Upd W jb o W' → PgsH W' gj PG ∧ Below w.heap.size w W') ⟨by rw [hjb]; exact heap_alloc_new w7 _, fun o W' U => by
        have bu := bl3.trans (U.below (B := w7.heap.size) (by rw [hjb]; exact Nat.le_refl _) bl3.size)
        exact ⟨hpg1.reads bu, hbw1.trans (bu.mono hbw1.size)⟩⟩ ?_
      have HPM := Lib.hid hpgm
      clear bl3 hbw1 hpg1 HPG HBW HB7 hjb hPG hpgl hpgm HD HL HPL
      rintro W4 ⟨xj, hpg⟩
      have fz := has_free xj
      have U1 := ((Upd.refl xj).setCell 0 (.int .i64 8)).to (o' := .cells (deadJ PG gj cj).cells.toArray 34 (0, 0)) (by simp only [deadJ, Job.cells, List.setIfInBounds_toArray, List.set_cons_zero])
      have c0 : W4.cell? ⟨jb, 0, none⟩ = some (.int .i64 4) := has_cell 0 xj rfl
      have HU := Lib.hid (And.intro U1.1 (hpg _ _ U1))
      clear hpg U1
      go_upto_region 23 with fail
      refine world_wp (fun W => W.heap[jb]? = some (.cells (deadJ PG gj cj).cells.toArray 34 (0, 0)) ∧ PgsH W gj PG ∧ Below w.heap.size w W) HU.out ?_
      clear HU xj c0 fz W4
      rintro W5 ⟨xj, hpg, hbw⟩
      have d0 : W5.cell? ⟨jb, 0, none⟩ = some (.int .i64 8) := has_cell 0 xj rfl
      have d1 : W5.cell? ⟨jb, 1, none⟩ = some (.int .i64 4) := has_cell 1 xj rfl
      have d2 : W5.cell? ⟨jb, 2, none⟩ = some (.int .i64 4) := has_cell 2 xj rfl
      have d3 : W5.cell? ⟨jb, 3, none⟩ = some (.int .i64 2) := has_cell 3 xj rfl
      have d4 : W5.cell? ⟨jb, 4, none⟩ = some (.int .i64 512) := has_cell 4 xj rfl
      have d5 : W5.cell? ⟨jb, 5, none⟩ = some (.int .i64 5) := has_cell 5 xj rfl
      have d6 : W5.cell? ⟨jb, 6, none⟩ = some (.slice (some ⟨gj, 0, none⟩) PG.length cj) := has_cell 6 xj rfl
      have d7 : W5.cell? ⟨jb, 7, none⟩ = some (.slice none 0 0) := has_cell 7 xj rfl
      have HPG := Lib.hid hpg
      have HBW := Lib.hid hbw
      have NC : ∀ V, PgsH V gj PG → _ := fun V h => new_c V (deadJ PG gj cj) h (deadJ_ok cs n HN6.out HPM.out gj cj) 8 4 5 rfl rfl rfl
      clear hpg hbw xj
      go_upto_region 24 with (go_at_call 12; refine (NC _ HPG.out).mono ?_; rintro e w6 ⟨B, lo, tb, tc, rfl, hJ, hn, l1, l2, l3, l4, k6, cm, b6, hl⟩; have HK6 := Lib.hid k6; have HN0 := Lib.hid (first_i (now_first cm l1 l3 l4)); have HB6 := Lib.hid (HBW.out.trans (b6.mono HBW.out.size)); have HJJ := Lib.hid hJ; have HNN := Lib.hid hn; have HLL := Lib.hid hl; clear NC k6 cm l1 l2 l3 l4 b6 hJ hn hl)
      obtain ⟨m, PS', DJB⟩ : ∃ m PS', DJ B m PS' cs := by
        obtain ⟨PS', b', cap', h1, h2⟩ := HJJ.out
        refine dj_of h1 ?_ HNN.out (by rw [← HN.out]; exact HN1.out) (by rw [← HN.out]; exact HN6.out)
        rw [h2, ← HN.out]
        exact HPM.out
      have HF0 : RowKit.Hid (BelowK w (KS.first B lo 8 4 5 tb tc) w6) := Lib.hid ⟨HB6.out, fun k hk => HLL.out k (Nat.lt_of_lt_of_le hk HBW.out.size)⟩
      have RC := run18_c w6 _ HK6.out (Aj B cs tb tc) (Mj B cs) HN0.out (a_steps DJB tb tc) (a_ticks DJB tb tc)
      clear d0 d1 d2 d3 d4 d5 d6 d7 HPG HBW HB6 HJJ HNN HLL HN0 HK6 DJB
      go_upto_region 27 with (go_at_call 18; refine RC.mono ?_; rintro e w9 ⟨S9, rfl, hA, k9, f9⟩; have HA := Lib.hid hA; have HK9 := Lib.hid k9; have HF9 := Lib.hid (HF0.out.fr f9); clear hA k9 f9 RC HF0)
      have c6 : cs.length ≤ 6 := by rw [← HN.out]; exact HN6.out
      have hno := a_last tb tc c6 S9 HA.out
      have hnl : S9.lo.notes.length = n := by rw [hno, notesF_len, HN.out]
      obtain ⟨gn, cn, hnv⟩ := nv_some HK9.out (by rw [hnl]; exact HN1.out)
      have NT := Notes_c w9 S9 (a_last_B tb tc c6 S9 HA.out) HK9.out (by rw [hnl]; have := HN6.out; omega) gn cn hnv
      have HNO := Lib.hid hno
      clear hno hnl hnv c6
      go_upto_region 28 with (go_at_call 15; refine NT.mono ?_; rintro e w10 ⟨v10, rfl, hrow, _, b10⟩; have HR10 := Lib.hid hrow; have HB10 := Lib.hid (HF9.out.1.trans (b10.mono HF9.out.1.size)); clear hrow b10 NT)
      obtain ⟨gg, cg, hv10, hcells⟩ : ∃ g cap, v10 = .slice (some ⟨g, 0, none⟩) n cap ∧ ∀ i, i < n → w10.cell? ⟨g, i * 2 + 1, none⟩ = some (.int .i64 (eF cs i)) := by
        have q := HR10.out
        rw [HNO.out, notesF_len] at q
        have := notes_cells (by rw [← HN.out]; exact HN1.out) q
        rwa [← HN.out] at this
      subst hv10
      have HCE := Lib.hid hcells
      clear hcells HR10 HNO HA HK9 HF9
      go_wp2_with fail
      go_loopw [12, 13] (fun u12 u13 wr => ∃ i : Nat, u13 = .int .i64 i ∧ i ≤ n ∧ u12 = .int .i64 (eF cs i) ∧ Below w10.heap.size w10 wr) (fun _ u13 _ => n - (intOf u13).toNat)
      case atStart => exact ⟨0, rfl, by omega, rfl, Below.refl _ _⟩
      case round =>
        obtain ⟨i, rfl, hi, rfl, hbl⟩ := hrel
        have HBL := Lib.hid hbl
        by_cases hlt : i < n
        · have j0 : (0 : Int) ≤ i := by omega
          have j1 : (i : Int) < n := by omega
          have HI := Lib.hid hlt
          have ce := HCE.out i hlt
          have hgl : gg < w10.heap.size := World.block_lt_of_cell? w10 ⟨gg, i * 2 + 1, none⟩ (by rw [ce])
          have ce1 : wr.cell? ⟨gg, i * 2 + 1, none⟩ = some (.int .i64 (eF cs i)) := (Below.cell (p := ⟨gg, i * 2 + 1, none⟩) hbl hgl).trans ce
          have cb : wr.cell? ⟨ab, off + i, none⟩ = some (.bool (cs.getD i false)) := (Below.cell (p := ⟨ab, off + i, none⟩) (HB10.out.trans (hbl.mono HB10.out.size)) HAB.out).trans (HCS.out i hlt)
          have hnx := eF_next cs i
          obtain ⟨x, hx⟩ : ∃ x, x = eF cs i := ⟨_, rfl⟩
          rw [← hx] at ce1 hnx ⊢
          obtain ⟨c, hc⟩ : ∃ c, c = cs.getD i false := ⟨_, rfl⟩
          rw [← hc] at cb hnx
          clear hlt hi hbl ce hx hc hgl
          by_cases h130 : x = 130
          · subst h130
            rw [if_pos rfl] at hnx
            cases c with
            | true =>
              have HNX := Lib.hid hnx
              clear hnx
              go_wp2_with fail
              go_roundw
              case rel => exact ⟨i + 1, by go_num, by have := HI.out; omega, by rw [HNX.out]; rfl, HBL.out⟩
              case measure => have := HI.out; simp [intOf]; omega
            | false =>
              have HNX := Lib.hid hnx
              clear hnx
              go_wp2_with fail
              go_roundw
              case rel => exact ⟨i + 1, by go_num, by have := HI.out; omega, by rw [HNX.out]; rfl, HBL.out⟩
              case measure => have := HI.out; simp [intOf]; omega
          · rw [if_neg h130] at hnx
            have HNX := Lib.hid hnx
            clear hnx
            go_wp2_with fail
            go_roundw
            case rel => exact ⟨i + 1, by go_num, by have := HI.out; omega, by rw [HNX.out], HBL.out⟩
            case measure => have := HI.out; simp [intOf]; omega
        · obtain rfl : i = n := by omega
          clear hbl hi hlt
          go_wp2_with (go_at_call 7; refine (alive_7 _).mono ?_; rintro e w11 ⟨rfl, b11⟩; have HB11 := Lib.hid b11; clear b11)
          go_ret
          have q := HB10.out.trans (HBL.out.mono HB10.out.size)
          exact ⟨rfl, q.trans (HB11.out.mono q.size)⟩
end Dd
end Go.Proofs.YtagmlijhgncklaaGreatDoor.Ker
namespace Go.Proofs.YtagmlijhgncklaaGreatDoor.Ker
namespace Dd
open Go.RowKit Go.Proofs.YtagmlijhgncklaaGreatDoor Go.Proofs.YtagmlijhgncklaaGreatDoor.Code

set_option maxHeartbeats 1000000 in
set_option maxRecDepth 100000 in
theorem dead_out (w : World) (a : Option Addr) (len cap : Nat) (h : len < 1 ∨ 6 < len) : Calls Tryz.prog 5 #[.slice a len cap] w fun e w' => e = .returned (.bool true) ∧ Below w.heap.size w w' := by
  go_enter Tryz.func5, Tryz.ntmps5
  go_upto_region 2 with fail
  all_goals first
    | (exfalso; omega)
    | (go_wp2_with (go_at_call 7; refine (alive_7 _).mono ?_; rintro e w9 ⟨rfl, b9⟩)
       go_ret
       exact ⟨rfl, by assumption⟩)
theorem dead_claim (w : World) (a : Option Addr) (len cap : Nat) (hs : IsRows w boolSc a len) : Calls Tryz.prog 5 #[.slice a len cap] w fun e w' => e = .returned (.bool true) ∧ Below w.heap.size w w' := by
  by_cases h : len < 1 ∨ 6 < len
  · exact dead_out w a len cap h
  · obtain ⟨b, off, l, rfl, hl, hb, hc⟩ := bool_cells hs (by omega)
    subst hl
    exact dead_walk w b off cap l (by omega) (by omega) hb hc
end Dd
end Go.Proofs.YtagmlijhgncklaaGreatDoor.Ker
