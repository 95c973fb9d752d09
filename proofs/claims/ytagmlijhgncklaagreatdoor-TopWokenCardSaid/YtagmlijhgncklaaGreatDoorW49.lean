/-
  The lists of the dying owner's row, as they grow; its job. Conditions: those said.
  The calls that lay the dying owner's programs; what was there ahead of the kernel. Conditions: those said.
-/
import Derived.Test.YtagmlijhgncklaaGreatDoorW46
import Derived.Test.YtagmlijhgncklaaGreatDoorW48
import Derived.Test.YtagmlijhgncklaaGreatDoorW42
set_option linter.unusedVariables false
namespace Go.Proofs.YtagmlijhgncklaaGreatDoor.Ker
namespace Dd
open Go.RowKit Go.Proofs.YtagmlijhgncklaaGreatDoor Go.Proofs.YtagmlijhgncklaaGreatDoor.Code

/-- Main's program and the others', so far. -/
structure DW (w W : World) (v3 v5 : Value) (L : List Ins) (PS : List Prg) : Prop where
  main : OwnI W w.heap.size v3 L
  heirs : Heirs W w.heap.size v5 PS
  ap : ∀ b, v3.ownBlock = some b → v5.ownBlock ≠ some b ∧ ∀ x ∈ PS, x.p ≠ b
  below : Below w.heap.size w W
theorem DW.reads {w W W' : World} {v3 v5 : Value} {L : List Ins} {PS : List Prg} (h : DW w W v3 v5 L PS) (k : Below W.heap.size W W') : DW w W' v3 v5 L PS :=
  ⟨owns_kept h.main fun b hb => k.block b (owns_lt h.main hb), h.heirs.reads k, h.ap, h.below.trans (k.mono h.below.size)⟩
theorem row_base {w : World} {B : Nat} {e : TypeId} {s n : Nat} {v : Value} {xs : List Value} (h : w.ownsRow B e s v n xs) {b : Nat} (hb : v.ownBlock = some b) : B ≤ b := (World.ownsRow.lt h b hb).1
theorem grown_past {w W W' : World} {r : Option Nat} (h : Below w.heap.size w W) (g : W.grownBy W' r) (hr : ∀ b, r = some b → w.heap.size ≤ b) : Below w.heap.size w W' :=
  ⟨g.os.trans h.os, g.tape.trans h.tape, g.output.trans h.output, Nat.le_trans h.size g.size, fun k hk => (g.block k (Nat.lt_of_lt_of_le hk h.size) (fun e => by have := hr k e.symm; omega)).trans (h.block k hk)⟩
theorem DW.put {w W W' : World} {v3 v5 v3' : Value} {L L' : List Ins} {PS : List Prg} (h : DW w W v3 v5 L PS) (o : OwnI W' w.heap.size v3' L') (g : W.grownBy W' v3.ownBlock) (hat : v3'.ownBlock = v3.ownBlock ∨ ∀ b, v3'.ownBlock = some b → W.heap.size ≤ b) : DW w W' v3' v5 L' PS := by
  refine ⟨o, h.heirs.grows g h.ap, fun b hb => ?_, grown_past h.below g fun b hb => row_base h.main hb⟩
  rcases hat with e | e
  · exact h.ap b (e ▸ hb)
  · have hle := e b hb
    refine ⟨fun q => ?_, fun x hx q => ?_⟩
    · have := owns_lt h.heirs.row q
      omega
    · have := prg_lt (h.heirs.ps x hx).1
      omega
theorem DW.more {w W W' : World} {v3 v5 v5' : Value} {L : List Ins} {PS : List Prg} {x : Prg} (h : DW w W v3 v5 L PS) (hx : PrgH W x.p x.L) (hb : w.heap.size ≤ x.p) (hn3 : v3.ownBlock ≠ some x.p) (hn5 : v5.ownBlock ≠ some x.p)
    (o : W'.ownsRow w.heap.size 24 1 v5' (PS.length + 1) (PS.map Prg.val ++ [x.val])) (g : W.grownBy W' v5.ownBlock) (hat : v5'.ownBlock = v5.ownBlock ∨ v5'.ownBlock = some W.heap.size) : DW w W' v3 v5' L (PS ++ [x]) := by
  have hat2 : ∀ b, b < W.heap.size → v5.ownBlock ≠ some b → v5'.ownBlock ≠ some b := by
    intro b hb hne q
    rcases hat with e | e
    · rw [e] at q; exact hne q
    · rw [e] at q; cases q; omega
  refine ⟨owns_kept h.main fun b hb => g.block b (owns_lt h.main hb) (fun e => (h.ap b hb).1 e.symm), ⟨?_, ?_⟩, ?_, grown_past h.below g fun b hb => row_base h.heirs.row hb⟩
  · rw [List.length_append, List.map_append]
    exact o
  · intro y hy
    rcases List.mem_append.1 hy with hy | hy
    · obtain ⟨p1, p2, p3⟩ := h.heirs.ps y hy
      exact ⟨prg_move p1 (g.block _ (prg_lt p1) (fun e => p3 e.symm)), p2, hat2 _ (prg_lt p1) p3⟩
    · obtain rfl : y = x := by simpa using hy
      exact ⟨prg_move hx (g.block _ (prg_lt hx) (fun e => hn5 e.symm)), hb, hat2 _ (prg_lt hx) hn5⟩
  · intro b hb
    refine ⟨hat2 b (owns_lt h.main hb) (h.ap b hb).1, fun y hy => ?_⟩
    rcases List.mem_append.1 hy with hy | hy
    · exact (h.ap b hb).2 y hy
    · obtain rfl : y = x := by simpa using hy
      intro q
      subst q
      exact hn3 hb
/-- A list of the caller's own, begun behind w. -/
structure LW (w W : World) (v : Value) (L : List Ins) : Prop where
  own : OwnI W w.heap.size v L
  below : Below w.heap.size w W
theorem LW.nil (w : World) : LW w w (.slice none 0 0) [] := ⟨⟨rfl, .inl ⟨rfl, rfl⟩⟩, Below.refl _ _⟩
theorem LW.reads {w W W' : World} {v : Value} {L : List Ins} (h : LW w W v L) (k : Below W.heap.size W W') : LW w W' v L :=
  ⟨owns_kept h.own fun b hb => k.block b (owns_lt h.own hb), h.below.trans (k.mono h.below.size)⟩
theorem LW.grown {w W W' : World} {v v' : Value} {L L' : List Ins} (h : LW w W v L) (o : OwnI W' w.heap.size v' L') (g : W.grownBy W' v.ownBlock) : LW w W' v' L' :=
  ⟨o, grown_past h.below g fun _ hb => row_base h.own hb⟩
theorem set_ok {d : Nat} (hd : d < 8) (x m : Int) : (iSet d x).Ok m :=
  .inl ⟨rfl, .inl ⟨rfl, by show (0 : Int) ≤ (d : Int); omega, by show (d : Int) ≤ 7; omega⟩, .inr ⟨rfl, rfl⟩, .inr ⟨rfl, rfl⟩⟩
theorem call_ok {k : Int} (h0 : 0 ≤ k) (h1 : k ≤ 255) (m : Int) : (iCall k).Ok m :=
  .inr (.inr (.inr (.inl ⟨rfl, .inr ⟨rfl, rfl⟩, .inr ⟨rfl, rfl⟩, .inr ⟨rfl, rfl⟩, h0, h1⟩)))
theorem head_ok (m : Int) : ∀ i ∈ headL, i.Ok m := by
  intro i hi
  simp only [headL, List.mem_cons, List.mem_nil_iff, or_false] at hi
  rcases hi with rfl | rfl | rfl | rfl | rfl | rfl | rfl | rfl | rfl | rfl | rfl | rfl <;> first | exact set_ok (by decide) _ _ | exact call_ok (by decide) (by decide) _
theorem block_ok (j : Nat) (m : Int) : ∀ i ∈ blockL j, i.Ok m := by
  intro i hi
  simp only [blockL, List.mem_cons, List.mem_nil_iff, or_false] at hi
  rcases hi with rfl | rfl | rfl | rfl | rfl | rfl | rfl | rfl | rfl <;> first | exact set_ok (by decide) _ _ | exact call_ok (by decide) (by decide) _
theorem main_ok (n : Nat) (m : Int) : ∀ i ∈ mainD n, i.Ok m := by
  intro i hi
  rcases List.mem_append.1 hi with hi | hi
  · exact head_ok m i hi
  · induction n with
    | zero => cases hi
    | succ n ih =>
      rcases List.mem_append.1 hi with hi | hi
      · exact ih (List.mem_append_right _ hi) hi
      · exact block_ok n m i hi
/-- A row of programs, as the job has it. -/
theorem pgs_of {w : World} {B : Nat} {v : Value} {PS : List Prg} (h : w.ownsRow B 24 1 v PS.length (PS.map Prg.val)) (h0 : 0 < PS.length) (hp : ∀ x ∈ PS, PrgH w x.p x.L) : ∃ g cap, v = .slice (some ⟨g, 0, none⟩) PS.length cap ∧ PgsH w g PS := by
  rcases h.2 with ⟨_, e⟩ | ⟨g, cap, cur, e, hb, hg, _, _, hs, ht⟩
  · omega
  · refine ⟨g, cap, e, ⟨cur.toList, by simpa using hg, fun k x hk => ?_⟩, hp⟩
    have hk2 : k < PS.length := (List.getElem?_eq_some_iff.1 hk).1
    have q : (PS.map Prg.val)[k]? = some x.val := by rw [List.getElem?_map, hk]; rfl
    rw [← ht] at q
    rwa [List.getElem?_take_of_lt (by omega)] at q
/-- What the notes hold. -/
theorem notesF_get (cs : List Bool) : ∀ n i, i < n → (notesF cs n)[i]? = some (1, eF cs i) := by
  intro n
  induction n with
  | zero => intro i hi; omega
  | succ n ih =>
    intro i hi
    rw [notesF]
    by_cases e : i < n
    · rw [List.getElem?_append_left (by rw [notesF_len]; exact e)]
      exact ih i e
    · obtain rfl : i = n := by omega
      rw [List.getElem?_append_right (by rw [notesF_len]; omega), notesF_len, Nat.sub_self]
      rfl
theorem pairs_get : ∀ (l : List (Int × Int)) (i : Nat) (x : Int × Int), l[i]? = some x → (l.flatMap fun x => [Value.int .i64 x.1, Value.int .i64 x.2])[i * 2 + 1]? = some (.int .i64 x.2)
  | [], i, x, h => by simp at h
  | y :: l, 0, x, h => by
    simp at h
    subst h
    rfl
  | y :: l, i + 1, x, h => by
    have q := pairs_get l i x (by simpa using h)
    rw [show (i + 1) * 2 + 1 = i * 2 + 1 + 1 + 1 by omega]
    exact q
theorem notes_cells {W : World} {B : Nat} {v : Value} {cs : List Bool} (h0 : 0 < cs.length) (h : W.ownsRow B 48 2 v cs.length ((notesF cs cs.length).flatMap fun x => [.int .i64 x.1, .int .i64 x.2])) : ∃ g cap, v = .slice (some ⟨g, 0, none⟩) cs.length cap ∧ ∀ i, i < cs.length → W.cell? ⟨g, i * 2 + 1, none⟩ = some (.int .i64 (eF cs i)) := by
  rcases h.2 with ⟨_, e⟩ | ⟨g, cap, cur, e, hb, hg, hn, _, hs, ht⟩
  · omega
  · refine ⟨g, cap, e, fun i hi => has_cell _ hg ?_⟩
    have q := pairs_get _ i _ (notesF_get cs cs.length i hi)
    rw [← ht, List.getElem?_take_of_lt (by omega)] at q
    simpa using q
end Dd
end Go.Proofs.YtagmlijhgncklaaGreatDoor.Ker
namespace Go.Proofs.YtagmlijhgncklaaGreatDoor.Ker
namespace Dd
open Go.RowKit Go.Proofs.YtagmlijhgncklaaGreatDoor Go.Proofs.YtagmlijhgncklaaGreatDoor.Code

/-- A call is laid behind a list of the caller's own. -/
theorem heir_call {w W : World} {v : Value} {L : List Ins} (h : LW w W v L) (hl : L.length ≤ 1000) (cells : Array Value) (xs : List Int) (hx : cells = (xs.map (Value.int .i64)).toArray) (hal : xs.length ≤ 100) (n : Int) (cap : Nat) :
    Calls Tryz.prog 8 #[v, .int .i64 n, .slice (some ⟨W.heap.size, 0, none⟩) xs.length cap] (W.alloc (.cells cells 2)) fun e w' => ∃ v', e = .returned v' ∧ LW w w' v' (L ++ setsF 2 xs ++ [⟨7, 0, 0, 0, n⟩]) := by
  subst hx
  have h1 := h.reads ((Below.refl _ W).alloc (Nat.le_refl _) (.cells (xs.map (Value.int .i64)).toArray 2))
  refine (put_c _ w.heap.size v L h1.own h1.below.size n W.heap.size cap xs (heap_alloc_new W _) (fun e => absurd (owns_lt h.own e) (by omega)) hl hal).mono ?_
  rintro e w' ⟨v', rfl, P⟩
  exact ⟨v', rfl, h1.grown P.own P.grown⟩
/-- The row of programs as a slice. -/
theorem DW.rows {w W : World} {v3 v5 : Value} {L : List Ins} {PS : List Prg} (h : DW w W v3 v5 L PS) (h0 : 0 < PS.length) : ∃ g cap, v5 = .slice (some ⟨g, 0, none⟩) PS.length cap ∧ ∀ j u, (PS.map Prg.val)[j]? = some u → W.cell? ((⟨g, 0, none⟩ : Addr).add j) = some u := by
  rcases h.heirs.row.2 with ⟨_, e⟩ | ⟨g, cap, cur, e, _⟩
  · omega
  · exact ⟨g, cap, e, World.ownsRow.cells h.heirs.row (by rw [e]; rfl)⟩
/-- Main's program ahead of the others: the job's row. -/
theorem DW.job {w W W' : World} {v5 v' : Value} {L : List Ins} {PS : List Prg} {a ca : Nat} (h : DW w W (.slice (some ⟨a, 0, none⟩) L.length ca) v5 L PS) (hp : PrgH W a L)
    (o : W'.ownsRow w.heap.size 24 1 v' (1 + PS.length) ([.slice (some ⟨a, 0, none⟩) L.length ca] ++ PS.map Prg.val)) (g : (W.alloc (.cells #[.slice (some ⟨a, 0, none⟩) L.length ca] 24)).grownBy W' (some W.heap.size)) :
    ∃ g cap, v' = .slice (some ⟨g, 0, none⟩) (PS.length + 1) cap ∧ PgsH W' g (⟨a, L, ca⟩ :: PS) ∧ Below w.heap.size w W' := by
  have b1 := (Below.refl _ W).alloc (Nat.le_refl _) (.cells #[.slice (some ⟨a, 0, none⟩) L.length ca] 24)
  have k : ∀ p L', PrgH W p L' → PrgH W' p L' := by
    intro p L' q
    have lt := prg_lt q
    exact prg_move (q.reads b1) (g.block p (by simp; omega) (fun e => by cases e; omega))
  obtain ⟨gg, cap, e, q⟩ := pgs_of (PS := ⟨a, L, ca⟩ :: PS) (by rw [show (1 : Nat) + PS.length = (⟨a, L, ca⟩ :: PS : List Prg).length by simp; omega] at o; exact o) (by simp) (by
    intro x hx
    rcases List.mem_cons.1 hx with rfl | hx
    · exact k a L hp
    · exact k x.p x.L (h.heirs.ps x hx).1)
  refine ⟨gg, cap, e, q, ?_⟩
  have s := h.below.size
  exact grown_past (h.below.trans (b1.mono s)) g fun b hb => by cases hb; exact s
/-- What was there ahead of the kernel is as it was. -/
def BelowK (w : World) (S : KS) (W : World) : Prop := Below w.heap.size w W ∧ ∀ k, k < w.heap.size → S.lo.lab k = 0
theorem BelowK.fr {w W W' : World} {S S' : KS} (h : BelowK w S W) (f : Fr S S' W W') : BelowK w S' W' :=
  ⟨⟨f.os.trans h.1.os, f.tape.trans h.1.tape, f.output.trans h.1.output, Nat.le_trans h.1.size f.size, fun k hk => (f.block k (Nat.lt_of_lt_of_le hk h.1.size) (h.2 k hk)).trans (h.1.block k hk)⟩, fun k hk => (f.lab k (Nat.lt_of_lt_of_le hk h.1.size)).trans (h.2 k hk)⟩
theorem nv_some {W : World} {S : KS} (h : KW W S) (h0 : 0 < S.lo.notes.length) : ∃ g cap, S.lo.nv = .slice (some ⟨g, 0, none⟩) S.lo.notes.length cap := by
  rcases h.nt.2 with ⟨_, e⟩ | ⟨g, cap, cur, e, _⟩
  · omega
  · exact ⟨g, cap, e⟩
theorem alive_7 (w : World) : Calls Tryz.prog 7 #[] w fun e w' => e = .returned (.bool true) ∧ Below w.heap.size w w' := alive_c w
end Dd
end Go.Proofs.YtagmlijhgncklaaGreatDoor.Ker
