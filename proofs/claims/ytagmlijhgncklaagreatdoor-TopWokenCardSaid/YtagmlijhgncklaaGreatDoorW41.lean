/-
  A kernel that is being made: the blocks that are there, each with its label; when all are there, a kernel lies in the world. There are no conditions but those said.
  A kernel in the making, with the job that was given: what lies where, and when all is there, the kernel. There are no conditions but those said.
  A kernel's first thread: its place, its handle; nothing is inherited. Plain. There are no conditions but those said.
  The kernel is made (New), over the translation of this seat. Conditions: the job is right and lies where it says.
  What an instruction does (a set, an add, a jump), as a run of the kernel asks for it; and Do of it. Conditions: the blocks that are named hold what is said.
  Do of a tick, over the translation of this seat; who runs, as Runs says. Conditions: the blocks that are named hold what is said.
  Do of a call that makes a thread, over the translation of this seat. Conditions: the blocks that are named hold what is said; a place is free.
  Do of a call that ends a thread (exit), over the translation of this seat. Conditions: the blocks that are named hold what is said.
  Do of a call that joins a thread that has ended, over the translation of this seat. Conditions: the blocks that are named hold what is said.
  Do of a run in which a thread comes to its end behind its last instruction, over the translation of this seat. Conditions: the blocks that are named hold what is said.
  How a kernel stands: all that the next event asks for, as plain data; what each event makes of it. Conditions: those said.
  What an exit, an end, a join, a tick make of how a kernel stands. Conditions: those said.
  What a tick makes of how a kernel stands, where a robin runs. Conditions: those said.
-/
import Derived.Test.YtagmlijhgncklaaGreatDoorW32
import Derived.Test.YtagmlijhgncklaaGreatDoorW18
import Derived.Test.YtagmlijhgncklaaGreatDoorW40
import Derived.Test.YtagmlijhgncklaaGreatDoorW31
set_option linter.unusedVariables false
namespace Go.Proofs.YtagmlijhgncklaaGreatDoor.Ker
open Go.RowKit Go.Proofs.YtagmlijhgncklaaGreatDoor Go.Proofs.YtagmlijhgncklaaGreatDoor.Code

/-- Blocks, what they hold, their labels. -/
abbrev Fl := List (Nat × Obj × Nat)
def labF (F : Fl) (b : Nat) : Nat := match F.find? (fun x => x.1 == b) with
  | none => 0
  | some x => x.2.2
def FlOk (F : Fl) : Prop := ∀ x ∈ F, ∀ y ∈ F, x.1 = y.1 → x.2.2 = y.2.2
theorem labF_of {F : Fl} (h : FlOk F) {x : Nat × Obj × Nat} (hx : x ∈ F) : labF F x.1 = x.2.2 := by
  unfold labF
  cases hf : F.find? (fun y => y.1 == x.1) with
  | none => have q := List.find?_eq_none.1 hf x hx; simp at q
  | some y =>
    have q := List.find?_some hf
    exact h y (List.mem_of_find?_eq_some hf) x hx (by simpa using q)
theorem labF_no {F : Fl} {b : Nat} (h : ∀ x ∈ F, x.1 ≠ b) : labF F b = 0 := by
  unfold labF
  cases hf : F.find? (fun y => y.1 == b) with
  | none => rfl
  | some y =>
    have q := List.find?_some hf
    exact absurd (by simpa using q) (h y (List.mem_of_find?_eq_some hf))
/-- The kernel's block, and the others that are made so far. -/
structure Mk (w W : World) (kb : Nat) (C : Array Value) (F : Fl) : Prop where
  k : W.heap[kb]? = some (.cells C 94 (0, 0))
  f : ∀ x ∈ F, W.heap[x.1]? = some x.2.1
  ok : FlOk F
  ne : ∀ x ∈ F, x.1 ≠ kb
  ge : ∀ x ∈ F, w.heap.size ≤ x.1
  kge : w.heap.size ≤ kb
  below : Below w.heap.size w W
theorem Mk.reads {w W W' : World} {kb : Nat} {C : Array Value} {F : Fl} (h : Mk w W kb C F) (k : Below W.heap.size W W') : Mk w W' kb C F :=
  ⟨below_has k h.k, fun x hx => below_has k (h.f x hx), h.ok, h.ne, h.ge, h.kge, h.below.trans (k.mono h.below.size)⟩
theorem Mk.drew {w W : World} {kb : Nat} {C : Array Value} {F : Fl} (h : Mk w W kb C F) : Mk w W.drew kb C F :=
  ⟨h.k, h.f, h.ok, h.ne, h.ge, h.kge, ⟨h.below.os, h.below.tape, h.below.output, h.below.size, h.below.block⟩⟩
/-- A block is made. -/
theorem Mk.put {w W W' : World} {kb : Nat} {C : Array Value} {F : Fl} (h : Mk w W kb C F) (k : Below W.heap.size W W') {b : Nat} {o : Obj} (hb : W.heap.size ≤ b) (ho : W'.heap[b]? = some o) (m : Nat) : Mk w W' kb C ((b, o, m) :: F) := by
  have r := h.reads k
  have lt : ∀ x ∈ F, x.1 < W.heap.size := fun x hx => has_lt (h.f x hx)
  refine ⟨r.k, ?_, ?_, ?_, ?_, r.kge, r.below⟩
  · intro x hx
    rcases List.mem_cons.1 hx with rfl | hx
    · exact ho
    · exact r.f x hx
  · intro x hx y hy e
    rcases List.mem_cons.1 hx with rfl | hx <;> rcases List.mem_cons.1 hy with rfl | hy
    · rfl
    · have := lt y hy
      have : b = y.1 := e
      omega
    · have := lt x hx
      have : x.1 = b := e
      omega
    · exact h.ok x hx y hy e
  · intro x hx
    rcases List.mem_cons.1 hx with rfl | hx
    · have := has_lt h.k
      show b ≠ kb
      omega
    · exact h.ne x hx
  · intro x hx
    rcases List.mem_cons.1 hx with rfl | hx
    · show w.heap.size ≤ b
      have := h.below.size
      omega
    · exact h.ge x hx
/-- A field of the kernel is set. -/
theorem Mk.set {w W : World} {kb : Nat} {C : Array Value} {F : Fl} (h : Mk w W kb C F) (i : Nat) (v : Value) : Mk w (W.setCell ⟨kb, i, none⟩ v) kb (C.setIfInBounds i v) F := by
  have U := (Upd.refl h.k).setCell i v
  refine ⟨U.1, fun x hx => U.other (h.f x hx) (h.ne x hx), h.ok, h.ne, h.ge, h.kge, h.below.trans (U.below h.kge h.below.size)⟩
theorem Mk.free {w W : World} {kb : Nat} {C : Array Value} {F : Fl} (h : Mk w W kb C F) : ∀ i, W.frozen? ⟨kb, i, none⟩ = false := has_free h.k
/-- When all is there, a kernel lies in the world. -/
theorem Mk.lies {w W : World} {kb : Nat} {C : Array Value} {F : Fl} (h : Mk w W kb C F) (S : KS) (hl : S.lo.lab = labF ((kb, .cells C 94 (0, 0), 5) :: F)) (hc : S.lo.cst = fun b o => (b, o, 1) ∈ F) (h1 : S.lo.lv = .slice none 0 0 ∧ S.lo.ln = 0) (h2 : S.lo.nv = .slice none 0 0 ∧ S.lo.notes = []) (h3 : S.lo.av = .slice none 0 0 ∧ S.lo.an = 0)
    (hk : kO S = .cells C 94 (0, 0)) (hb : S.B.kb = kb) (ho : ∀ i b o, S.obj (i + 1) = some (b, o) → (b, o, i + 6) ∈ F) : KW W S := by
  have ok : FlOk ((kb, .cells C 94 (0, 0), 5) :: F) := by
    intro x hx y hy e
    rcases List.mem_cons.1 hx with rfl | hx <;> rcases List.mem_cons.1 hy with rfl | hy
    · rfl
    · exact absurd e.symm (h.ne y hy)
    · exact absurd e (h.ne x hx)
    · exact h.ok x hx y hy e
  have lt : ∀ x ∈ (kb, Obj.cells C 94 (0, 0), 5) :: F, x.1 < W.heap.size := fun x hx => by
    rcases List.mem_cons.1 hx with rfl | hx
    · exact has_lt h.k
    · exact has_lt (h.f x hx)
  refine ⟨?_, ?_, ?_, ?_, ?_, ?_, ?_, ?_, ?_⟩
  · intro i b o hi
    rw [hl]
    cases i with
    | zero =>
      have e : some (S.B.kb, kO S) = some (b, o) := hi
      cases e
      rw [hb, hk]
      exact ⟨h.k, labF_of ok (x := (kb, .cells C 94 (0, 0), 5)) (List.mem_cons_self ..)⟩
    | succ i =>
      have m := ho i b o hi
      exact ⟨h.f _ m, labF_of ok (x := (b, o, i + 6)) (List.mem_cons_of_mem _ m)⟩
  · intro b o hi
    rw [hc] at hi
    rw [hl]
    exact ⟨h.f _ hi, labF_of ok (x := (b, o, 1)) (List.mem_cons_of_mem _ hi)⟩
  · rw [h1.1, h1.2]; exact ⟨_, World.ownsRow_nil _ _ _ _⟩
  · rw [h1.1]; intro b hb; cases hb
  · rw [h2.1, h2.2]; exact World.ownsRow_nil _ _ _ _
  · rw [h2.1]; intro b hb; cases hb
  · rw [h3.1, h3.2]; exact ⟨_, World.ownsRow_nil _ _ _ _⟩
  · rw [h3.1]; intro b hb; cases hb
  · intro b hb
    rw [hl]
    exact labF_no fun x hx e => by have := lt x hx; omega
/-- A job's programs are blocks that stay. -/
theorem pgs_fl {W : World} {b B : Nat} {PS : List Prg} (h : PgsH W b PS) (hb : B ≤ b) (hp : ∀ x ∈ PS, B ≤ x.p) : ∃ F : Fl, (∀ x ∈ F, W.heap[x.1]? = some x.2.1 ∧ B ≤ x.1 ∧ x.2.2 = 1) ∧
    (∃ cs : List Value, (b, Obj.cells cs.toArray 24 (0, 0), 1) ∈ F ∧ ∀ (k : Nat) (x : Prg), PS[k]? = some x → cs[k]? = some x.val) ∧
    ∀ x ∈ PS, ∃ cs : List Value, (x.p, Obj.cells cs.toArray 29 (0, 0), 1) ∈ F ∧ ∀ k (i : Ins), x.L[k]? = some i → ∀ j, j < 5 → cs[k * 5 + j]? = i.cells[j]? := by
  obtain ⟨⟨cs, h1, h2⟩, h3⟩ := h
  have q : ∀ M : List Prg, (∀ x ∈ M, PrgH W x.p x.L ∧ B ≤ x.p) → ∃ F : Fl, (∀ x ∈ F, W.heap[x.1]? = some x.2.1 ∧ B ≤ x.1 ∧ x.2.2 = 1) ∧ ∀ x ∈ M, ∃ cs : List Value, (x.p, Obj.cells cs.toArray 29 (0, 0), 1) ∈ F ∧ ∀ k (i : Ins), x.L[k]? = some i → ∀ j, j < 5 → cs[k * 5 + j]? = i.cells[j]? := by
    intro M
    induction M with
    | nil => intro _; exact ⟨[], by simp, by simp⟩
    | cons y M ih =>
      intro hM
      obtain ⟨F, f1, f2⟩ := ih fun x hx => hM x (List.mem_cons_of_mem _ hx)
      obtain ⟨⟨ds, d1, d2⟩, d3⟩ := hM y (List.mem_cons_self ..)
      refine ⟨(y.p, Obj.cells ds.toArray 29 (0, 0), 1) :: F, ?_, ?_⟩
      · intro x hx
        rcases List.mem_cons.1 hx with rfl | hx
        · exact ⟨d1, d3, rfl⟩
        · exact f1 x hx
      · intro x hx
        rcases List.mem_cons.1 hx with rfl | hx
        · exact ⟨ds, List.mem_cons_self .., d2⟩
        · obtain ⟨es, e1, e2⟩ := f2 x hx
          exact ⟨es, List.mem_cons_of_mem _ e1, e2⟩
  obtain ⟨F, f1, f2⟩ := q PS fun x hx => ⟨h3 x hx, hp x hx⟩
  refine ⟨(b, Obj.cells cs.toArray 24 (0, 0), 1) :: F, ?_, ⟨cs, List.mem_cons_self .., h2⟩, ?_⟩
  · intro x hx
    rcases List.mem_cons.1 hx with rfl | hx
    · exact ⟨h1, hb, rfl⟩
    · exact f1 x hx
  · intro x hx
    obtain ⟨es, e1, e2⟩ := f2 x hx
    exact ⟨es, List.mem_cons_of_mem _ e1, e2⟩
end Go.Proofs.YtagmlijhgncklaaGreatDoor.Ker
namespace Go.Proofs.YtagmlijhgncklaaGreatDoor.Ker
open Go.RowKit Go.Proofs.YtagmlijhgncklaaGreatDoor Go.Proofs.YtagmlijhgncklaaGreatDoor.Code

theorem jobC (J : Job) (z : Nat) : ∀ W : World, W.heap[z]? = some (.cells J.cells.toArray 34 (0, 0)) → W.cell? ⟨z, 0, none⟩ = some (.int .i64 J.t) ∧ W.cell? ⟨z, 1, none⟩ = some (.int .i64 J.o) ∧ W.cell? ⟨z, 2, none⟩ = some (.int .i64 J.s) ∧ W.cell? ⟨z, 3, none⟩ = some (.int .i64 J.q) ∧ W.cell? ⟨z, 4, none⟩ = some (.int .i64 512) ∧ W.cell? ⟨z, 5, none⟩ = some (.int .i64 J.pr)
    ∧ W.cell? ⟨z, 6, none⟩ = some (.slice (some ⟨J.b, 0, none⟩) J.PS.length J.cap) ∧ W.cell? ⟨z, 7, none⟩ = some (.slice none 0 0) := fun W h =>
  ⟨has_cell 0 h rfl, has_cell 1 h rfl, has_cell 2 h rfl, has_cell 3 h rfl, has_cell 4 h rfl, has_cell 5 h rfl, has_cell 6 h rfl, has_cell 7 h rfl⟩
/-- The kernel in the making, and the job that was given. -/
structure Mz (J : Job) (w W : World) (kb z : Nat) (C : Array Value) (F : Fl) : Prop where
  m : Mk w W kb C F
  hz : W.heap[z]? = some (.cells J.cells.toArray 34 (0, 0))
  zk : z ≠ kb
  sz : C.size = 92
theorem Mz.reads {J : Job} {w W W' : World} {kb z : Nat} {C : Array Value} {F : Fl} (h : Mz J w W kb z C F) (k : Below W.heap.size W W') : Mz J w W' kb z C F := ⟨h.m.reads k, below_has k h.hz, h.zk, h.sz⟩
theorem Mz.drew {J : Job} {w W : World} {kb z : Nat} {C : Array Value} {F : Fl} (h : Mz J w W kb z C F) : Mz J w W.drew kb z C F := ⟨h.m.drew, h.hz, h.zk, h.sz⟩
theorem Mz.set {J : Job} {w W : World} {kb z : Nat} {C : Array Value} {F : Fl} (h : Mz J w W kb z C F) (i : Nat) (v : Value) : Mz J w (W.setCell ⟨kb, i, none⟩ v) kb z (C.setIfInBounds i v) F :=
  ⟨h.m.set i v, ((Upd.refl h.m.k).setCell i v).other h.hz h.zk, h.zk, by rw [Array.size_setIfInBounds]; exact h.sz⟩
theorem Mz.cell {J : Job} {w W : World} {kb z : Nat} {C : Array Value} {F : Fl} (h : Mz J w W kb z C F) (i : Nat) (hi : i < 92) : ∃ v, W.cell? ⟨kb, i, none⟩ = some v := ⟨C[i]'(by rw [h.sz]; exact hi), has_cell i h.m.k (Array.getElem?_eq_getElem (by rw [h.sz]; exact hi))⟩
theorem Mz.cellAll {J : Job} {w W : World} {kb z : Nat} {C : Array Value} {F : Fl} (h : Mz J w W kb z C F) (i : Nat) (hi : i < 92) : ∃ v, ∀ W' F', Mz J w W' kb z C F' → W'.cell? ⟨kb, i, none⟩ = some v ∧ ∀ i, W'.frozen? ⟨kb, i, none⟩ = false :=
  ⟨C[i]'(by rw [h.sz]; exact hi), fun W' F' h' => ⟨has_cell i h'.m.k (Array.getElem?_eq_getElem (by rw [h.sz]; exact hi)), h'.m.free⟩⟩
theorem Mz.news {J : Job} {w W W' : World} {kb z : Nat} {C : Array Value} {F : Fl} (h : Mz J w W kb z C F) (k : Below W.heap.size W W') (G : Fl) (hg : ∀ x ∈ G, W.heap.size ≤ x.1 ∧ W'.heap[x.1]? = some x.2.1) (ok : FlOk G) : Mz J w W' kb z C (G ++ F) := by
  have r := h.reads k
  have lt : ∀ x ∈ F, x.1 < W.heap.size := fun x hx => has_lt (h.m.f x hx)
  refine ⟨⟨r.m.k, ?_, ?_, ?_, ?_, r.m.kge, r.m.below⟩, r.hz, r.zk, r.sz⟩
  · intro x hx
    rcases List.mem_append.1 hx with hx | hx
    · exact (hg x hx).2
    · exact r.m.f x hx
  · intro x hx y hy e
    rcases List.mem_append.1 hx with hx | hx <;> rcases List.mem_append.1 hy with hy | hy
    · exact ok x hx y hy e
    · have := lt y hy
      have := (hg x hx).1
      omega
    · have := lt x hx
      have := (hg y hy).1
      omega
    · exact h.m.ok x hx y hy e
  · intro x hx
    rcases List.mem_append.1 hx with hx | hx
    · have := has_lt h.m.k
      have := (hg x hx).1
      omega
    · exact h.m.ne x hx
  · intro x hx
    rcases List.mem_append.1 hx with hx | hx
    · have := (hg x hx).1
      have := h.m.below.size
      omega
    · exact h.m.ge x hx
theorem Mz.new1 {J : Job} {w W W' : World} {kb z : Nat} {C : Array Value} {F : Fl} (h : Mz J w W kb z C F) (k : Below W.heap.size W W') {b : Nat} {o : Obj} (m : Nat) (hb : W.heap.size ≤ b) (ho : W'.heap[b]? = some o) : Mz J w W' kb z C ([(b, o, m)] ++ F) :=
  h.news k _ (by intro x hx; simp at hx; subst hx; exact ⟨hb, ho⟩) (by intro x hx y hy _; simp at hx hy; subst hx; subst hy; rfl)
theorem Mz.new2 {J : Job} {w W W' : World} {kb z : Nat} {C : Array Value} {F : Fl} (h : Mz J w W kb z C F) (k : Below W.heap.size W W') {b c : Nat} {o x : Obj} (m n : Nat) (hb : W.heap.size ≤ b) (ho : W'.heap[b]? = some o) (hc : W.heap.size ≤ c) (hx : W'.heap[c]? = some x) (hne : b ≠ c) : Mz J w W' kb z C ([(b, o, m), (c, x, n)] ++ F) :=
  h.news k _ (by intro y hy; simp at hy; rcases hy with rfl | rfl; exact ⟨hb, ho⟩; exact ⟨hc, hx⟩) (by
    intro y hy u hu e
    simp at hy hu
    rcases hy with rfl | rfl <;> rcases hu with rfl | rfl
    · rfl
    · exact absurd e hne
    · exact absurd e.symm hne
    · rfl)
theorem Mz.new3 {J : Job} {w W W' : World} {kb z : Nat} {C : Array Value} {F : Fl} (h : Mz J w W kb z C F) (k : Below W.heap.size W W') {b c d : Nat} {o x y : Obj} (m : Nat) (hb : W.heap.size ≤ b) (ho : W'.heap[b]? = some o) (hc : W.heap.size ≤ c) (hx : W'.heap[c]? = some x) (hd : W.heap.size ≤ d) (hy : W'.heap[d]? = some y) : Mz J w W' kb z C ([(b, o, m), (c, x, m), (d, y, m)] ++ F) :=
  h.news k _ (by intro y hy; simp at hy; rcases hy with rfl | rfl | rfl; exact ⟨hb, ho⟩; exact ⟨hc, hx⟩; exact ⟨hd, by assumption⟩) (by
    intro y hy u hu _
    simp at hy hu
    rcases hy with rfl | rfl | rfl <;> rcases hu with rfl | rfl | rfl <;> rfl)
theorem Mz.wp {P : Program} {c : Code} {Q : Exit → Act → World → Prop} {a : Act} {J : Job} {w W : World} {kb z : Nat} {C : Array Value} {F : Fl} (h : Mz J w W kb z C F) (k : ∀ W, Mz J w W kb z C F → c.wp P Q a W) : c.wp P Q a W := k W h
theorem Mz.wpG {P : Program} {c : Code} {Q : Exit → Act → World → Prop} {a : Act} {J : Job} {w W : World} {kb z : Nat} {C : Array Value} {F : Fl} (h : Mz J w W kb z C F) (k : ∀ C' F', C' = C → F' = F → ∀ W, Mz J w W kb z C' F' → c.wp P Q a W) : c.wp P Q a W := k C F rfl rfl W h
/-- The controls of what is done once, made so far. -/
def onC (C : Array Value) (on : Nat → Nat) : Nat → Array Value
  | 0 => C
  | j + 1 => (onC C on j).setIfInBounds (72 + j) (.pointer (some ⟨on j, 0, none⟩))
def onF (F : Fl) (on : Nat → Nat) : Nat → Fl
  | 0 => F
  | j + 1 => [(on j, Key.ocO ⟨0, 0⟩, 1)] ++ onF F on j
theorem on_put (C : Array Value) (F : Fl) (on : Nat → Nat) (b : Nat) (j : Nat) : ∀ k, k ≤ j → onC C (put on j b) k = onC C on k ∧ onF F (put on j b) k = onF F on k := by
  intro k
  induction k with
  | zero => intro _; exact ⟨rfl, rfl⟩
  | succ k ih =>
    intro hk
    obtain ⟨h1, h2⟩ := ih (by omega)
    have e : put on j b k = on k := put_ne _ _ (by omega)
    exact ⟨by simp only [onC, h1, e], by simp only [onF, h2, e]⟩
theorem mem_onF {F : Fl} {on : Nat → Nat} {x : Nat × Obj × Nat} (h : x ∈ F) : ∀ k, x ∈ onF F on k
  | 0 => h
  | k + 1 => List.mem_append_right _ (mem_onF h k)
theorem on_mem (F : Fl) (on : Nat → Nat) (i : Nat) : ∀ k, i < k → (on i, Key.ocO ⟨0, 0⟩, 1) ∈ onF F on k
  | 0, h => absurd h (by omega)
  | k + 1, h => by
    by_cases e : i = k
    · subst e; exact List.mem_append_left _ (List.mem_singleton.2 rfl)
    · exact List.mem_append_right _ (on_mem F on i k (by omega))
theorem Mz.beyond {J : Job} {w W W' W2 : World} {kb z a s : Nat} {C C' : Array Value} {F : Fl} (h : Mz J w W kb z C F) (h' : Mz J w W' kb z C' F) (U : Upd2 W' a s W2) (ha : W.heap.size ≤ a) (hs : W.heap.size ≤ s) (hw : W.heap.size ≤ W'.heap.size) : Mz J w W2 kb z C' F := by
  have k1 := has_lt h.m.k
  have k2 := has_lt h.hz
  have b1 := h.m.below.size
  refine ⟨⟨U.other h'.m.k (by omega) (by omega), fun x hx => U.other (h'.m.f x hx) (by have := has_lt (h.m.f x hx); omega) (by have := has_lt (h.m.f x hx); omega), h'.m.ok, h'.m.ne, h'.m.ge, h'.m.kge, h'.m.below.trans (U.below (by omega) (by omega) h'.m.below.size)⟩, U.other h'.hz (by omega) (by omega), h'.zk, h'.sz⟩
/-- A kernel of no thread. -/
def KS.zero (B : KB) (lo : Lo) (n o : Nat) : KS := { B := B, tp := fun _ => none, th := fun _ => none, T := List.replicate n (false, 0), L := List.replicate 16 Hs.no, R := Rd.new, st := 0, re := 0, mo := 0, W0 := Wh.new, W1 := Wh.new, kx := Key.newK o, muT := List.replicate o (false, 0), muL := fun _ => none, seT := List.replicate o (false, 0), seL := fun _ => none, ext := fun _ => none, lo := lo }
theorem gn_rep (n i : Nat) : Tab.gn (List.replicate n (false, 0)) i = 0 := by
  unfold Tab.gn
  rw [List.getD_eq_getElem?_getD, List.getElem?_replicate]
  split <;> rfl
theorem kO_zero (C0 C1 : Array Value) (on : Nat → Nat) (J : Job) (PS : List Prg) (kb tab tb rb cb w0 w1 sg mu mub co se seb ba rw rwt qu ma tm tm0 tm1 ke b cap n o mb : Nat) (hp fs : Value) (lo : Lo) (h1 : lo.lv = .slice none 0 0) (h2 : lo.nv = .slice none 0 0) (h3 : lo.av = .slice none 0 0)
    (hC1 : C1 = (((((((((((((((C0.setIfInBounds 9 (.pointer (some ⟨tab, 0, none⟩))).setIfInBounds 26 (.pointer (some ⟨tb, 0, none⟩))).setIfInBounds 27 (.pointer (some ⟨cb, 0, none⟩))).setIfInBounds 28 (.pointer (some ⟨w0, 0, none⟩))).setIfInBounds 29 (.pointer (some ⟨w1, 0, none⟩))).setIfInBounds 30 (.pointer (some ⟨sg, 0, none⟩))).setIfInBounds 63 (.pointer (some ⟨mu, 0, none⟩))).setIfInBounds 64 (.pointer (some ⟨co, 0, none⟩))).setIfInBounds 65 (.pointer (some ⟨se, 0, none⟩))).setIfInBounds 66 (.pointer (some ⟨ba, 0, none⟩))).setIfInBounds 67 (.pointer (some ⟨rw, 0, none⟩))).setIfInBounds 68 (.pointer (some ⟨qu, 0, none⟩))).setIfInBounds 69 (.pointer (some ⟨ma, 0, none⟩))).setIfInBounds 70 (.pointer (some ⟨tm, 0, none⟩))).setIfInBounds 71 (.pointer (some ⟨ke, 0, none⟩))))
    (hC0 : ((((((((Tryz.zeroCells94.setIfInBounds 0 (Value.int IntKind.i64 J.t)).setIfInBounds 1 (Value.int IntKind.i64 J.o)).setIfInBounds 2 (Value.int IntKind.i64 J.s)).setIfInBounds 3 (Value.int IntKind.i64 J.q)).setIfInBounds 4 (Value.int IntKind.i64 512)).setIfInBounds 5 (Value.int IntKind.i64 J.pr)).setIfInBounds 6 (Value.slice (some { block := b, off := 0 }) PS.length cap)).setIfInBounds 7 (Value.slice none 0 0)) = C0) :
    kO (KS.zero ⟨kb, tab, tb, rb, cb, w0, w1, sg, ke, mu, mub, se, seb, co, 0, ba, 0, rw, rwt, qu, 0, ma, 0, tm, tm0, tm1, on, hp, fs, n, mb, ⟨J.t, J.o, J.s, J.q, J.pr, PS, b, cap⟩⟩ lo n o) = .cells (((onC C1 on 8).setIfInBounds 80 hp).setIfInBounds 81 fs) 94 (0, 0) := by
  obtain ⟨lab, cst, lv, ln, nv, notes, av, an⟩ := lo
  subst h1 h2 h3
  obtain ⟨zl, hzl⟩ : ∃ zl : List Value, zl = Tryz.zeroCells94.toList := ⟨_, rfl⟩
  have e : Tryz.zeroCells94 = zl.toArray := by rw [hzl]
  rw [e] at hC0
  simp only [List.setIfInBounds_toArray] at hC0
  rw [← hC0] at hC1
  simp only [List.setIfInBounds_toArray] at hC1
  rw [hC1]
  simp only [onC, List.setIfInBounds_toArray]
  unfold kO
  refine congrArg (fun a : List Value => Obj.cells a.toArray 94 (0, 0)) (?_ : (kC _).toList = _)
  subst hzl
  kernel_rfl
set_option maxHeartbeats 4000000 in
theorem Mz.lies {J : Job} {w W : World} {kb z tab tb rb cb w0 w1 sg mu mub co se seb ba rw rwt qu ma tm tm0 tm1 ke b cap n o : Nat} {mb : Nat} {hp fs : Value} {C0 C1 : Array Value} {F0 F1 : Fl} {on : Nat → Nat} {PS : List Prg}
    (M : Mz J w W kb z (((onC C1 on 8).setIfInBounds 80 hp).setIfInBounds 81 fs) (onF F1 on 8))
    (hC1 : C1 = (((((((((((((((C0.setIfInBounds 9 (.pointer (some ⟨tab, 0, none⟩))).setIfInBounds 26 (.pointer (some ⟨tb, 0, none⟩))).setIfInBounds 27 (.pointer (some ⟨cb, 0, none⟩))).setIfInBounds 28 (.pointer (some ⟨w0, 0, none⟩))).setIfInBounds 29 (.pointer (some ⟨w1, 0, none⟩))).setIfInBounds 30 (.pointer (some ⟨sg, 0, none⟩))).setIfInBounds 63 (.pointer (some ⟨mu, 0, none⟩))).setIfInBounds 64 (.pointer (some ⟨co, 0, none⟩))).setIfInBounds 65 (.pointer (some ⟨se, 0, none⟩))).setIfInBounds 66 (.pointer (some ⟨ba, 0, none⟩))).setIfInBounds 67 (.pointer (some ⟨rw, 0, none⟩))).setIfInBounds 68 (.pointer (some ⟨qu, 0, none⟩))).setIfInBounds 69 (.pointer (some ⟨ma, 0, none⟩))).setIfInBounds 70 (.pointer (some ⟨tm, 0, none⟩))).setIfInBounds 71 (.pointer (some ⟨ke, 0, none⟩))))
    (hF1 : F1 = [(ke, Key.kO (Key.newK o), 13)] ++ ([(tm, tmO J.o tm0 tm1, 1), (tm0, whO Wh.new, 1), (tm1, whO Wh.new, 1)] ++ ([(rw, stO rwt 191, 1), (rwt, Tab.tabO (List.replicate o (false, 0)), 1)] ++ ([(se, stO seb 185, 16), (seb, Tab.tabO (List.replicate o (false, 0)), 17)] ++ ([(mu, stO mub 179, 14), (mub, Tab.tabO (List.replicate o (false, 0)), 15)] ++ ([(sg, sgO J.t J.s mb, 12)] ++ ([(w1, whO Wh.new, 11)] ++ ([(w0, whO Wh.new, 10)] ++ ([(cb, Clk.clkO true 0 0, 9)] ++ ([(tb, tnO rb J.q (List.replicate 16 Hs.no), 7), (rb, rdO Rd.new 0, 8)] ++ ([(tab, Tab.tabO (List.replicate n (false, 0)), 6)] ++ F0)))))))))))
    (hC0 : ((((((((Tryz.zeroCells94.setIfInBounds 0 (Value.int IntKind.i64 J.t)).setIfInBounds 1 (Value.int IntKind.i64 J.o)).setIfInBounds 2 (Value.int IntKind.i64 J.s)).setIfInBounds 3 (Value.int IntKind.i64 J.q)).setIfInBounds 4 (Value.int IntKind.i64 512)).setIfInBounds 5 (Value.int IntKind.i64 J.pr)).setIfInBounds 6 (Value.slice (some { block := b, off := 0 }) PS.length cap)).setIfInBounds 7 (Value.slice none 0 0)) = C0)
    (hF0 : ∃ cs : List Value, (b, Obj.cells cs.toArray 24 (0, 0), 1) ∈ F0 ∧ ∀ (k : Nat) (x : Prg), PS[k]? = some x → cs[k]? = some x.val)
    (hF2 : ∀ x ∈ PS, ∃ cs : List Value, (x.p, Obj.cells cs.toArray 29 (0, 0), 1) ∈ F0 ∧ ∀ k (i : Ins), x.L[k]? = some i → ∀ j, j < 5 → cs[k * 5 + j]? = i.cells[j]?)
    (hR : RdOk Rd.new) (hn : J.t = n) (ho : J.o = o) (hJ : J.Ok) : ∃ (B : KB) (lo : Lo), B.kb = kb ∧ B.J = ⟨J.t, J.o, J.s, J.q, J.pr, PS, b, cap⟩ ∧ B.n = n ∧ lo.ln = 0 ∧ lo.nv = .slice none 0 0 ∧ lo.notes = [] ∧ lo.an = 0 ∧ (∀ k, k < w.heap.size → lo.lab k = 0) ∧ KW W (KS.zero B lo n o) ∧ KP (KS.zero B lo n o) := by
  have hz := M.m.ge
  have kz := M.m.kge
  obtain ⟨B, hB⟩ : ∃ B : KB, B = ⟨kb, tab, tb, rb, cb, w0, w1, sg, ke, mu, mub, se, seb, co, 0, ba, 0, rw, rwt, qu, 0, ma, 0, tm, tm0, tm1, on, hp, fs, n, mb, ⟨J.t, J.o, J.s, J.q, J.pr, PS, b, cap⟩⟩ := ⟨_, rfl⟩
  obtain ⟨C, hC⟩ : ∃ C, C = ((onC C1 on 8).setIfInBounds 80 hp).setIfInBounds 81 fs := ⟨_, rfl⟩
  rw [← hC] at M
  obtain ⟨lo, hlo⟩ : ∃ lo : Lo, lo = ⟨labF ((kb, .cells C 94 (0, 0), 5) :: onF F1 on 8), fun b o => (b, o, 1) ∈ onF F1 on 8, .slice none 0 0, 0, .slice none 0 0, [], .slice none 0 0, 0⟩ := ⟨_, rfl⟩
  have mem : ∀ x, x ∈ F1 → x ∈ onF F1 on 8 := fun x hx => mem_onF hx 8
  have m0 : ∀ x, x ∈ F0 → x ∈ F1 := fun x hx => by rw [hF1]; simp [hx]
  refine ⟨B, lo, by rw [hB], by rw [hB], by rw [hB], by rw [hlo], by rw [hlo], by rw [hlo], by rw [hlo], ?_, ?_, ?_⟩
  · intro k hk
    rw [hlo]
    refine labF_no fun x hx e => ?_
    rcases List.mem_cons.1 hx with rfl | hx
    · have : kb = k := e
      omega
    · have := hz x hx
      omega
  · refine M.m.lies _ (by rw [hlo]; rfl) (by rw [hlo]; rfl) (by rw [hlo]; exact ⟨rfl, rfl⟩) (by rw [hlo]; exact ⟨rfl, rfl⟩) (by rw [hlo]; exact ⟨rfl, rfl⟩) ?_ (by rw [hB]; rfl) ?_
    · rw [hB, hC]
      exact kO_zero C0 C1 on J PS kb tab tb rb cb w0 w1 sg mu mub co se seb ba rw rwt qu ma tm tm0 tm1 ke b cap n o mb hp fs lo (by rw [hlo]) (by rw [hlo]) (by rw [hlo]) hC1 hC0
    · intro i c x hi
      subst hB
      match i, hi with
      | 0, hi => cases hi; exact mem _ (by rw [hF1]; simp [KS.zero])
      | 1, hi => cases hi; exact mem _ (by rw [hF1]; simp [KS.zero])
      | 2, hi => cases hi; exact mem _ (by rw [hF1]; simp [KS.zero])
      | 3, hi => cases hi; exact mem _ (by rw [hF1]; simp [KS.zero])
      | 4, hi => cases hi; exact mem _ (by rw [hF1]; simp [KS.zero])
      | 5, hi => cases hi; exact mem _ (by rw [hF1]; simp [KS.zero])
      | 6, hi => cases hi; exact mem _ (by rw [hF1]; simp [KS.zero])
      | 7, hi => cases hi; exact mem _ (by rw [hF1]; simp [KS.zero])
      | 8, hi => cases hi; exact mem _ (by rw [hF1]; show (mu, stO mub 179, 14) ∈ _; simp)
      | 9, hi => cases hi; exact mem _ (by rw [hF1]; simp [KS.zero])
      | 10, hi => cases hi; exact mem _ (by rw [hF1]; show (se, stO seb 185, 16) ∈ _; simp)
      | 11, hi => cases hi; exact mem _ (by rw [hF1]; simp [KS.zero])
      | n + 12, hi =>
        have hi : (if n < 32 then KS.thObj _ n else none) = some (c, x) := hi
        split at hi
        · unfold KS.thObj KS.zero at hi
          cases hi
        · cases hi
  · have cst : ∀ c x, (c, x, 1) ∈ onF F1 on 8 → lo.cst c x := fun c x hx => by rw [hlo]; exact hx
    have lr : ∀ k, (List.replicate k ((false, 0) : Bool × Int)).length = k := fun k => List.length_replicate
    exact {
      n := by rw [hB]; exact hn
      n1 := by rw [hB]; show 1 ≤ n; have := hJ.t0; omega
      n16 := by rw [hB]; show n ≤ 16; have := hJ.t1; omega
      T := by rw [hB]; exact lr n
      gen := fun i => by show 0 ≤ Tab.gn (List.replicate n (false, 0)) i ∧ _; rw [gn_rep]; exact ⟨by omega, by show Tab.gn (List.replicate n (false, 0)) i ≤ 900; rw [gn_rep]; omega⟩
      L := rfl
      R := hR
      re := ⟨by show (0 : Int) ≤ 0; omega, by show (0 : Int) ≤ _; omega⟩
      mo := ⟨by show (0 : Int) ≤ 0; omega, by show (0 : Int) ≤ _; omega⟩
      W0 := Wh.new_ok
      W1 := Wh.new_ok
      kx := Key.newK_ok (by have := hJ.o0; omega) (by have := hJ.o1; omega)
      live := fun _ => rfl
      tp := fun _ _ => rfl
      can := fun p t h => by cases h
      thn := fun p t h => by cases h
      mu1 := by show 1 ≤ (List.replicate o _).length; rw [lr]; have := hJ.o0; omega
      mu2 := by show (List.replicate o _).length ≤ 16; rw [lr]; have := hJ.o1; omega
      mug := fun i => by show 0 ≤ Tab.gn (List.replicate o (false, 0)) i ∧ Tab.gn (List.replicate o (false, 0)) i ≤ 900; rw [gn_rep]; omega
      se1 := by show 1 ≤ (List.replicate o _).length; rw [lr]; have := hJ.o0; omega
      se2 := by show (List.replicate o _).length ≤ 16; rw [lr]; have := hJ.o1; omega
      seg := fun i => by show 0 ≤ Tab.gn (List.replicate o (false, 0)) i ∧ Tab.gn (List.replicate o (false, 0)) i ≤ 900; rw [gn_rep]; omega
      pg := by
        obtain ⟨cs, h1, h2⟩ := hF0
        subst hB
        exact ⟨cs, cst _ _ (mem _ (m0 _ h1)), h2⟩
      ps := fun x hx => by
        subst hB
        obtain ⟨cs, h1, h2⟩ := hF2 x hx
        exact ⟨cs, cst _ _ (mem _ (m0 _ h1)), h2⟩
      on := fun i hi => by
        subst hB
        exact cst _ _ (on_mem F1 on i 8 hi)
      rw_ := by
        subst hB
        exact cst _ _ (mem _ (by rw [hF1]; show (rw, stO rwt 191, 1) ∈ _; simp))
      rwt := by
        subst hB
        exact ⟨o, by have := hJ.o0; omega, by have := hJ.o1; omega, cst _ _ (mem _ (by rw [hF1]; simp [KS.zero]))⟩
      tm := by
        subst hB
        exact ⟨J.o, hJ.o0, hJ.o1, cst _ _ (mem _ (by rw [hF1]; simp [KS.zero]))⟩
      tm0 := by
        subst hB
        exact cst _ _ (mem _ (by rw [hF1]; simp [KS.zero]))
      tm1 := by
        subst hB
        exact cst _ _ (mem _ (by rw [hF1]; simp [KS.zero])) }
end Go.Proofs.YtagmlijhgncklaaGreatDoor.Ker
namespace Go.Proofs.YtagmlijhgncklaaGreatDoor.Ker
open Go.RowKit Go.Proofs.YtagmlijhgncklaaGreatDoor Go.Proofs.YtagmlijhgncklaaGreatDoor.Code

theorem tk_rep (n i : Nat) : Tab.tk (List.replicate n (false, 0)) i = false := by
  unfold Tab.tk
  rw [List.getD_eq_getElem?_getD, List.getElem?_replicate]
  split <;> rfl
theorem free_rep (n : Nat) (h : 1 ≤ n) : Tab.freeF (List.replicate n (false, 0)) = some 0 := by
  obtain ⟨m, rfl⟩ : ∃ m, n = m + 1 := ⟨n - 1, by omega⟩
  unfold Tab.freeF
  rw [List.length_replicate, List.range_succ_eq_map, List.find?_cons, tk_rep]
  rfl
theorem at_rep (n : Nat) (h : 1 ≤ n) : Tab.atF ((List.replicate n (false, 0)).set 0 (true, 1)) ((0 : Nat) + 16 * 1) = some 0 := by
  obtain ⟨m, rfl⟩ : ∃ m, n = m + 1 := ⟨n - 1, by omega⟩
  unfold Tab.atF
  rw [List.length_set, List.length_replicate, List.range_succ_eq_map, List.find?_cons]
  rfl
/-- A kernel with its first thread. -/
def KS.first (B : KB) (lo : Lo) (n o pr b c : Nat) : KS := (KS.zero B lo n o).made 0 pr 1 (Th.new b c ((0 : Nat) + 16 * 1) 0 pr 0 true)
theorem KS.first_th (B : KB) (lo : Lo) (n o pr b c : Nat) (p : Nat) (t : Th) (h : (KS.first B lo n o pr b c).th p = some t) : p = 0 ∧ t = Th.new b c ((0 : Nat) + 16 * 1) 0 pr 0 true := by
  have h : put (fun _ => none) 0 (some (Th.new b c ((0 : Nat) + 16 * 1) 0 pr 0 true)) p = some t := h
  by_cases e : p = 0
  · subst e
    rw [put_self] at h
    cases h
    exact ⟨rfl, rfl⟩
  · rw [put_ne _ _ e] at h
    cases h
theorem calm_first {B : KB} {lo : Lo} {n o pr b c : Nat} (hP : KP (KS.zero B lo n o)) (hn : B.n = n) (h1 : 1 ≤ pr) (h32 : pr < 32) : Calm (KS.first B lo n o pr b c) where
  P := by
    have n1 : 0 < B.n := hP.n1
    have P1 := (hP.table (i := 0) (x := true) (g := 1) n1 (by omega) (by omega)).newTh (i := 0) (t := Th.new b c ((0 : Nat) + 16 * 1) 0 pr 0 true) n1 rfl
    exact P1.turns (by show (List.set _ _ _).length = 16; rw [List.length_set]; rfl) (RdOk.tailF (newK_ok (Nat.le_refl 32)) h32 0)
  pol := fun p t h => by rw [(KS.first_th B lo n o pr b c p t h).2]; show (0 : Int) ≠ 2; decide
  kd := fun p t h => by rw [(KS.first_th B lo n o pr b c p t h).2]; show (0 : Int) ≠ 2; decide
  ba := fun p t _ h _ => by rw [(KS.first_th B lo n o pr b c p t h).2]; show (0 : Int) ≤ pr ∧ (pr : Int) ≤ 31 ∧ _; exact ⟨by omega, by omega, rfl⟩
  mu := fun i => tk_rep o i
theorem lk_new (pr : Nat) (h : pr < 32) : Lk (Rd.new.tl.getD pr 0) := by
  left
  show (List.replicate 32 (-1 : Int)).getD pr 0 = -1
  rw [List.getD_eq_getElem?_getD, List.getElem?_replicate, if_pos h]
  rfl
end Go.Proofs.YtagmlijhgncklaaGreatDoor.Ker
namespace Go.Proofs.YtagmlijhgncklaaGreatDoor.Ker
open Go.RowKit Go.Proofs.YtagmlijhgncklaaGreatDoor Go.Proofs.YtagmlijhgncklaaGreatDoor.Code

set_option maxHeartbeats 4000000 in
set_option maxRecDepth 100000 in
theorem new_c (w : World) (J : Job) (hP : PgsH w J.b J.PS) (hJ : J.Ok) (n o pr : Nat) (hn : J.t = n) (ho : J.o = o) (hpr : J.pr = pr) :
    Calls Tryz.prog 12 #[J.val] w fun e w' => ∃ (B : KB) (lo : Lo) (tb tc : Nat), e = .returned (.tuple #[.pointer (some ⟨B.kb, 0, none⟩), .int .i64 0]) ∧ (∃ PS b cap, B.J = ⟨J.t, J.o, J.s, J.q, J.pr, PS, b, cap⟩ ∧ PS.map Prg.L = J.PS.map Prg.L) ∧ B.n = n ∧ lo.ln = 0 ∧ lo.nv = .slice none 0 0 ∧ lo.notes = [] ∧ lo.an = 0 ∧ KW w' (KS.first B lo n o pr tb tc) ∧ Calm (KS.first B lo n o pr tb tc)
      ∧ Below w.heap.size w w' ∧ ∀ k, k < w.heap.size → (KS.first B lo n o pr tb tc).lo.lab k = 0 := by
  have b0 := (Below.refl w.heap.size w).alloc (Nat.le_refl _) (.cells J.cells.toArray 34)
  have x0 := heap_alloc_new w (.cells J.cells.toArray 34)
  obtain ⟨w0, hw0⟩ : ∃ w0, w0 = w.alloc (.cells J.cells.toArray 34) := ⟨_, rfl⟩
  rw [← hw0] at b0 x0
  have HP := Lib.hid (hP.reads b0)
  have HB0 := Lib.hid b0
  have HJ := Lib.hid hJ
  obtain ⟨z, hz⟩ : ∃ z, z = w.heap.size := ⟨_, rfl⟩
  have HC := jobC J z
  have HZ := Lib.hid hz
  have HX := Lib.hid (show w0.heap[z]? = some (.cells J.cells.toArray 34 (0, 0)) by rw [hz]; exact x0)
  have HW := Lib.hid (show w0 = w.alloc (.cells #[.int .i64 J.t, .int .i64 J.o, .int .i64 J.s, .int .i64 J.q, .int .i64 512, .int .i64 J.pr, .slice (some ⟨J.b, 0, none⟩) J.PS.length J.cap, .slice none 0 0] 34) from hw0)
  have CK := checkJob_c w0 J HJ.out HP.out
  have OWN := fun W (h : PgsH W J.b J.PS) => own_c W J h HJ.out.n0 HJ.out.n1 (fun x hx => (HJ.out.ps x hx).2)
  have n0 : 1 ≤ n := by have := hJ.t0; omega
  have n1 : n ≤ 16 := by have := hJ.t1; omega
  have o0 : 1 ≤ o := by have := hJ.o0; omega
  have o1 : o ≤ 8 := by have := hJ.o1; omega
  have K23 := fun W => Tab.new_c W n n0 n1
  have K24 := fun W => turns_new W J.q hJ.q0 hJ.q1
  have K25 := fun W => Clk.new_c W 0 (by omega) (by omega)
  have K27 := fun W => sig_new W J.t J.s hJ.t0 hJ.t1 hJ.s0 hJ.s1
  have K28 := fun W => made_28 W o o0 (by omega)
  have K29 := fun W => made_29 W o o0 (by omega)
  have K30 := fun W => made_30 W o o0 (by omega)
  have K31 := fun W => made_31 W o o0 (by omega)
  have K32 := fun W => made_32 W o o0 (by omega)
  have K33 := fun W => made_33 W o o0 (by omega)
  have K34 := fun W => made_34 W o o0 (by omega)
  have K35 := fun W => timers_new W o (by omega) (by omega)
  have K36 := fun W => Key.new_c W o o0 (by omega)
  rw [← hn] at K23
  rw [← ho] at K28 K29 K30 K31 K32 K33 K34 K35 K36
  unfold Job.val at *
  obtain ⟨c0, c1, c2, c3, c4, c5, c6, c7⟩ := HC _ HX.out
  have HN := Lib.hid hn
  have HO := Lib.hid ho
  have HPR := Lib.hid (And.intro hpr (And.intro (show 1 ≤ pr by have := hJ.p0; omega) (show pr < 32 by have := hJ.p1; omega)))
  have HNN := Lib.hid (And.intro (And.intro n0 n1) (And.intro o0 o1))
  clear hP b0 hJ hw0 x0 hz hn ho hpr n0 n1 o0 o1
  go_enter Tryz.func12, Tryz.ntmps12
  go_upto_region 1 with fail
  rw [← HW.out, ← HZ.out]
  go_upto_region 4 with (first
    | (go_at_call 21; refine CK.mono ?_; rintro e w1 ⟨rfl, b1⟩
       have HX1 := Lib.hid (below_has b1 HX.out); have HB1 := Lib.hid (HB0.out.trans (b1.mono HB0.out.size)); have HP1 := Lib.hid (HP.out.reads b1)
       obtain ⟨d0, d1, d2, d3, d4, d5, d6, d7⟩ := HC _ HX1.out
       clear b1 CK)
    | (go_at_call 22; refine (OWN _ HP1.out).mono ?_; rintro e w2 ⟨PS, b, cap, rfl, hPL, hPS, hb, hbs, b2⟩
       have HX2 := Lib.hid (below_has b2 HX1.out); have HB2 := Lib.hid (HB1.out.trans (b2.mono HB1.out.size))
       have HPL := Lib.hid hPL; have HPS := Lib.hid hPS; have HBB := Lib.hid hb; have HBS := Lib.hid hbs
       clear b2 OWN hPL hPS hb hbs))
  generalize hC0 : ((((((((Tryz.zeroCells94.setIfInBounds 0 (Value.int IntKind.i64 J.t)).setIfInBounds 1 (Value.int IntKind.i64 J.o)).setIfInBounds 2 (Value.int IntKind.i64 J.s)).setIfInBounds 3 (Value.int IntKind.i64 J.q)).setIfInBounds 4 (Value.int IntKind.i64 512)).setIfInBounds 5 (Value.int IntKind.i64 J.pr)).setIfInBounds 6 (Value.slice (some { block := b, off := 0 }) PS.length cap)).setIfInBounds 7 (Value.slice none 0 0)) = C0
  obtain ⟨F0, hF0, hF1, hF2⟩ := pgs_fl HPS.out (Nat.le_trans HB1.out.size HBB.out) (fun x hx => Nat.le_trans HB1.out.size (HBS.out x hx))
  have HF1 := Lib.hid hF1
  have HF2 := Lib.hid hF2
  have HC0 := Lib.hid hC0
  have M : Mz J w (w2.alloc (.cells C0 94)) w2.heap.size z C0 F0 := by
    have zl := has_lt HX2.out
    have b3 := (Below.refl w2.heap.size w2).alloc (Nat.le_refl _) (.cells C0 94)
    refine ⟨⟨heap_alloc_new w2 _, fun x hx => below_has b3 (hF0 x hx).1, fun x hx y hy _ => (hF0 x hx).2.2.trans (hF0 y hy).2.2.symm, fun x hx => by have := has_lt (hF0 x hx).1; omega, fun x hx => (hF0 x hx).2.1, HB2.out.size, HB2.out.trans (b3.mono HB2.out.size)⟩, below_has b3 HX2.out, by omega, by rw [← hC0]; simp only [Array.size_setIfInBounds]; kernel_rfl⟩
  obtain ⟨kb, hkb⟩ : ∃ kb, kb = w2.heap.size := ⟨_, rfl⟩
  rw [← hkb] at M ⊢
  refine Mz.wp M ?_
  clear M hkb hF0 hF1 hF2 hC0 HBS HBB HPS HB2 HX2 d0 d1 d2 d3 d4 d5 d6 d7 c0 c1 c2 c3 c4 c5 c6 c7 HP1 HB1 HX1 HW HX HB0 HP
  clear w1 w0
  rintro W M
  obtain ⟨c0, c1, c2, c3, c4, c5, c6, c7⟩ := HC _ M.hz
  have yf := M.m.free
  have HM := Lib.hid M
  clear M
  go_upto_region 6 with (first
    | (go_at_call 23; refine (K23 _).mono ?_; rintro e w3 ⟨rfl, x3, b3, _⟩
       have HM3 := Lib.hid (HM.out.new1 b3 6 (Nat.le_refl _) x3)
       have yf3 := HM3.out.m.free
       obtain ⟨v9, y9⟩ := HM3.out.cell 9 (by decide)
       obtain ⟨d30, d31, d32, d33, d34, d35, d36, d37⟩ := HC _ HM3.out.hz
       clear K23 x3 b3))
  refine Mz.wp (HM3.out.set 9 _) ?_
  clear c0 c1 c2 c3 c4 c5 c6 c7 yf 
  rintro W M
  obtain ⟨c0, c1, c2, c3, c4, c5, c6, c7⟩ := HC _ M.hz
  have yf := M.m.free
  have HM := Lib.hid M
  clear M
  go_upto_region 7 with (first
    | (go_at_call 24; refine (K24 _).mono ?_; rintro e w3 ⟨tb, rb, rfl, T3, b3, r3, t3, _, _⟩
       have HM3 := Lib.hid (HM.out.new2 b3 7 8 t3 T3.t r3 T3.r T3.ne)
       have yf3 := HM3.out.m.free
       obtain ⟨v26, y26⟩ := HM3.out.cell 26 (by decide)
       obtain ⟨d30, d31, d32, d33, d34, d35, d36, d37⟩ := HC _ HM3.out.hz
       clear K24 T3 b3 r3 t3))
  refine Mz.wp (HM3.out.set 26 _) ?_
  clear c0 c1 c2 c3 c4 c5 c6 c7 yf 
  rintro W M
  obtain ⟨c0, c1, c2, c3, c4, c5, c6, c7⟩ := HC _ M.hz
  have yf := M.m.free
  have HM := Lib.hid M
  clear M
  go_upto_region 8 with (first
    | (go_at_call 25; refine (K25 _).mono ?_; rintro e w3 ⟨rfl, x3, b3, _⟩
       have HM3 := Lib.hid (HM.out.new1 b3 9 (Nat.le_refl _) x3)
       have yf3 := HM3.out.m.free
       obtain ⟨v27, y27⟩ := HM3.out.cell 27 (by decide)
       obtain ⟨d30, d31, d32, d33, d34, d35, d36, d37⟩ := HC _ HM3.out.hz
       clear K25 x3 b3))
  refine Mz.wp (HM3.out.set 27 _) ?_
  clear c0 c1 c2 c3 c4 c5 c6 c7 yf 
  rintro W M
  obtain ⟨c0, c1, c2, c3, c4, c5, c6, c7⟩ := HC _ M.hz
  have yf := M.m.free
  have HM := Lib.hid M
  clear M
  go_upto_region 9 with (first
    | (first
      | (go_at_call 26; refine (wheel_new _).mono ?_; rintro e w4 ⟨rfl, x4, b4, _⟩
         have HM4 := Lib.hid (HM3.out.new1 b4 11 (Nat.le_refl _) x4)
         have yf4 := HM4.out.m.free
         obtain ⟨v28, y28⟩ := HM4.out.cell 28 (by decide); obtain ⟨v29, y29⟩ := HM4.out.cell 29 (by decide)
         obtain ⟨d40, d41, d42, d43, d44, d45, d46, d47⟩ := HC _ HM4.out.hz
         clear x4 b4)
      | (go_at_call 26; refine (wheel_new _).mono ?_; rintro e w3 ⟨rfl, x3, b3, _⟩
         have HM3 := Lib.hid (HM.out.new1 b3 10 (Nat.le_refl _) x3)
         have yf3 := HM3.out.m.free
         skip
         obtain ⟨d30, d31, d32, d33, d34, d35, d36, d37⟩ := HC _ HM3.out.hz
         clear x3 b3)))
  refine Mz.wp ((HM4.out.set 28 _).set 29 _) ?_
  clear c0 c1 c2 c3 c4 c5 c6 c7 yf 
  rintro W M
  obtain ⟨c0, c1, c2, c3, c4, c5, c6, c7⟩ := HC _ M.hz
  have yf := M.m.free
  have HM := Lib.hid M
  clear M
  go_upto_region 10 with (first
    | (go_at_call 27; refine (K27 _).mono ?_; rintro e w3 ⟨sg, mb, rfl, x3, b3, s3⟩
       have HM3 := Lib.hid (HM.out.new1 b3 12 s3 x3)
       have yf3 := HM3.out.m.free
       obtain ⟨v30, y30⟩ := HM3.out.cell 30 (by decide)
       obtain ⟨d30, d31, d32, d33, d34, d35, d36, d37⟩ := HC _ HM3.out.hz
       clear x3 b3 s3 K27))
  refine Mz.wp (HM3.out.set 30 _) ?_
  clear c0 c1 c2 c3 c4 c5 c6 c7 yf 
  rintro W M
  obtain ⟨c0, c1, c2, c3, c4, c5, c6, c7⟩ := HC _ M.hz
  have yf := M.m.free
  have HM := Lib.hid M
  clear M
  go_upto_region 11 with (first
    | (go_at_call 28; refine (K28 _).mono ?_; rintro e w3 ⟨mu, rfl, x3, t3, b3, s3⟩
       have HM3 := Lib.hid (HM.out.new2 b3 14 15 (Nat.le_of_lt s3) x3 (Nat.le_refl _) t3 (by omega))
       have yf3 := HM3.out.m.free
       skip
       obtain ⟨d30, d31, d32, d33, d34, d35, d36, d37⟩ := HC _ HM3.out.hz
       clear x3 t3 b3 s3 K28)
    | (go_at_call 29; refine (K29 _).mono ?_; rintro e w4 ⟨co, rfl, _, _, b4, _⟩
       have HM4 := Lib.hid (HM3.out.reads b4)
       have yf4 := HM4.out.m.free
       skip
       obtain ⟨d40, d41, d42, d43, d44, d45, d46, d47⟩ := HC _ HM4.out.hz
       clear b4 K29)
    | (go_at_call 30; refine (K30 _).mono ?_; rintro e w5 ⟨se, rfl, x3, t3, b3, s3⟩
       have HM5 := Lib.hid (HM4.out.new2 b3 16 17 (Nat.le_of_lt s3) x3 (Nat.le_refl _) t3 (by omega))
       have yf5 := HM5.out.m.free
       skip
       obtain ⟨d50, d51, d52, d53, d54, d55, d56, d57⟩ := HC _ HM5.out.hz
       clear x3 t3 b3 s3 K30)
    | (go_at_call 31; refine (K31 _).mono ?_; rintro e w6 ⟨ba, rfl, _, _, b6, _⟩
       have HM6 := Lib.hid (HM5.out.reads b6)
       have yf6 := HM6.out.m.free
       obtain ⟨v63, y63⟩ := HM6.out.cell 63 (by decide); obtain ⟨v64, y64⟩ := HM6.out.cell 64 (by decide); obtain ⟨v65, y65⟩ := HM6.out.cell 65 (by decide); obtain ⟨v66, y66⟩ := HM6.out.cell 66 (by decide)
       obtain ⟨d60, d61, d62, d63, d64, d65, d66, d67⟩ := HC _ HM6.out.hz
       clear b6 K31))
  refine Mz.wp ((((HM6.out.set 63 _).set 64 _).set 65 _).set 66 _) ?_
  clear c0 c1 c2 c3 c4 c5 c6 c7 yf 
  rintro W M
  obtain ⟨c0, c1, c2, c3, c4, c5, c6, c7⟩ := HC _ M.hz
  have yf := M.m.free
  have HM := Lib.hid M
  clear M
  go_upto_region 12 with (first
    | (go_at_call 32; refine (K32 _).mono ?_; rintro e w3 ⟨rw_, rfl, x3, t3, b3, s3⟩
       have HM3 := Lib.hid (HM.out.new2 b3 1 1 (Nat.le_of_lt s3) x3 (Nat.le_refl _) t3 (by omega))
       have yf3 := HM3.out.m.free
       skip
       obtain ⟨d30, d31, d32, d33, d34, d35, d36, d37⟩ := HC _ HM3.out.hz
       clear x3 t3 b3 s3 K32)
    | (go_at_call 33; refine (K33 _).mono ?_; rintro e w4 ⟨qu, rfl, _, _, b4, _⟩
       have HM4 := Lib.hid (HM3.out.reads b4)
       have yf4 := HM4.out.m.free
       skip
       obtain ⟨d40, d41, d42, d43, d44, d45, d46, d47⟩ := HC _ HM4.out.hz
       clear b4 K33)
    | (go_at_call 34; refine (K34 _).mono ?_; rintro e w5 ⟨ma, rfl, _, _, b5, _⟩
       have HM5 := Lib.hid (HM4.out.reads b5)
       have yf5 := HM5.out.m.free
       obtain ⟨v67, y67⟩ := HM5.out.cell 67 (by decide); obtain ⟨v68, y68⟩ := HM5.out.cell 68 (by decide); obtain ⟨v69, y69⟩ := HM5.out.cell 69 (by decide)
       obtain ⟨d50, d51, d52, d53, d54, d55, d56, d57⟩ := HC _ HM5.out.hz
       clear b5 K34))
  refine Mz.wp (((HM5.out.set 67 _).set 68 _).set 69 _) ?_
  clear c0 c1 c2 c3 c4 c5 c6 c7 yf 
  rintro W M
  obtain ⟨c0, c1, c2, c3, c4, c5, c6, c7⟩ := HC _ M.hz
  have yf := M.m.free
  have HM := Lib.hid M
  clear M
  go_upto_region 13 with (first
    | (go_at_call 35; refine (K35 _).mono ?_; rintro e w3 ⟨tm, tm0, tm1, rfl, T3, b3, s3, s4, s5⟩
       have HM3 := Lib.hid (HM.out.new3 b3 1 s3 T3.t s4 T3.h0 s5 T3.h1)
       have yf3 := HM3.out.m.free
       obtain ⟨v70, y70⟩ := HM3.out.cell 70 (by decide)
       obtain ⟨d30, d31, d32, d33, d34, d35, d36, d37⟩ := HC _ HM3.out.hz
       clear T3 b3 s3 s4 s5 K35))
  refine Mz.wp (HM3.out.set 70 _) ?_
  clear c0 c1 c2 c3 c4 c5 c6 c7 yf 
  rintro W M
  obtain ⟨c0, c1, c2, c3, c4, c5, c6, c7⟩ := HC _ M.hz
  have yf := M.m.free
  have HM := Lib.hid M
  clear M
  go_upto_region 14 with (first
    | (go_at_call 36; refine (K36 _).mono ?_; rintro e w3 ⟨rfl, x3, b3, _⟩
       have HM3 := Lib.hid (HM.out.new1 b3 13 (Nat.le_refl _) x3)
       have yf3 := HM3.out.m.free
       obtain ⟨v71, y71⟩ := HM3.out.cell 71 (by decide)
       obtain ⟨d30, d31, d32, d33, d34, d35, d36, d37⟩ := HC _ HM3.out.hz
       clear x3 b3 K36))
  refine Mz.wp (HM3.out.set 71 _) ?_
  clear c0 c1 c2 c3 c4 c5 c6 c7 yf 
  rintro W M
  refine Mz.wpG M ?_
  clear M
  rintro C1 F1 hC1 hF1 W M
  have HC1 := Lib.hid hC1
  have HF1' := Lib.hid hF1
  clear hC1 hF1
  go_wp2_with fail
  go_loopw [111] (fun i wr => ∃ (j : Nat) (on : Nat → Nat), i = .int .i64 j ∧ j ≤ 8 ∧ Mz J w wr kb z (onC C1 on j) (onF F1 on j)) (fun i _ => 8 - (intOf i).toNat)
  case atStart => exact ⟨0, fun _ => 0, rfl, by omega, M⟩
  case round =>
    clear M
    obtain ⟨j, on, rfl, hj, M⟩ := hrel
    by_cases hlt : j < 8
    · obtain ⟨v, HV⟩ := M.cellAll (72 + j) (by omega)
      have i1 : (0 : Int) ≤ j := by omega
      have i2 : (j : Int) < 8 := by omega
      have HM := Lib.hid M
      have HVV := Lib.hid HV
      clear M HV
      go_upto_region 17 with fail
      go_region_law (first | (go_simp; go_at_call 37; refine (Key.newo_c wr.drew).mono ?_; rintro e w3 ⟨rfl, x3, b3⟩; have M3 := HM.out.drew.new1 b3 1 (Nat.le_refl _) x3; obtain ⟨y3, yf3⟩ := HVV.out _ _ M3; have HM3 := Lib.hid M3; clear M3 x3 b3))
      have M4 := Lib.hid (HM3.out.set (72 + j) (.pointer (some ⟨wr.heap.size, 0, none⟩)))
      clear y3 yf3
      go_wp2_with fail
      go_roundw
      case rel =>
        have e := on_put C1 F1 on wr.heap.size j j (Nat.le_refl _)
        refine ⟨j + 1, put on j wr.heap.size, by go_num, by omega, ?_⟩
        have M5 := M4.out
        simp only [onC, onF, put_self, e.1, e.2]
        exact M5
      case measure => simp [intOf]; omega
    · obtain rfl : j = 8 := by omega
      obtain ⟨c0, c1, c2, c3, c4, c5, c6, c7⟩ := HC _ M.hz
      have HM := Lib.hid M
      clear M
      go_upto_region 20 with (go_at_call 38; refine (ar_new wr).mono ?_; rintro e w3 ⟨a, s, rfl, A, b3, ha, hs⟩; have HM3 := Lib.hid (HM.out.reads b3); have HA := Lib.hid A; have HS := Lib.hid (And.intro ha hs); have HW3 := Lib.hid b3.size; clear A b3 ha hs)
      go_upto_region 21 with (go_at_call 39; refine (tl_new w3 a s HA.out).mono ?_; rintro e w4 ⟨h, rfl, U⟩; have HM4 := Lib.hid (Mz.beyond HM.out HM3.out U HS.out.1 HS.out.2 HW3.out); have yf := HM4.out.m.free; obtain ⟨v80, y80⟩ := HM4.out.cell 80 (by decide); clear U)
      refine Mz.wp (HM4.out.set 80 _) ?_
      clear c0 c1 c2 c3 c4 c5 c6 c7 yf v80 y80 HM HM3 HM4 HA HS HW3
      rintro W M
      have HM := Lib.hid M
      clear M
      go_upto_region 22 with (go_at_call 40; refine (fs_new W).mono ?_; rintro e w5 ⟨x5, rfl, b5⟩; have HM5 := Lib.hid (HM.out.reads b5); have yf := HM5.out.m.free; obtain ⟨v81, y81⟩ := HM5.out.cell 81 (by decide); clear b5)
      refine Mz.wp (HM5.out.set 81 _) ?_
      clear yf v81 y81 HM HM5
      rintro W M
      obtain ⟨c0, c1, c2, c3, c4, c5, c6, c7⟩ := HC _ M.hz
      obtain ⟨B, lo, hkb, hJB, hBn, l0, l1, l2, l3, hlab, hK, hPK⟩ := M.lies HC1.out HF1'.out HC0.out HF1.out HF2.out (newK_ok (Nat.le_refl 32)) HN.out HO.out HJ.out
      have CR := create_c W (KS.zero B lo n o) (B := B) rfl hK hPK 0 pr 1 0 0 true (free_rep n HNN.out.1.1) (by show (1 : Int) = Tab.gn (List.replicate n (false, 0)) 0 + 1; rw [gn_rep]; rfl) (by decide) rfl (at_rep n HNN.out.1.1) (by decide) HPR.out.2.1 HPR.out.2.2 rfl rfl (lk_new pr HPR.out.2.2) (by show (0 : Int) ≤ 0; omega) (by show (0 : Int) ≤ _; omega)
      rw [← HPR.out.1] at CR
      have ST := fun tb tc w' (k : KW w' (KS.first B lo n o pr tb tc)) => (calm_first (b := tb) (c := tc) hPK hBn HPR.out.2.1 HPR.out.2.2).settle w' (B := B) rfl k
      have HST := Lib.hid ST
      have HCA := Lib.hid (fun tb tc => calm_first (lo := lo) (o := o) (b := tb) (c := tc) hPK hBn HPR.out.2.1 HPR.out.2.2)
      have HBE := Lib.hid M.m.below
      have HFacts := Lib.hid (And.intro hJB (And.intro hBn (And.intro l0 (And.intro l1 (And.intro l2 l3)))))
      have HLAB := Lib.hid hlab
      have HKB := Lib.hid hkb
      rw [← hkb]
      clear hK hPK M hJB hBn l0 l1 l2 l3 hlab hkb ST
      go_wp2_with (first
        | (go_at_call 41; refine CR.mono ?_; rintro e w6 ⟨tb6, tc6, hsz, rfl, k6, f6⟩; rw [HPR.out.1] at k6 f6; have HK6 : RowKit.Hid (KW w6 (KS.first B lo n o pr tb6 tc6)) := Lib.hid k6; have HF6 : RowKit.Hid (Fr (KS.zero B lo n o) (KS.first B lo n o pr tb6 tc6) W w6) := Lib.hid f6; clear hsz k6 f6 CR)
        | (go_at_call 42; refine (HST.out tb6 tc6 w6 HK6.out).mono ?_; rintro e w7 ⟨rfl, b7⟩; have HB7 := Lib.hid b7; clear b7))
      go_ret2
      have hlt : ∀ k, k < w.heap.size → k < W.heap.size := fun k hk => Nat.lt_of_lt_of_le hk HBE.out.size
      have B6 : Below w.heap.size w w6 := ⟨HF6.out.os.trans HBE.out.os, HF6.out.tape.trans HBE.out.tape, HF6.out.output.trans HBE.out.output, Nat.le_trans HBE.out.size HF6.out.size, fun k hk => (HF6.out.block k (hlt k hk) (HLAB.out k hk)).trans (HBE.out.block k hk)⟩
      exact ⟨B, lo, tb6, tc6, rfl, ⟨PS, b, cap, HFacts.out.1, HPL.out⟩, HFacts.out.2.1, HFacts.out.2.2.1, HFacts.out.2.2.2.1, HFacts.out.2.2.2.2.1, HFacts.out.2.2.2.2.2, HK6.out.reads HB7.out, HCA.out _ _, B6.trans (HB7.out.mono B6.size), fun k hk => (HF6.out.lab k (hlt k hk)).trans (HLAB.out k hk)⟩
end Go.Proofs.YtagmlijhgncklaaGreatDoor.Ker
namespace Go.Proofs.YtagmlijhgncklaaGreatDoor.Ker
open Go.RowKit Go.Proofs.YtagmlijhgncklaaGreatDoor Go.Proofs.YtagmlijhgncklaaGreatDoor.Code

def regs (r : Nat → Int) : List Int := [r 0, r 1, r 2, r 3, r 4, r 5, r 6, r 7]
theorem regs_set (r : Nat → Int) (d : Nat) (hd : d < 8) (x : Int) : (regs r).set d x = regs (put r d x) := by
  match d, hd with
  | 0, _ => rfl | 1, _ => rfl | 2, _ => rfl | 3, _ => rfl | 4, _ => rfl | 5, _ => rfl | 6, _ => rfl | 7, _ => rfl
  | _ + 8, h => exact absurd h (by omega)
/-- What run_step asks for. -/
def StepsTo (i : Ins) (k : Int) (r : Nat → Int) (pc' : Int) (r' : Nat → Int) : Prop := ∀ W, Calls Tryz.prog 79 #[.agg #[.int .i64 i.op, .int .i64 i.d, .int .i64 i.a, .int .i64 i.b, .int .i64 i.imm], .agg #[.int .i64 k, .int .i64 (r 0), .int .i64 (r 1), .int .i64 (r 2), .int .i64 (r 3), .int .i64 (r 4), .int .i64 (r 5), .int .i64 (r 6), .int .i64 (r 7)]] W fun e w' => e = .returned (.tuple #[.agg #[.int .i64 pc', .int .i64 (r' 0), .int .i64 (r' 1), .int .i64 (r' 2), .int .i64 (r' 3), .int .i64 (r' 4), .int .i64 (r' 5), .int .i64 (r' 6), .int .i64 (r' 7)], .bool true]) ∧ Below W.heap.size W w'
theorem step_set (d : Nat) (hd : d < 8) (x : Int) (k : Nat) (hk : k ≤ 1000) (r : Nat → Int) : StepsTo ⟨1, d, 0, 0, x⟩ k r (k + 1) (put r d x) := fun W =>
  step_c W ⟨1, d, 0, 0, x⟩ k (k + 1) (regs r) (regs (put r d x)) 295 _ true false false true _ rfl rfl rfl (enters_of Tryz.func295 (by kernel_rfl) rfl) (fun W => of_1 W) (fun _ => ⟨by show (0 : Int) ≤ d; omega, by show (d : Int) ≤ 7; omega⟩) (fun h => by cases h) (fun h => by cases h) (.inr (.inl ⟨rfl, rfl, rfl⟩)) (by omega) (by omega)
    (fun W s hs => by rw [← regs_set r d hd x]; exact set_c W s _ 0 0 x d 1 (regs r) rfl hd hs)
/-- A thread that made a step. -/
def KS.stepped (S : KS) (p : Nat) (t : Th) (pc' : Int) (r' : Nat → Int) : KS := { S with st := S.st + 1, th := put S.th p (some { t with pc := pc', r := r' }) }
theorem put_some {S : KS} {p : Nat} {t' : Th} {q : Nat} {x : Th} (h : put S.th p (some t') q = some x) : (q = p ∧ x = t') ∨ (q ≠ p ∧ S.th q = some x) := by
  by_cases e : q = p
  · subst e
    rw [put_self] at h
    cases h
    exact .inl ⟨rfl, rfl⟩
  · rw [put_ne _ _ e] at h
    exact .inr ⟨e, h⟩
theorem Calm.stepped {S : KS} (C : Calm S) {p : Nat} {t : Th} (ht : S.th p = some t) (hp : p < 16) (pc' : Int) (r' : Nat → Int) : Calm (S.stepped p t pc' r') where
  P := by
    have q := C.P.setTh (t' := { t with pc := pc', r := r' }) ht rfl (C.P.can p t ht)
    exact { q with }
  pol := fun q x h => by
    rcases put_some (S := S) h with ⟨_, rfl⟩ | ⟨_, h⟩
    · exact C.pol p t ht
    · exact C.pol q x h
  kd := fun q x h => by
    rcases put_some (S := S) h with ⟨_, rfl⟩ | ⟨_, h⟩
    · exact C.kd p t ht
    · exact C.kd q x h
  ba := fun q x hq h he => by
    rcases put_some (S := S) h with ⟨_, rfl⟩ | ⟨_, h⟩
    · exact C.ba p t hp ht he
    · exact C.ba q x hq h he
  mu := C.mu
theorem Calm.ev {S : KS} (C : Calm S) (v : Value) : Calm (S.ev v) where
  P := { C.P with }
  pol := C.pol
  kd := C.kd
  ba := C.ba
  mu := C.mu
/-- Do of a run: the thread whose turn it is makes a step. -/
theorem do_step (w : World) (S : KS) {B : KB} (hB : S.B = B) (h : KW w S) (C : Calm S) (p : Nat) (t : Th) (Rn : Running S p t) (x : Code.Prg) (n : Nat) (hx : S.B.J.PS[n]? = some x) (hpr : t.prog = n) (k : Nat) (hpc : t.pc = k) (i : Code.Ins) (hi : x.L[k]? = some i) (hln : S.lo.ln ≤ 100000)
    (pc' : Int) (r' : Nat → Int) (hop : i.op ≠ 0 ∧ i.op ≠ 7 ∧ i.op ≠ 8) (A : StepsTo i k t.r pc' r') :
    Calls Tryz.prog 13 #[.pointer (some ⟨B.kb, 0, none⟩), .agg #[.int .i64 1, .int .i64 0]] w fun e w' => ∃ v, e = .returned (.int .i64 0) ∧ KW w' ((S.stepped p t pc' r').ev v) ∧ Fr S ((S.stepped p t pc' r').ev v) w w' := by
  subst hB
  refine (do_c w S rfl h 1 0 (fun Sf => Sf = S.stepped p t pc' r') (by rintro Sf rfl; exact ⟨rfl, C.stepped Rn.th Rn.p16 pc' r', hln⟩) (.inl ⟨rfl, fun W hW => (run_step W S rfl hW C.P p t Rn x n hx hpr k hpc i hi pc' r' hop A).mono ?_⟩)).mono ?_
  · rintro e w' ⟨rfl, k1, f1⟩
    exact ⟨_, rfl, rfl, k1, f1⟩
  · rintro e w' ⟨Sf, v, rfl, rfl, k1, f1⟩
    exact ⟨v, rfl, k1, f1⟩
/-- Do of a run: the thread whose turn it is calls. -/
theorem do_call (w : World) (S : KS) {B : KB} (hB : S.B = B) (h : KW w S) (C : Calm S) (p : Nat) (t : Th) (Rn : Running S p t) (x : Code.Prg) (n : Nat) (hx : S.B.J.PS[n]? = some x) (hpr : t.prog = n) (k : Nat) (hpc : t.pc = k) (i : Code.Ins) (hi : x.L[k]? = some i) (hop : i.op = 7) (hk : k ≤ 1000)
    (Q : KS → Prop) (HQ : ∀ Sf, Q Sf → Sf.B = S.B ∧ Calm Sf ∧ Sf.lo.ln ≤ 100000) (A : ∀ W, KW W (S.stepped p t ((k : Int) + 1) t.r) → Calls Tryz.prog 78 #[.pointer (some ⟨B.kb, 0, none⟩), .pointer (some ⟨t.b, 0, none⟩), .int .i64 i.imm] W fun e w' => ∃ Sf, e = .returned (.tuple #[]) ∧ Q Sf ∧ KW w' Sf ∧ Fr (S.stepped p t ((k : Int) + 1) t.r) Sf W w') :
    Calls Tryz.prog 13 #[.pointer (some ⟨B.kb, 0, none⟩), .agg #[.int .i64 1, .int .i64 0]] w fun e w' => ∃ Sf v, e = .returned (.int .i64 0) ∧ Q Sf ∧ KW w' (Sf.ev v) ∧ Fr S (Sf.ev v) w w' := by
  subst hB
  exact do_c w S rfl h 1 0 Q HQ (.inl ⟨rfl, fun W hW => run_call W S rfl hW C.P p t Rn x n hx hpr k hpc i hi Q hop hk A⟩)
theorem Calm.noted {S : KS} (C : Calm S) {p : Nat} {t : Th} (ht : S.th p = some t) (hp : p < 16) (k a : Nat) (v : Value) : Calm (S.noted p t k a v) where
  P := by
    have q := (C.stepped ht hp ((k : Int) + 1) t.r).P
    exact { q with }
  pol := (C.stepped ht hp ((k : Int) + 1) t.r).pol
  kd := (C.stepped ht hp ((k : Int) + 1) t.r).kd
  ba := (C.stepped ht hp ((k : Int) + 1) t.r).ba
  mu := C.mu
theorem do_note (w : World) (S : KS) {B : KB} (hB : S.B = B) (h : KW w S) (C : Calm S) (p : Nat) (t : Th) (Rn : Running S p t) (x : Code.Prg) (n : Nat) (hx : S.B.J.PS[n]? = some x) (hpr : t.prog = n) (k : Nat) (hpc : t.pc = k) (i : Code.Ins) (hi : x.L[k]? = some i) (hln : S.lo.ln ≤ 100000)
    (a : Nat) (hop : i.op = 8) (hia : i.a = a) (ha8 : a < 8) (hk : k ≤ 1000) (hnn : S.lo.notes.length ≤ 1000) :
    Calls Tryz.prog 13 #[.pointer (some ⟨B.kb, 0, none⟩), .agg #[.int .i64 1, .int .i64 0]] w fun e w' => ∃ u v, e = .returned (.int .i64 0) ∧ KW w' ((S.noted p t k a u).ev v) ∧ Fr S ((S.noted p t k a u).ev v) w w' := by
  subst hB
  refine (do_c w S rfl h 1 0 (fun Sf => ∃ u, Sf = S.noted p t k a u) (by rintro Sf ⟨u, rfl⟩; exact ⟨rfl, C.noted Rn.th Rn.p16 k a u, hln⟩) (.inl ⟨rfl, fun W hW => (run_note W S rfl hW C.P p t Rn x n hx hpr k hpc i hi a hop hia ha8 hk hnn).mono ?_⟩)).mono ?_
  · rintro e w' ⟨u, rfl, k1, f1⟩
    exact ⟨_, rfl, ⟨u, rfl⟩, k1, f1⟩
  · rintro e w' ⟨Sf, v, rfl, ⟨u, rfl⟩, k1, f1⟩
    exact ⟨u, v, rfl, k1, f1⟩
end Go.Proofs.YtagmlijhgncklaaGreatDoor.Ker
namespace Go.Proofs.YtagmlijhgncklaaGreatDoor.Ker
open Go.RowKit Go.Proofs.YtagmlijhgncklaaGreatDoor Go.Proofs.YtagmlijhgncklaaGreatDoor.Code

/-- A tick later: the clocks. -/
def KS.ticked (S : KS) : KS := { S with re := Clk.upF S.re, mo := Clk.upF S.mo }
theorem upF_le {x : Int} (h : 0 ≤ x ∧ x ≤ 1099511627776) : 0 ≤ Clk.upF x ∧ Clk.upF x ≤ 1099511627776 := by unfold Clk.upF; split <;> omega
theorem Calm.ticked {S : KS} (C : Calm S) : Calm S.ticked where
  P := { C.P with re := upF_le C.P.re, mo := upF_le C.P.mo }
  pol := C.pol
  kd := C.kd
  ba := C.ba
  mu := C.mu
end Go.Proofs.YtagmlijhgncklaaGreatDoor.Ker
namespace Go.Proofs.YtagmlijhgncklaaGreatDoor.Ker
open Go.RowKit Go.Proofs.YtagmlijhgncklaaGreatDoor Go.Proofs.YtagmlijhgncklaaGreatDoor.Code

/-- Another thread in the place of one that is as calm. -/
theorem Calm.th {S : KS} (C : Calm S) {p : Nat} {t t' : Th} (ht : S.th p = some t) (hp : p < 16) (hb : t'.b = t.b) (hc : t'.can = t.can) (h1 : t'.pol = t.pol) (h2 : t'.wt = t.wt) (h3 : t'.base = t.base) (h4 : t'.eff = t.eff) (h5 : t'.en = t.en) : Calm ({ S with th := put S.th p (some t') } : KS) where
  P := by
    have q := C.P.setTh (t' := t') ht hb (by rw [hc]; exact C.P.can p t ht)
    exact { q with }
  pol := fun q x h => by
    rcases put_some (S := S) h with ⟨_, rfl⟩ | ⟨_, h⟩
    · rw [h1]; exact C.pol p t ht
    · exact C.pol q x h
  kd := fun q x h => by
    rcases put_some (S := S) h with ⟨_, rfl⟩ | ⟨_, h⟩
    · rw [h2]; exact C.kd p t ht
    · exact C.kd q x h
  ba := fun q x hq h he => by
    rcases put_some (S := S) h with ⟨_, rfl⟩ | ⟨_, h⟩
    · rw [h3, h4]; exact C.ba p t hp ht (by rw [← h5]; exact he)
    · exact C.ba q x hq h he
  mu := C.mu
theorem Calm.ans {S : KS} (C : Calm S) {p : Nat} {t : Th} (ht : S.th p = some t) (hp : p < 16) (v e : Int) (av : Value) : Calm (S.ans p (t.ans v e) av) where
  P := { (C.th (t' := t.ans v e) ht hp rfl rfl rfl rfl rfl rfl rfl).P with }
  pol := (C.th (t' := t.ans v e) ht hp rfl rfl rfl rfl rfl rfl rfl).pol
  kd := (C.th (t' := t.ans v e) ht hp rfl rfl rfl rfl rfl rfl rfl).kd
  ba := (C.th (t' := t.ans v e) ht hp rfl rfl rfl rfl rfl rfl rfl).ba
  mu := C.mu
theorem Calm.made {S : KS} (C : Calm S) {i pr : Nat} {g hd prog pol : Int} {b c : Nat} {jn : Bool} (hi : i < S.B.n) (g0 : 0 ≤ g) (g9 : g ≤ 900) (hpol : pol ≠ 2) (h32 : pr < 32) : Calm (S.made i pr g (Th.new b c hd prog pr pol jn)) where
  P := ((C.P.table (x := true) hi g0 g9).newTh (t := Th.new b c hd prog pr pol jn) hi rfl).turns (by show (List.set _ _ _).length = 16; rw [List.length_set]; exact C.P.L) (RdOk.tailF C.P.R h32 i)
  pol := fun q x h => by
    rcases put_some (S := S) h with ⟨_, rfl⟩ | ⟨_, h⟩
    · exact hpol
    · exact C.pol q x h
  kd := fun q x h => by
    rcases put_some (S := S) h with ⟨_, rfl⟩ | ⟨_, h⟩
    · show (0 : Int) ≠ 2; decide
    · exact C.kd q x h
  ba := fun q x hq h he => by
    rcases put_some (S := S) h with ⟨_, rfl⟩ | ⟨_, h⟩
    · show (0 : Int) ≤ pr ∧ (pr : Int) ≤ 31 ∧ _; exact ⟨by omega, by omega, rfl⟩
    · exact C.ba q x hq h he
  mu := C.mu
/-- A thread p called, and made the thread i. -/
def KS.created (S : KS) (p : Nat) (t : Th) (k i pr : Nat) (g prog pol : Int) (jn : Bool) (b c : Nat) (av : Value) : KS :=
  ((S.stepped p t ((k : Int) + 1) t.r).made i pr g (Th.new b c (i + 16 * g) prog pr pol jn)).ans p (({ t with pc := (k : Int) + 1, r := t.r } : Th).ans (i + 16 * g) 0) av
theorem Calm.created {S : KS} (C : Calm S) {p : Nat} {t : Th} (ht : S.th p = some t) (hp : p < 16) {k i pr : Nat} {g prog pol : Int} {jn : Bool} {b c : Nat} {av : Value} (hip : p ≠ i) (hi : i < S.B.n) (g0 : 0 ≤ g) (g9 : g ≤ 900) (hpol : pol ≠ 2) (h32 : pr < 32) : Calm (S.created p t k i pr g prog pol jn b c av) := by
  have C1 := (C.stepped ht hp ((k : Int) + 1) t.r).made (i := i) (pr := pr) (g := g) (hd := i + 16 * g) (prog := prog) (pol := pol) (b := b) (c := c) (jn := jn) hi g0 g9 hpol h32
  refine C1.ans (t := { t with pc := (k : Int) + 1, r := t.r }) ?_ hp _ _ av
  show put (put S.th p _) i _ p = _
  rw [put_ne _ _ hip, put_self]
theorem do_create (w : World) (S : KS) {B : KB} (hB : S.B = B) (h : KW w S) (C : Calm S) (p : Nat) (t : Th) (Rn : Running S p t) (x : Code.Prg) (n : Nat) (hx : S.B.J.PS[n]? = some x) (hpr : t.prog = n) (k : Nat) (hpc : t.pc = k) (hi : x.L[k]? = some ⟨7, 0, 0, 0, 1⟩) (hk : k ≤ 1000) (hln : S.lo.ln ≤ 100000) (han : S.lo.an ≤ 100000)
    (i pr : Nat) (g prog pol jn : Int) (hr2 : t.r 2 = prog) (hr3 : t.r 3 = pr) (hr4 : t.r 4 = pol) (hr5 : t.r 5 = jn)
    (hg0 : 0 ≤ prog) (hg1 : prog < S.B.J.PS.length) (hg2 : S.B.J.PS.length ≤ 32) (hpl : pol = 0 ∨ pol = 1) (hj : jn = 0 ∨ jn = 1) (hf : Tab.freeF S.T = some i) (hg : g = Tab.gn S.T i + 1) (hg9 : g ≤ 900) (hn : S.th i = none) (hat : Tab.atF (S.T.set i (true, g)) (i + 16 * g) = some i)
    (h1 : 1 ≤ pr) (h32 : pr < 32) (hin : (S.L.getD i Hs.no).isIn = false) (hz : S.R.pr.getD i 0 = 0) (hl : Lk (S.R.tl.getD pr 0)) :
    Calls Tryz.prog 13 #[.pointer (some ⟨B.kb, 0, none⟩), .agg #[.int .i64 1, .int .i64 0]] w fun e w' => ∃ b c av v, e = .returned (.int .i64 0) ∧ KW w' ((S.created p t k i pr g prog pol (decide (jn = 0)) b c av).ev v) ∧ Fr S ((S.created p t k i pr g prog pol (decide (jn = 0)) b c av).ev v) w w' := by
  subst hB
  have hip : p ≠ i := fun e => by have := Rn.th; rw [e, hn] at this; cases this
  have hiT : i < S.B.n := by have := (Tab.free_some hf).1; rwa [C.P.T] at this
  have g0 : 0 ≤ g := by have := (C.P.gen i).1; omega
  have hp2 : pol ≠ 2 := by omega
  have C0 := C.stepped Rn.th Rn.p16 ((k : Int) + 1) t.r
  have ht0 : (S.stepped p t ((k : Int) + 1) t.r).th p = some { t with pc := (k : Int) + 1, r := t.r } := put_self _ _ _
  have hn0 : (S.stepped p t ((k : Int) + 1) t.r).th i = none := by show put S.th p _ i = none; rw [put_ne _ _ (Ne.symm hip)]; exact hn
  refine (do_call w S rfl h C p t Rn x n hx hpr k hpc ⟨7, 0, 0, 0, 1⟩ hi rfl hk (fun Sf => ∃ b c av, Sf = S.created p t k i pr g prog pol (decide (jn = 0)) b c av) ?_ ?_).mono ?_
  · rintro Sf ⟨b, c, av, rfl⟩
    exact ⟨rfl, C.created Rn.th Rn.p16 hip hiT g0 hg9 hp2 h32, hln⟩
  · intro W hW
    refine (call_ret W (S.stepped p t ((k : Int) + 1) t.r) rfl hW C0.P p { t with pc := (k : Int) + 1, r := t.r } Rn.p16 ht0 1 208 (i + 16 * g) false (fun S1 t1 => t1 = { t with pc := (k : Int) + 1, r := t.r } ∧ ∃ b c, S1 = (S.stepped p t ((k : Int) + 1) t.r).made i pr g (Th.new b c (i + 16 * g) prog pr pol (decide (jn = 0)))) (enters_of Tryz.func208 (by kernel_rfl) rfl) rfl (fun W => points_no W 1 (.inl rfl)) (fun h => by cases h) ?_ ?_).mono ?_
    · rintro S1 t1 ⟨rfl, b, c, rfl⟩
      exact ⟨rfl, by show put _ i _ p = _; rw [put_ne _ _ hip]; exact ht0, rfl, han⟩
    · intro W1 hW1
      refine (callCreate_c W1 (S.stepped p t ((k : Int) + 1) t.r) rfl hW1 C0.P p { t with pc := (k : Int) + 1, r := t.r } Rn.p16 ht0 i pr g prog pol jn hr2 hr3 hr4 hr5 hg0 hg1 hg2 hpl hj hf hg hg9 hn0 hat h1 h32 hin hz hl (by show 0 ≤ S.st + 1; have := Rn.s0; omega) (by show S.st + 1 ≤ 800000000; have := Rn.s1; omega)).mono ?_
      rintro e w' ⟨b, c, rfl, k1, f1⟩
      exact ⟨_, _, rfl, ⟨rfl, b, c, rfl⟩, k1, f1⟩
    · rintro e w' ⟨S1, t1, av, rfl, ⟨rfl, b, c, rfl⟩, k1, f1⟩
      exact ⟨_, rfl, ⟨b, c, av, rfl⟩, k1, f1⟩
  · rintro e w' ⟨Sf, v, rfl, ⟨b, c, av, rfl⟩, k1, f1⟩
    exact ⟨b, c, av, v, rfl, k1, f1⟩
end Go.Proofs.YtagmlijhgncklaaGreatDoor.Ker
namespace Go.Proofs.YtagmlijhgncklaaGreatDoor.Ker
open Go.RowKit Go.Proofs.YtagmlijhgncklaaGreatDoor Go.Proofs.YtagmlijhgncklaaGreatDoor.Code

/-- A thread that has ended with v, and stays till it is joined. -/
def KS.over (S : KS) (p : Nat) (t : Th) (v : Int) : KS := (S.setTh p (t.unw v)).unw p (t.unw v)
theorem Calm.over {S : KS} (C : Calm S) {p : Nat} {t : Th} (ht : S.th p = some t) (hp : p < 16) (v : Int) : Calm (S.over p t v) where
  P := by
    have q1 := C.P.setTh (t' := t.unw v) ht rfl (C.P.can p t ht)
    have h1 : (S.setTh p (t.unw v)).th p = some (t.unw v) := put_self _ _ _
    have q2 := q1.setTh (t' := { t.unw v with en := true }) h1 rfl (C.P.can p t ht)
    obtain ⟨_, n1, n2⟩ := Key.next_dead C.P.live C.P.kx p
    obtain ⟨c1, c2⟩ := Key.clear_dead n2 n1 p
    exact { q2 with
      L := by show (S.L.set p Hs.no).length = 16; rw [List.length_set]; exact C.P.L
      R := RdOk.remF C.P.R p
      kx := c1
      live := c2 }
  pol := fun q x h => by
    rcases put_some (S := S.setTh p (t.unw v)) h with ⟨_, rfl⟩ | ⟨_, h⟩
    · exact C.pol p t ht
    · rcases put_some (S := S) h with ⟨_, rfl⟩ | ⟨_, h⟩
      · exact C.pol p t ht
      · exact C.pol q x h
  kd := fun q x h => by
    rcases put_some (S := S.setTh p (t.unw v)) h with ⟨_, rfl⟩ | ⟨_, h⟩
    · exact C.kd p t ht
    · rcases put_some (S := S) h with ⟨_, rfl⟩ | ⟨_, h⟩
      · exact C.kd p t ht
      · exact C.kd q x h
  ba := fun q x hq h he => by
    rcases put_some (S := S.setTh p (t.unw v)) h with ⟨_, rfl⟩ | ⟨e, h⟩
    · cases he
    · rcases put_some (S := S) h with ⟨e', _⟩ | ⟨_, h⟩
      · exact absurd e' e
      · exact C.ba q x hq h he
  mu := C.mu
theorem do_exit (w : World) (S : KS) {B : KB} (hB : S.B = B) (h : KW w S) (C : Calm S) (p p0 : Nat) (t : Th) (Rn : Running S p t) (x : Code.Prg) (n : Nat) (hx : S.B.J.PS[n]? = some x) (hpr : t.prog = n) (k : Nat) (hpc : t.pc = k) (hi : x.L[k]? = some ⟨7, 0, 0, 0, 2⟩) (hk : k ≤ 1000) (hln : S.lo.ln ≤ 100000) (han : S.lo.an ≤ 100000)
    (hjn : t.jn = true) (hjr : t.jr < 0) (hun : t.can.un = false) (I : InSeq (S.stepped p t ((k : Int) + 1) t.r) p p0) :
    Calls Tryz.prog 13 #[.pointer (some ⟨B.kb, 0, none⟩), .agg #[.int .i64 1, .int .i64 0]] w fun e w' => ∃ v, e = .returned (.int .i64 0) ∧ KW w' (((S.stepped p t ((k : Int) + 1) t.r).over p { t with pc := (k : Int) + 1, r := t.r } (t.r 2)).ev v) ∧ Fr S (((S.stepped p t ((k : Int) + 1) t.r).over p { t with pc := (k : Int) + 1, r := t.r } (t.r 2)).ev v) w w' := by
  subst hB
  have C0 := C.stepped Rn.th Rn.p16 ((k : Int) + 1) t.r
  have ht0 : (S.stepped p t ((k : Int) + 1) t.r).th p = some { t with pc := (k : Int) + 1, r := t.r } := put_self _ _ _
  obtain ⟨Sf, hSf⟩ : ∃ Sf, Sf = (S.stepped p t ((k : Int) + 1) t.r).over p { t with pc := (k : Int) + 1, r := t.r } (t.r 2) := ⟨_, rfl⟩
  refine (do_call w S rfl h C p t Rn x n hx hpr k hpc ⟨7, 0, 0, 0, 2⟩ hi rfl hk (fun S1 => S1 = Sf) ?_ ?_).mono ?_
  · rintro S1 rfl
    rw [hSf]
    exact ⟨rfl, C0.over ht0 Rn.p16 _, hln⟩
  · intro W hW
    refine (call_left W (S.stepped p t ((k : Int) + 1) t.r) rfl hW C0.P p { t with pc := (k : Int) + 1, r := t.r } Rn.p16 ht0 2 209 false (fun S1 t1 => S1 = Sf ∧ t1 = { ({ t with pc := (k : Int) + 1, r := t.r } : Th).unw (t.r 2) with en := true }) (enters_of Tryz.func209 (by kernel_rfl) rfl) rfl (fun W => points_no W 2 (.inr (.inl rfl))) (fun h => by cases h) ?_ ?_).mono ?_
    · rintro S1 t1 ⟨rfl, rfl⟩
      rw [hSf]
      exact ⟨rfl, put_self _ _ _, rfl, han⟩
    · intro W1 hW1
      refine (callExit_c W1 (S.stepped p t ((k : Int) + 1) t.r) rfl hW1 C0.P p p0 { t with pc := (k : Int) + 1, r := t.r } Rn.p16 ht0 (C.pol p t Rn.th) C.mu hjn hjr hun I).mono ?_
      rintro e w' ⟨rfl, k1, f1⟩
      rw [hSf]
      exact ⟨_, _, rfl, ⟨rfl, rfl⟩, k1, f1⟩
    · rintro e w' ⟨S1, t1, rfl, ⟨rfl, rfl⟩, k1, f1⟩
      exact ⟨_, rfl, rfl, k1, f1⟩
  · rintro e w' ⟨S1, v, rfl, rfl, k1, f1⟩
    rw [hSf] at k1 f1
    exact ⟨v, rfl, k1, f1⟩
end Go.Proofs.YtagmlijhgncklaaGreatDoor.Ker
namespace Go.Proofs.YtagmlijhgncklaaGreatDoor.Ker
open Go.RowKit Go.Proofs.YtagmlijhgncklaaGreatDoor Go.Proofs.YtagmlijhgncklaaGreatDoor.Code

theorem put_none {S : KS} {p q : Nat} {x : Th} (h : put S.th p none q = some x) : q ≠ p ∧ S.th q = some x := by
  by_cases e : q = p
  · subst e
    rw [put_self] at h
    cases h
  · rw [put_ne _ _ e] at h
    exact ⟨e, h⟩
theorem Calm.gone {S : KS} (C : Calm S) {q : Nat} (hq : q < S.B.n) : Calm (S.gone q) where
  P := by
    have P1 := C.P.table (i := q) (x := false) (g := Tab.gn S.T q) hq (C.P.gen q).1 (C.P.gen q).2
    exact { P1 with
      tp := fun p hp => by
        show put S.tp q none p = (put S.th q none p).map _
        by_cases e : p = q
        · subst e; rw [put_self, put_self]; rfl
        · rw [put_ne _ _ e, put_ne _ _ e]; exact C.P.tp p hp
      can := fun p x hx => C.P.can p x (put_none (S := S) hx).2
      thn := fun p x hx => C.P.thn p x (put_none (S := S) hx).2 }
  pol := fun p x h => C.pol p x (put_none (S := S) h).2
  kd := fun p x h => C.kd p x (put_none (S := S) h).2
  ba := fun p x hp h he => C.ba p x hp (put_none (S := S) h).2 he
  mu := C.mu
/-- A thread p joined q, which had ended with v. -/
def KS.joined (S : KS) (p : Nat) (t : Th) (k q : Nat) (v : Int) (av : Value) : KS := ((S.stepped p t ((k : Int) + 1) t.r).gone q).ans p (({ t with pc := (k : Int) + 1, r := t.r } : Th).ans v 0) av
theorem do_join (w : World) (S : KS) {B : KB} (hB : S.B = B) (h : KW w S) (C : Calm S) (p q : Nat) (t y : Th) (Rn : Running S p t) (x : Code.Prg) (n : Nat) (hx : S.B.J.PS[n]? = some x) (hpr : t.prog = n) (k : Nat) (hpc : t.pc = k) (hi : x.L[k]? = some ⟨7, 0, 0, 0, 3⟩) (hk : k ≤ 1000) (hln : S.lo.ln ≤ 100000) (han : S.lo.an ≤ 100000)
    (hq : q < 16) (hy : S.th q = some y) (hpq : q ≠ p) (hf : Tab.atF S.T (t.r 2) = some q) (hyd : y.hd = t.r 2) (hjn : y.jn = true) (hjr : y.jr < 0) (hen : y.en = true) (hact : Can.actsF t.can true = false) :
    Calls Tryz.prog 13 #[.pointer (some ⟨B.kb, 0, none⟩), .agg #[.int .i64 1, .int .i64 0]] w fun e w' => ∃ av v, e = .returned (.int .i64 0) ∧ KW w' ((S.joined p t k q y.val av).ev v) ∧ Fr S ((S.joined p t k q y.val av).ev v) w w' := by
  subst hB
  have C0 := C.stepped Rn.th Rn.p16 ((k : Int) + 1) t.r
  have ht0 : (S.stepped p t ((k : Int) + 1) t.r).th p = some { t with pc := (k : Int) + 1, r := t.r } := put_self _ _ _
  have hy0 : (S.stepped p t ((k : Int) + 1) t.r).th q = some y := by show put S.th p _ q = _; rw [put_ne _ _ hpq]; exact hy
  have hqn : q < S.B.n := C.P.thn q y hy
  have C1 : Calm ((S.stepped p t ((k : Int) + 1) t.r).gone q) := C0.gone hqn
  have ht1 : ((S.stepped p t ((k : Int) + 1) t.r).gone q).th p = some { t with pc := (k : Int) + 1, r := t.r } := by
    show put _ q none p = _
    rw [put_ne _ _ (Ne.symm hpq)]
    exact ht0
  refine (do_call w S rfl h C p t Rn x n hx hpr k hpc ⟨7, 0, 0, 0, 3⟩ hi rfl hk (fun Sf => ∃ av, Sf = S.joined p t k q y.val av) ?_ ?_).mono ?_
  · rintro Sf ⟨av, rfl⟩
    exact ⟨rfl, C1.ans ht1 Rn.p16 _ _ av, hln⟩
  · intro W hW
    refine (call_ret W (S.stepped p t ((k : Int) + 1) t.r) rfl hW C0.P p { t with pc := (k : Int) + 1, r := t.r } Rn.p16 ht0 3 210 y.val true (fun S1 t1 => t1 = { t with pc := (k : Int) + 1, r := t.r } ∧ S1 = (S.stepped p t ((k : Int) + 1) t.r).gone q) (enters_of Tryz.func210 (by kernel_rfl) rfl) rfl (fun W => points_yes W 3 (.inl rfl)) (fun _ => hact) ?_ ?_).mono ?_
    · rintro S1 t1 ⟨rfl, rfl⟩
      exact ⟨rfl, ht1, rfl, han⟩
    · intro W1 hW1
      refine (callJoin_c W1 (S.stepped p t ((k : Int) + 1) t.r) rfl hW1 C0.P p q { t with pc := (k : Int) + 1, r := t.r } y Rn.p16 ht0 hq hy0 hpq hf hyd hjn hjr hen).mono ?_
      rintro e w' ⟨rfl, k1, f1⟩
      exact ⟨_, _, rfl, ⟨rfl, rfl⟩, k1, f1⟩
    · rintro e w' ⟨S1, t1, av, rfl, ⟨rfl, rfl⟩, k1, f1⟩
      exact ⟨_, rfl, ⟨av, rfl⟩, k1, f1⟩
  · rintro e w' ⟨Sf, v, rfl, ⟨av, rfl⟩, k1, f1⟩
    exact ⟨av, v, rfl, k1, f1⟩
end Go.Proofs.YtagmlijhgncklaaGreatDoor.Ker
namespace Go.Proofs.YtagmlijhgncklaaGreatDoor.Ker
open Go.RowKit Go.Proofs.YtagmlijhgncklaaGreatDoor Go.Proofs.YtagmlijhgncklaaGreatDoor.Code

/-- One more step of the turns' own count. -/
def KS.one (S : KS) : KS := { S with st := S.st + 1 }
theorem Calm.one {S : KS} (C : Calm S) : Calm S.one where
  P := { C.P with }
  pol := C.pol
  kd := C.kd
  ba := C.ba
  mu := C.mu
theorem do_past (w : World) (S : KS) {B : KB} (hB : S.B = B) (h : KW w S) (C : Calm S) (p p0 : Nat) (t : Th) (Rn : Running S p t) (x : Code.Prg) (n : Nat) (hx : S.B.J.PS[n]? = some x) (hpr : t.prog = n) (k : Nat) (hpc : t.pc = k) (hi : k = x.L.length) (hln : S.lo.ln ≤ 100000)
    (hjn : t.jn = true) (hjr : t.jr < 0) (hun : t.can.un = false) (I : InSeq S.one p p0) :
    Calls Tryz.prog 13 #[.pointer (some ⟨B.kb, 0, none⟩), .agg #[.int .i64 1, .int .i64 0]] w fun e w' => ∃ v, e = .returned (.int .i64 0) ∧ KW w' ((S.one.over p t (t.r 0)).ev v) ∧ Fr S ((S.one.over p t (t.r 0)).ev v) w w' := by
  subst hB
  have ht : S.one.th p = some t := Rn.th
  obtain ⟨Sf, hSf⟩ : ∃ Sf, Sf = S.one.over p t (t.r 0) := ⟨_, rfl⟩
  refine (do_c w S rfl h 1 0 (fun S1 => S1 = Sf) ?_ (.inl ⟨rfl, fun W hW => run_past W S rfl hW C.P p t Rn x n hx hpr k hpc hi (fun S1 => S1 = Sf) fun W1 hW1 => (over_stays W1 S.one rfl hW1 C.one.P p p0 t Rn.p16 ht (C.pol p t Rn.th) C.mu hjn hjr hun I).mono ?_⟩)).mono ?_
  · rintro S1 rfl
    rw [hSf]
    exact ⟨rfl, C.one.over ht Rn.p16 _, hln⟩
  · rintro e w' ⟨rfl, k1, f1⟩
    rw [hSf]
    exact ⟨_, rfl, rfl, k1, f1⟩
  · rintro e w' ⟨S1, v, rfl, rfl, k1, f1⟩
    rw [hSf] at k1 f1
    exact ⟨v, rfl, k1, f1⟩
end Go.Proofs.YtagmlijhgncklaaGreatDoor.Ker
namespace Go.Proofs.YtagmlijhgncklaaGreatDoor.Ker
open Go.RowKit Go.Proofs.YtagmlijhgncklaaGreatDoor Go.Proofs.YtagmlijhgncklaaGreatDoor.Code

/-- What a kernel's state is made of, but for blocks. -/
structure Pl where
  T : List (Bool × Int)
  L : List Hs
  R : Rd
  st : Int
  th : Nat → Option Th
  ln : Nat
  an : Nat
  notes : List (Int × Int)
structure Now (S : KS) (B : KB) (x : Pl) : Prop where
  B : S.B = B
  T : S.T = x.T
  L : S.L = x.L
  R : S.R = x.R
  st : S.st = x.st
  th : S.th = x.th
  ln : S.lo.ln = x.ln
  an : S.lo.an = x.an
  notes : S.lo.notes = x.notes
  calm : Calm S
  q0 : Quiet S.W0
  q1 : Quiet S.W1
/-- An event leads from what A says to what A' says. -/
def DoesTo (B : KB) (ev : Value) (A A' : KS → Prop) : Prop := ∀ (W : World) (S : KS), A S → KW W S → Calls Tryz.prog 13 #[.pointer (some ⟨B.kb, 0, none⟩), ev] W fun e w' => ∃ S', e = .returned (.int .i64 0) ∧ A' S' ∧ KW w' S' ∧ Fr S S' W w'
def evRun : Value := .agg #[.int .i64 1, .int .i64 0]
/-- Whose turn it is, as plain data. -/
structure Turn (B : KB) (x : Pl) (p : Nat) (t : Th) : Prop where
  p16 : p < 16
  pn : p < B.n
  th : x.th p = some t
  first : x.R.firstF = p
  b1 : 1 ≤ Lib.bitLen x.R.sm
  b2 : Lib.bitLen x.R.sm ≤ 32
  sm : x.R.sm ≠ 0
  s0 : 0 ≤ x.st
  s1 : x.st ≤ 500000000
  ak : t.can.ak = false
theorem Turn.run {S : KS} {B : KB} {x : Pl} {p : Nat} {t : Th} (T : Turn B x p t) (N : Now S B x) : Running S p t :=
  ⟨T.p16, by rw [N.B]; exact T.pn, by rw [N.th]; exact T.th, by rw [N.R]; exact T.first, by rw [N.R]; exact T.b1, by rw [N.R]; exact T.b2, by rw [N.R]; exact T.sm, by rw [N.st]; exact T.s0, by rw [N.st]; exact T.s1, T.ak⟩
/-- A step. -/
def Pl.stepped (x : Pl) (p : Nat) (t : Th) (pc' : Int) (r' : Nat → Int) : Pl := { x with st := x.st + 1, th := put x.th p (some { t with pc := pc', r := r' }), ln := x.ln + 1 }
theorem now_step {B : KB} {x : Pl} {p : Nat} {t : Th} (T : Turn B x p t) (y : Code.Prg) (n : Nat) (hx : B.J.PS[n]? = some y) (hpr : t.prog = n) (k : Nat) (hpc : t.pc = k) (i : Code.Ins) (hi : y.L[k]? = some i) (hln : x.ln ≤ 100000)
    (pc' : Int) (r' : Nat → Int) (hop : i.op ≠ 0 ∧ i.op ≠ 7 ∧ i.op ≠ 8) (A : StepsTo i k t.r pc' r') : DoesTo B evRun (fun S => Now S B x) (fun S => Now S B (x.stepped p t pc' r')) := by
  intro W S N hW
  refine (do_step W S N.B hW N.calm p t (T.run N) y n (by rw [N.B]; exact hx) hpr k hpc i hi (by rw [N.ln]; exact hln) pc' r' hop A).mono ?_
  rintro e w' ⟨v, rfl, k1, f1⟩
  have ht : S.th p = some t := (T.run N).th
  refine ⟨(S.stepped p t pc' r').ev v, rfl, ⟨N.B, N.T, N.L, N.R, ?_, ?_, ?_, N.an, N.notes, (N.calm.stepped ht T.p16 pc' r').ev v, N.q0, N.q1⟩, k1, f1⟩
  · show S.st + 1 = x.st + 1; rw [N.st]
  · show put S.th p _ = put x.th p _; rw [N.th]
  · show S.lo.ln + 1 = x.ln + 1; rw [N.ln]
/-- A note. -/
def Pl.noted (x : Pl) (p : Nat) (t : Th) (k a : Nat) : Pl := { x with st := x.st + 1, th := put x.th p (some { t with pc := (k : Int) + 1 }), ln := x.ln + 1, notes := x.notes ++ [((p : Int), t.r a)] }
theorem now_note {B : KB} {x : Pl} {p : Nat} {t : Th} (T : Turn B x p t) (y : Code.Prg) (n : Nat) (hx : B.J.PS[n]? = some y) (hpr : t.prog = n) (k : Nat) (hpc : t.pc = k) (i : Code.Ins) (hi : y.L[k]? = some i) (hln : x.ln ≤ 100000)
    (a : Nat) (hop : i.op = 8) (hia : i.a = a) (ha8 : a < 8) (hk : k ≤ 1000) (hnn : x.notes.length ≤ 1000) : DoesTo B evRun (fun S => Now S B x) (fun S => Now S B (x.noted p t k a)) := by
  intro W S N hW
  refine (do_note W S N.B hW N.calm p t (T.run N) y n (by rw [N.B]; exact hx) hpr k hpc i hi (by rw [N.ln]; exact hln) a hop hia ha8 hk (by rw [N.notes]; exact hnn)).mono ?_
  rintro e w' ⟨u, v, rfl, k1, f1⟩
  have ht : S.th p = some t := (T.run N).th
  refine ⟨(S.noted p t k a u).ev v, rfl, ⟨N.B, N.T, N.L, N.R, ?_, ?_, ?_, N.an, ?_, (N.calm.noted ht T.p16 k a u).ev v, N.q0, N.q1⟩, k1, f1⟩
  · show S.st + 1 = x.st + 1; rw [N.st]
  · show put S.th p _ = put x.th p _; rw [N.th]
  · show S.lo.ln + 1 = x.ln + 1; rw [N.ln]
  · show S.lo.notes ++ _ = x.notes ++ _; rw [N.notes]
/-- A thread is made; where its blocks lie is not said. -/
def Pl.created (x : Pl) (B : KB) (p : Nat) (t : Th) (k i pr : Nat) (g prog pol : Int) (jn : Bool) (b c : Nat) : Pl :=
  { x with T := x.T.set i (true, g), L := x.L.set i ⟨true, decide (pol = 1), pr, B.J.q⟩, R := x.R.tailF pr i, st := x.st + 5, ln := x.ln + 1, an := x.an + 1, th := put (put (put x.th p (some { t with pc := (k : Int) + 1 })) i (some (Th.new b c (i + 16 * g) prog pr pol jn))) p (some (({ t with pc := (k : Int) + 1 } : Th).ans (i + 16 * g) 0)) }
theorem now_create {B : KB} {x : Pl} {p : Nat} {t : Th} (T : Turn B x p t) (y : Code.Prg) (n : Nat) (hx : B.J.PS[n]? = some y) (hpr : t.prog = n) (k : Nat) (hpc : t.pc = k) (hi : y.L[k]? = some ⟨7, 0, 0, 0, 1⟩) (hk : k ≤ 1000) (hln : x.ln ≤ 100000) (han : x.an ≤ 100000)
    (i pr : Nat) (g prog pol jn : Int) (hr2 : t.r 2 = prog) (hr3 : t.r 3 = pr) (hr4 : t.r 4 = pol) (hr5 : t.r 5 = jn)
    (hg0 : 0 ≤ prog) (hg1 : prog < B.J.PS.length) (hg2 : B.J.PS.length ≤ 32) (hpl : pol = 0 ∨ pol = 1) (hj : jn = 0 ∨ jn = 1) (hf : Tab.freeF x.T = some i) (hg : g = Tab.gn x.T i + 1) (hg9 : g ≤ 900) (hn : x.th i = none) (hat : Tab.atF (x.T.set i (true, g)) (i + 16 * g) = some i)
    (h1 : 1 ≤ pr) (h32 : pr < 32) (hin : (x.L.getD i Hs.no).isIn = false) (hz : x.R.pr.getD i 0 = 0) (hl : Lk (x.R.tl.getD pr 0)) : DoesTo B evRun (fun S => Now S B x) (fun S => ∃ b c, Now S B (x.created B p t k i pr g prog pol (decide (jn = 0)) b c)) := by
  intro W S N hW
  have hT := N.T
  refine (do_create W S N.B hW N.calm p t (T.run N) y n (by rw [N.B]; exact hx) hpr k hpc hi hk (by rw [N.ln]; exact hln) (by rw [N.an]; exact han) i pr g prog pol jn hr2 hr3 hr4 hr5 hg0 (by rw [N.B]; exact hg1) (by rw [N.B]; exact hg2) hpl hj (by rw [hT]; exact hf) (by rw [hT]; exact hg) hg9 (by rw [N.th]; exact hn) (by rw [hT]; exact hat) h1 h32 (by rw [N.L]; exact hin) (by rw [N.R]; exact hz) (by rw [N.R]; exact hl)).mono ?_
  rintro e w' ⟨b, c, av, v, rfl, k1, f1⟩
  have ht : S.th p = some t := (T.run N).th
  have hip : p ≠ i := fun e => by have q := T.th; rw [e, hn] at q; cases q
  have hiB : i < S.B.n := by have q := (Tab.free_some hf).1; rw [← hT, N.calm.P.T] at q; exact q
  have g0 : 0 ≤ g := by have := (N.calm.P.gen i).1; rw [hT] at this; omega
  have hqB : B.J.q = S.B.J.q := by rw [N.B]
  refine ⟨(S.created p t k i pr g prog pol (decide (jn = 0)) b c av).ev v, rfl, ⟨b, c, ⟨N.B, ?_, ?_, ?_, ?_, ?_, ?_, ?_, N.notes, (N.calm.created (k := k) (g := g) (prog := prog) (jn := decide (jn = 0)) (b := b) (c := c) (av := av) ht T.p16 hip hiB g0 hg9 (by omega) h32).ev v, N.q0, N.q1⟩⟩, k1, f1⟩
  · show S.T.set i _ = x.T.set i _; rw [N.T]
  · show S.L.set i _ = x.L.set i _; rw [N.L, hqB]; rfl
  · show S.R.tailF pr i = x.R.tailF pr i; rw [N.R]
  · show S.st + 1 + 4 = x.st + 5; rw [N.st]; omega
  · show put (put (put S.th p _) i _) p _ = put (put (put x.th p _) i _) p _; rw [N.th]
  · show S.lo.ln + 1 = x.ln + 1; rw [N.ln]
  · show S.lo.an + 1 = x.an + 1; rw [N.an]
end Go.Proofs.YtagmlijhgncklaaGreatDoor.Ker
namespace Go.Proofs.YtagmlijhgncklaaGreatDoor.Ker
open Go.RowKit Go.Proofs.YtagmlijhgncklaaGreatDoor Go.Proofs.YtagmlijhgncklaaGreatDoor.Code

/-- A thread has ended with v. -/
def Pl.over (x : Pl) (p : Nat) (t : Th) (v : Int) : Pl := { x with L := x.L.set p Hs.no, R := x.R.remF p, st := x.st + 3, th := put (put (put x.th p (some t)) p (some (t.unw v))) p (some { t.unw v with en := true }), ln := x.ln + 1 }
/-- It may leave the sequences. -/
structure Leaves (x : Pl) (p p0 : Nat) : Prop where
  isIn : (x.L.getD p Hs.no).isIn = true
  q1 : 1 ≤ p0
  q32 : p0 < 32
  pr : x.R.pr.getD p 0 = p0
  pv : Lk (x.R.pv.getD p 0)
  nx : Lk (x.R.nx.getD p 0)
theorem now_exit {B : KB} {x : Pl} {p p0 : Nat} {t : Th} (T : Turn B x p t) (y : Code.Prg) (n : Nat) (hx : B.J.PS[n]? = some y) (hpr : t.prog = n) (k : Nat) (hpc : t.pc = k) (hi : y.L[k]? = some ⟨7, 0, 0, 0, 2⟩) (hk : k ≤ 1000) (hln : x.ln ≤ 100000) (han : x.an ≤ 100000)
    (hjn : t.jn = true) (hjr : t.jr < 0) (hun : t.can.un = false) (I : Leaves x p p0) : DoesTo B evRun (fun S => Now S B x) (fun S => Now S B (x.over p { t with pc := (k : Int) + 1 } (t.r 2))) := by
  intro W S N hW
  have ht : S.th p = some t := (T.run N).th
  refine (do_exit W S N.B hW N.calm p p0 t (T.run N) y n (by rw [N.B]; exact hx) hpr k hpc hi hk (by rw [N.ln]; exact hln) (by rw [N.an]; exact han) hjn hjr hun
    ⟨by show (S.L.getD p Hs.no).isIn = true; rw [N.L]; exact I.isIn, I.q1, I.q32, by show S.R.pr.getD p 0 = p0; rw [N.R]; exact I.pr, by show Lk (S.R.pv.getD p 0); rw [N.R]; exact I.pv, by show Lk (S.R.nx.getD p 0); rw [N.R]; exact I.nx, by show 0 ≤ S.st + 1; rw [N.st]; have := T.s0; omega, by show S.st + 1 ≤ 600000000; rw [N.st]; have := T.s1; omega⟩).mono ?_
  rintro e w' ⟨v, rfl, k1, f1⟩
  have C0 := N.calm.stepped ht T.p16 ((k : Int) + 1) t.r
  have ht0 : (S.stepped p t ((k : Int) + 1) t.r).th p = some { t with pc := (k : Int) + 1, r := t.r } := put_self _ _ _
  refine ⟨((S.stepped p t ((k : Int) + 1) t.r).over p { t with pc := (k : Int) + 1, r := t.r } (t.r 2)).ev v, rfl, ⟨N.B, N.T, ?_, ?_, ?_, ?_, ?_, N.an, N.notes, (C0.over ht0 T.p16 (t.r 2)).ev v, N.q0, N.q1⟩, k1, f1⟩
  · show S.L.set p _ = x.L.set p _; rw [N.L]
  · show S.R.remF p = x.R.remF p; rw [N.R]
  · show S.st + 1 + 2 = x.st + 3; rw [N.st]; omega
  · show put (put (put S.th p _) p _) p _ = put (put (put x.th p _) p _) p _; rw [N.th]
  · show S.lo.ln + 1 = x.ln + 1; rw [N.ln]
/-- A thread has joined q, which had ended with v. -/
def Pl.joined (x : Pl) (p : Nat) (t : Th) (k q : Nat) (v : Int) : Pl := { x with T := x.T.set q (false, Tab.gn x.T q), st := x.st + 1, th := put (put (put x.th p (some { t with pc := (k : Int) + 1 })) q none) p (some (({ t with pc := (k : Int) + 1 } : Th).ans v 0)), ln := x.ln + 1, an := x.an + 1 }
theorem now_join {B : KB} {x : Pl} {p q : Nat} {t z : Th} (T : Turn B x p t) (y : Code.Prg) (n : Nat) (hx : B.J.PS[n]? = some y) (hpr : t.prog = n) (k : Nat) (hpc : t.pc = k) (hi : y.L[k]? = some ⟨7, 0, 0, 0, 3⟩) (hk : k ≤ 1000) (hln : x.ln ≤ 100000) (han : x.an ≤ 100000)
    (hq : q < 16) (hz : x.th q = some z) (hpq : q ≠ p) (hf : Tab.atF x.T (t.r 2) = some q) (hyd : z.hd = t.r 2) (hjn : z.jn = true) (hjr : z.jr < 0) (hen : z.en = true) (hact : Can.actsF t.can true = false) : DoesTo B evRun (fun S => Now S B x) (fun S => Now S B (x.joined p t k q z.val)) := by
  intro W S N hW
  have ht : S.th p = some t := (T.run N).th
  refine (do_join W S N.B hW N.calm p q t z (T.run N) y n (by rw [N.B]; exact hx) hpr k hpc hi hk (by rw [N.ln]; exact hln) (by rw [N.an]; exact han) hq (by rw [N.th]; exact hz) hpq (by rw [N.T]; exact hf) hyd hjn hjr hen hact).mono ?_
  rintro e w' ⟨av, v, rfl, k1, f1⟩
  have C0 := N.calm.stepped ht T.p16 ((k : Int) + 1) t.r
  have hqn : q < S.B.n := N.calm.P.thn q z (by rw [N.th]; exact hz)
  have ht1 : ((S.stepped p t ((k : Int) + 1) t.r).gone q).th p = some { t with pc := (k : Int) + 1, r := t.r } := by
    show put (put S.th p _) q none p = _
    rw [put_ne _ _ (Ne.symm hpq), put_self]
  refine ⟨(S.joined p t k q z.val av).ev v, rfl, ⟨N.B, ?_, N.L, N.R, ?_, ?_, ?_, ?_, N.notes, ((C0.gone hqn).ans ht1 T.p16 z.val 0 av).ev v, N.q0, N.q1⟩, k1, f1⟩
  · show S.T.set q (false, Tab.gn S.T q) = x.T.set q _; rw [N.T]
  · show S.st + 1 = x.st + 1; rw [N.st]
  · show put (put (put S.th p _) q _) p _ = put (put (put x.th p _) q _) p _; rw [N.th]
  · show S.lo.ln + 1 = x.ln + 1; rw [N.ln]
  · show S.lo.an + 1 = x.an + 1; rw [N.an]
end Go.Proofs.YtagmlijhgncklaaGreatDoor.Ker
namespace Go.Proofs.YtagmlijhgncklaaGreatDoor.Ker
open Go.RowKit Go.Proofs.YtagmlijhgncklaaGreatDoor Go.Proofs.YtagmlijhgncklaaGreatDoor.Code

def Pl.ticked (x : Pl) (L : List Hs) (R : Rd) (d : Int) : Pl := { x with L := L, R := R, st := x.st + 1 + d, ln := x.ln + 1 }
/-- The kernel that is made stands so. -/
def Pl.first (B : KB) (n pr b c : Nat) : Pl := ⟨(List.replicate n (false, 0)).set 0 (true, 1), (List.replicate 16 Hs.no).set 0 ⟨true, false, pr, B.J.q⟩, Rd.new.tailF pr 0, 4, put (fun _ => none) 0 (some (Th.new b c ((0 : Nat) + 16 * 1) 0 pr 0 true)), 0, 0, []⟩
theorem now_first {B : KB} {lo : Lo} {n o pr b c : Nat} (C : Calm (KS.first B lo n o pr b c)) (h1 : lo.ln = 0) (h2 : lo.notes = []) (h3 : lo.an = 0) : Now (KS.first B lo n o pr b c) B (Pl.first B n pr b c) :=
  ⟨rfl, rfl, rfl, rfl, rfl, rfl, h1, h3, h2, C, Wh.new_quiet, Wh.new_quiet⟩
end Go.Proofs.YtagmlijhgncklaaGreatDoor.Ker
