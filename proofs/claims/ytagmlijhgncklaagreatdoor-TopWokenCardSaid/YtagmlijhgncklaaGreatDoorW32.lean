/-
  The kit's contract of slices.Clone at this seat's instances (a program's instructions, what was noted), and the little functions that make events and instructions. There are no conditions but those said.
  The little functions that make events, instructions and jobs (law24's Run, Tick, Set, Call, Job), and what was noted (Notes). There are no conditions but those said.
  The kernel's own copy of a job (own), over the translation of this seat. Conditions: the job's programs lie where it says; it has no files.
  A call's instructions (put), over the translation of this seat. Conditions: the list is of the caller's own; the arguments lie where it says.
-/
import Derived.Test.YtagmlijhgncklaaGreatDoorW31
import Derived.Shelf.SlicesE.Clone
set_option linter.unusedVariables false
namespace Go.Proofs
open Go.Shelf
def Tryz.layE58_ren : Go.Shelf.Ren := ⟨fun | 41 => 58 | n => n, fun | 22 => 24 | 23 => 29 | n => n, fun | n => n⟩
theorem Tryz.layE58 : SlLaysE0.n41 Tryz.prog Tryz.layE58_ren := {
  mixed := by kernel_rfl
  f41 := ⟨"slices.Clone[[]metronome/api.Instr,metronome/api.Instr]", by decide, Tryz.func58.trans (congrArg some (by kernel_rfl))⟩
  t4 := Tryz.underlying4
  a4 := Tryz.isAgg4
  z4 := Tryz.sizeOf4
  v4 := Tryz.zeroValue4
  t22 := Tryz.underlying24
  a22 := Tryz.isAgg24
  z22 := Tryz.sizeOf24
  v22 := Tryz.zeroValue24 }
def Tryz.layE47_ren : Go.Shelf.Ren := ⟨fun | 41 => 47 | n => n, fun | 22 => 45 | 23 => 48 | n => n, fun | n => n⟩
theorem Tryz.layE47 : SlLaysE0.n41 Tryz.prog Tryz.layE47_ren := {
  mixed := by kernel_rfl
  f41 := ⟨"slices.Clone[[]metronome/api.Noted,metronome/api.Noted]", by decide, Tryz.func47.trans (congrArg some (by kernel_rfl))⟩
  t4 := Tryz.underlying4
  a4 := Tryz.isAgg4
  z4 := Tryz.sizeOf4
  v4 := Tryz.zeroValue4
  t22 := Tryz.underlying45
  a22 := Tryz.isAgg45
  z22 := Tryz.sizeOf45
  v22 := Tryz.zeroValue45 }
end Go.Proofs
namespace Go.Proofs.YtagmlijhgncklaaGreatDoor.Ker
open Go.RowKit Go.Proofs.YtagmlijhgncklaaGreatDoor Go.Proofs.YtagmlijhgncklaaGreatDoor.Code

theorem info29 : (Tryz.prog.info? 29).map (fun i => (i.zero, i.size, i.bytes)) = some (some (.agg #[.int .i64 0, .int .i64 0, .int .i64 0, .int .i64 0, .int .i64 0]), 5, 40) := by kernel_rfl
/-- A program's instructions, copied. -/
theorem clone58_c (w : World) (p : Nat) (L : List Ins) (cap : Nat) (hP : PrgH w p L) (hl : L.length ≤ 256) :
    Calls Tryz.prog 58 #[.slice (some ⟨p, 0, none⟩) L.length cap] w fun e w' => ∃ v', e = .returned v' ∧ w'.ownsRow w.heap.size 29 5 v' L.length (L.flatMap Ins.cells) ∧ v' ≠ .slice none 0 0 ∧ Below w.heap.size w w' := by
  obtain ⟨i, hi, hz0, hz1, hz2⟩ := info_parts info29
  have hlen : ∀ M : List Ins, (M.flatMap Ins.cells).length = M.length * 5 := fun M => by
    induction M with
    | nil => rfl
    | cons x M ih => rw [List.flatMap_cons, List.length_append, ih, List.length_cons]; show 5 + _ = _; omega
  have hget : ∀ (M : List Ins) (j : Nat) (u : Value), (M.flatMap Ins.cells)[j]? = some u → ∃ x, M[j / 5]? = some x ∧ x.cells[j % 5]? = some u := fun M => by
    induction M with
    | nil => intro j u h; simp at h
    | cons x M ih =>
      intro j u h
      rw [List.flatMap_cons] at h
      by_cases hj : j < 5
      · rw [List.getElem?_append_left (by exact hj)] at h
        exact ⟨x, by rw [show j / 5 = 0 by omega]; rfl, by rw [show j % 5 = j by omega]; exact h⟩
      · rw [List.getElem?_append_right (by show 5 ≤ j; omega)] at h
        obtain ⟨y, h1, h2⟩ := ih (j - x.cells.length) u h
        have e : x.cells.length = 5 := rfl
        rw [e] at h1 h2
        exact ⟨y, by rw [show j / 5 = (j - 5) / 5 + 1 by omega]; exact h1, by rw [show j % 5 = (j - 5) % 5 by omega]; exact h2⟩
  refine (AnyE.slices_Clone Tryz.layE58 i _ 5 40 hi hz0 hz1 hz2 rfl (by decide) Tryz.sizeOf29 p 0 L.length cap (L.flatMap Ins.cells) w (hlen L) (by simp only [maxLen]; omega) (by omega) ?_ ?_)
  · intro j u hj
    obtain ⟨x, h1, h2⟩ := hget L j u hj
    obtain ⟨cs, h3, h4⟩ := hP
    have h5 := h4 (j / 5) x h1 (j % 5) (Nat.mod_lt _ (by decide))
    rw [show j / 5 * 5 + j % 5 = j by omega] at h5
    rw [Nat.zero_add]
    exact has_cell _ h3 (by simpa using h5.trans h2)
  · intro u hu
    obtain ⟨x, _, hx⟩ := List.mem_flatMap.1 hu
    simp [Ins.cells] at hx
    rcases hx with rfl | rfl | rfl | rfl | rfl <;> rfl
end Go.Proofs.YtagmlijhgncklaaGreatDoor.Ker
namespace Go.Proofs.YtagmlijhgncklaaGreatDoor.Ker
open Go.RowKit Go.Proofs.YtagmlijhgncklaaGreatDoor Go.Proofs.YtagmlijhgncklaaGreatDoor.Code

theorem Run_c (w : World) : Calls Tryz.prog 14 #[] w fun e w' => e = .returned (.agg #[.int .i64 1, .int .i64 0]) ∧ Below w.heap.size w w' := by
  go_enter Tryz.func14, Tryz.ntmps14
  go_wp2_with fail
  refine bodyPost_ret (v := .agg #[.int .i64 1, .int .i64 0]) ?_ rfl ⟨rfl, (Below.refl w.heap.size w).alloc (Nat.le_refl _) _⟩
  have hload := run_loadVar_mid (P := Tryz.prog) _ _ _ 43 _ _ (has_range (heap_alloc_new w (.cells #[.int .i64 1, .int .i64 0] 43)) [.int .i64 1, .int .i64 0] 0 (by intro j _; simp)) Tryz.underlying43 rfl (by kernel_rfl)
  simp [results, Tryz.f14, hload, asAddr]
theorem Set_c (w : World) (r n : Int) : Calls Tryz.prog 19 #[.int .i64 r, .int .i64 n] w fun e w' => e = .returned (Ins.mk 1 r 0 0 n).val ∧ Below w.heap.size w w' := by
  go_enter Tryz.func19, Tryz.ntmps19
  go_wp2_with fail
  refine bodyPost_ret (v := (Ins.mk 1 r 0 0 n).val) ?_ rfl ⟨rfl, (Below.refl w.heap.size w).alloc (Nat.le_refl _) _⟩
  have hload := run_loadVar_mid (P := Tryz.prog) _ _ _ 29 _ _ (ins_cells (Ins.mk 1 r 0 0 n) (heap_alloc_new w (.cells (Ins.mk 1 r 0 0 n).cells.toArray 29))) Tryz.underlying29 rfl (by kernel_rfl)
  simp [Ins.cells] at hload
  simp [results, Tryz.f19, hload, asAddr, Ins.val]
theorem Call_c (w : World) (n : Int) : Calls Tryz.prog 10 #[.int .i64 n] w fun e w' => e = .returned (Ins.mk 7 0 0 0 n).val ∧ Below w.heap.size w w' := by
  go_enter Tryz.func10, Tryz.ntmps10
  go_wp2_with fail
  refine bodyPost_ret (v := (Ins.mk 7 0 0 0 n).val) ?_ rfl ⟨rfl, (Below.refl w.heap.size w).alloc (Nat.le_refl _) _⟩
  have hload := run_loadVar_mid (P := Tryz.prog) _ _ _ 29 _ _ (ins_cells (Ins.mk 7 0 0 0 n) (heap_alloc_new w (.cells (Ins.mk 7 0 0 0 n).cells.toArray 29))) Tryz.underlying29 rfl (by kernel_rfl)
  simp [Ins.cells] at hload
  simp [results, Tryz.f10, hload, asAddr, Ins.val]
theorem job_range {w : World} {b : Nat} (J : Code.Job) (h : w.heap[b]? = some (.cells J.cells.toArray 34 (0, 0))) : w.rangeAt b 0 J.cells := has_range h J.cells 0 (by intro j _; simp)
theorem Job_c (w : World) (PS : List Prg) (b cap : Nat) : Calls Tryz.prog 11 #[.slice (some ⟨b, 0, none⟩) PS.length cap] w fun e w' => e = .returned (Code.Job.mk 4 4 4 2 5 PS b cap).val ∧ Below w.heap.size w w' := by
  go_enter Tryz.func11, Tryz.ntmps11
  go_wp2_with fail
  refine bodyPost_ret (v := (Code.Job.mk 4 4 4 2 5 PS b cap).val) ?_ rfl ⟨rfl, (Below.refl w.heap.size w).alloc (Nat.le_refl _) _⟩
  have hload := run_loadVar_mid (P := Tryz.prog) _ _ _ 34 _ _ (job_range (Code.Job.mk 4 4 4 2 5 PS b cap) (heap_alloc_new w (.cells (Code.Job.mk 4 4 4 2 5 PS b cap).cells.toArray 34))) Tryz.underlying34 rfl (by kernel_rfl)
  simp [Code.Job.cells] at hload
  simp [results, Tryz.f11, hload, asAddr, Code.Job.val]
/-- What was noted, copied. -/
theorem Notes_c (w : World) (S : KS) {B : KB} (hB : S.B = B) (h : KW w S) (hn : S.lo.notes.length ≤ 10000) (g cap : Nat) (hg : S.lo.nv = .slice (some ⟨g, 0, none⟩) S.lo.notes.length cap) :
    Calls Tryz.prog 15 #[.pointer (some ⟨B.kb, 0, none⟩)] w fun e w' => ∃ v, e = .returned v ∧ w'.ownsRow w.heap.size 48 2 v S.lo.notes.length (S.lo.notes.flatMap fun x => [.int .i64 x.1, .int .i64 x.2]) ∧ v ≠ .slice none 0 0 ∧ Below w.heap.size w w' := by
  subst hB
  have T := there_c w S rfl h
  have c90 := kc90 h rfl
  rw [hg] at c90
  have hl : (S.lo.notes.flatMap fun x => [Value.int .i64 x.1, Value.int .i64 x.2]).length = S.lo.notes.length * 2 := h.nt.1
  have C : Calls Tryz.prog 47 #[.slice (some ⟨g, 0, none⟩) S.lo.notes.length cap] w fun e w' => ∃ v', e = .returned v' ∧ w'.ownsRow w.heap.size 48 2 v' S.lo.notes.length (S.lo.notes.flatMap fun x => [.int .i64 x.1, .int .i64 x.2]) ∧ v' ≠ .slice none 0 0 ∧ Below w.heap.size w w' := by
    obtain ⟨i, hi, hz0, hz1, hz2⟩ := info_parts info48
    refine (AnyE.slices_Clone Tryz.layE47 i _ 2 16 hi hz0 hz1 hz2 rfl (by decide) Tryz.sizeOf48 g 0 S.lo.notes.length cap _ w hl (by simp only [maxLen]; omega) (by omega) ?_ ?_)
    · intro j u hj
      have q := World.ownsRow.cells h.nt (g := g) (by rw [hg]; rfl) j u hj
      rw [Addr.add_lit] at q
      exact q
    · intro u hu
      obtain ⟨x, _, hx⟩ := List.mem_flatMap.1 hu
      simp at hx
      rcases hx with rfl | rfl <;> rfl
  have HC := Lib.hid C
  clear h hg hl C
  go_enter Tryz.func15, Tryz.ntmps15
  go_wp2_with (first
    | (go_at_call 43; refine T.mono ?_; rintro e w' ⟨rfl, rfl⟩)
    | (go_at_call 47; refine HC.out.mono ?_; rintro e w' ⟨v, rfl, hv⟩; have HV := Lib.hid hv; clear hv))
  go_ret
  exact ⟨v, rfl, HV.out⟩
end Go.Proofs.YtagmlijhgncklaaGreatDoor.Ker
namespace Go.Proofs.YtagmlijhgncklaaGreatDoor.Ker
open Go.RowKit Go.Proofs.YtagmlijhgncklaaGreatDoor Go.Proofs.YtagmlijhgncklaaGreatDoor.Code

theorem info24 : (Tryz.prog.info? 24).map (fun i => (i.zero, i.size, i.bytes)) = some (some (.slice none 0 0), 1, 24) := by kernel_rfl
/-- Programs' copies, made so far: the same instructions, in blocks of their own. -/
structure OwnW (w wr : World) (J : Job) (v : Value) (j : Nat) (PS : List Prg) : Prop where
  t1 : wr.heap[w.heap.size]? = some (.cells J.cells.toArray 34 (0, 0))
  t2 : wr.heap[w.heap.size + 1]? = some (.cells #[.int .i64 0, .int .i64 0, .int .i64 0, .int .i64 0, .int .i64 0, .int .i64 0, .slice none 0 0, .slice none 0 0] 34 (0, 0))
  below : Below w.heap.size w wr
  L : PS.map Prg.L = (J.PS.take j).map Prg.L
  row : wr.ownsRow (w.heap.size + 2) 24 1 v j (PS.map Prg.val)
  ps : ∀ x ∈ PS, PrgH wr x.p x.L ∧ w.heap.size + 2 ≤ x.p ∧ v.ownBlock ≠ some x.p
theorem prg_move {w w' : World} {p : Nat} {L : List Ins} (h : PrgH w p L) (k : w'.heap[p]? = w.heap[p]?) : PrgH w' p L := by
  obtain ⟨cs, h1, h2⟩ := h
  exact ⟨cs, k.trans h1, h2⟩
theorem prg_lt {w : World} {p : Nat} {L : List Ins} (h : PrgH w p L) : p < w.heap.size := by
  obtain ⟨cs, h1, h2⟩ := h
  exact has_lt h1
theorem flat_at (M : List Ins) (k : Nat) (i : Ins) (j : Nat) (hj : j < 5) (h : M[k]? = some i) : (M.flatMap Ins.cells)[k * 5 + j]? = i.cells[j]? := by
  induction M generalizing k with
  | nil => simp at h
  | cons x M ih =>
    rw [List.flatMap_cons]
    cases k with
    | zero =>
      simp at h
      subst h
      rw [List.getElem?_append_left (by show 0 * 5 + j < 5; omega), show 0 * 5 + j = j by omega]
    | succ k =>
      rw [List.getElem?_append_right (by show 5 ≤ _; omega), show (k + 1) * 5 + j - x.cells.length = k * 5 + j by show (k + 1) * 5 + j - 5 = _; omega]
      exact ih k (by simpa using h)
/-- A copied program is one. -/
theorem prg_of_row {w : World} {B g cap : Nat} {L : List Ins} (h : w.ownsRow B 29 5 (.slice (some ⟨g, 0, none⟩) L.length cap) L.length (L.flatMap Ins.cells)) : PrgH w g L := by
  obtain ⟨h0, (⟨e, _⟩ | ⟨g', cap', cur, e, hb, hg, h4, h5, h6, h7⟩)⟩ := h
  · cases e
  · cases e
    refine ⟨cur.toList, by simpa using hg, ?_⟩
    intro k i hk j hj
    rw [← flat_at L k i j hj hk, ← h7, List.getElem?_take]
    have := (List.getElem?_eq_some_iff.1 hk).1
    rw [if_pos (by omega)]
theorem own_step {w wr w1 w2 : World} {J : Job} {v v' v2 : Value} {j : Nat} {PS : List Prg} {x : Prg} {o : Obj} (h : OwnW w wr J v j PS) (hx : J.PS[j]? = some x) {g cap : Nat} (hv : v' = .slice (some ⟨g, 0, none⟩) x.L.length cap)
    (h1 : w1.ownsRow wr.heap.size 29 5 v' x.L.length (x.L.flatMap Ins.cells)) (b1 : Below wr.heap.size wr w1) (h2 : w2.ownsRow (w.heap.size + 2) 24 1 v2 (j + 1) (PS.map Prg.val ++ [v'])) (g2 : (w1.alloc o).grownBy w2 v.ownBlock) (hat : v2.ownBlock = v.ownBlock ∨ v2.ownBlock = some (w1.alloc o).heap.size) :
    OwnW w w2 J v2 (j + 1) (PS ++ [⟨g, x.L, cap⟩]) := by
  have hvl : ∀ k, v.ownBlock = some k → w.heap.size + 2 ≤ k ∧ k < wr.heap.size := World.ownsRow.lt h.row
  have sz : (w1.alloc o).heap.size = w1.heap.size + 1 := by simp
  have s1 := b1.size
  have keep : ∀ k, k < wr.heap.size → v.ownBlock ≠ some k → w2.heap[k]? = wr.heap[k]? := fun k hk hn =>
    (g2.block k (by omega) (fun e => hn e.symm)).trans ((heap_alloc_old w1 o (by omega)).trans (b1.block k hk))
  have ws : w.heap.size + 1 < wr.heap.size := has_lt h.t2
  have ne : ∀ k, k < w.heap.size + 2 → v.ownBlock ≠ some k := fun k hk e => by have := (hvl k e).1; omega
  subst hv
  have hg : PrgH w1 g x.L := prg_of_row h1
  have hgb : wr.heap.size ≤ g := (World.ownsRow.lt h1 g rfl).1
  have hgl := prg_lt hg
  refine ⟨(keep _ (by omega) (ne _ (by omega))).trans h.t1, (keep _ ws (ne _ (by omega))).trans h.t2, ?_, ?_, by simpa [Prg.val] using h2, ?_⟩
  · exact ((h.below.trans (b1.mono h.below.size)).alloc (by have := h.below.size; omega) o).grown g2 (by have := h.below.size; omega) (by intro k hk; have := (hvl k hk).1; omega)
  · rw [List.map_append, h.L, List.take_add_one, hx]
    simp
  · intro y hy
    rcases List.mem_append.1 hy with hy | hy
    · obtain ⟨y1, y2, y3⟩ := h.ps y hy
      have yl := prg_lt y1
      refine ⟨prg_move y1 (keep _ yl y3), y2, ?_⟩
      rcases hat with e | e
      · rw [e]; exact y3
      · rw [e]
        intro q
        have := Option.some.inj q
        omega
    · simp at hy
      subst hy
      have hvg : v.ownBlock ≠ some g := fun e => by have := (hvl g e).2; omega
      have gle : w.heap.size + 2 ≤ g := by omega
      refine ⟨prg_move hg ((g2.block g (by omega) (fun e => hvg e.symm)).trans (heap_alloc_old w1 o hgl)), gle, ?_⟩
      rcases hat with e | e
      · rw [e]; exact hvg
      · rw [e]
        intro q
        have q : (w1.alloc o).heap.size = g := Option.some.inj q
        omega
set_option maxRecDepth 100000 in
theorem own_c (w : World) (J : Job) (hP : PgsH w J.b J.PS) (hn1 : 1 ≤ J.PS.length) (hn : J.PS.length ≤ 32) (hl : ∀ x ∈ J.PS, x.L.length ≤ 256) :
    Calls Tryz.prog 22 #[J.val] w fun e w' => ∃ PS b cap, e = .returned (Job.mk J.t J.o J.s J.q J.pr PS b cap).val ∧ PS.map Prg.L = J.PS.map Prg.L ∧ PgsH w' b PS ∧ w.heap.size ≤ b ∧ (∀ x ∈ PS, w.heap.size ≤ x.p) ∧ Below w.heap.size w w' := by
  have HP := Lib.hid hP
  have HL := Lib.hid hl
  unfold Job.val
  clear hP hl
  obtain ⟨i0, hi, hz0, hz1, hz2⟩ := info_parts info24
  have HI := Lib.hid hi
  have HZ0 := Lib.hid hz0
  have HZ1 := Lib.hid hz1
  have HZ2 := Lib.hid hz2
  clear hi hz0 hz1 hz2
  go_enter Tryz.func22, Tryz.ntmps22
  go_wp2_with fail
  go_loopw [3, 9] (fun v i wr => ∃ (j : Nat) (PS : List Prg), i = .int .i64 j ∧ j ≤ J.PS.length ∧ OwnW w wr J v j PS) (fun _ i _ => J.PS.length - (intOf i).toNat)
  case atStart =>
    have x1 := heap_alloc_new w (.cells J.cells.toArray 34)
    have x2 := heap_alloc_new (w.alloc (.cells J.cells.toArray 34)) (.cells #[.int .i64 0, .int .i64 0, .int .i64 0, .int .i64 0, .int .i64 0, .int .i64 0, .slice none 0 0, .slice none 0 0] 34)
    rw [show (w.alloc (.cells J.cells.toArray 34)).heap.size = w.heap.size + 1 by simp] at x2
    exact ⟨0, [], rfl, by omega, below_alloc_has x1, x2, ((Below.refl w.heap.size w).alloc (Nat.le_refl _) _).alloc (by simp) _, rfl, World.ownsRow_nil _ _ _ _, by intro x hx; simp at hx⟩
  case round =>
    obtain ⟨j, PS, rfl, hj, O⟩ := hrel
    by_cases hlt : j < J.PS.length
    · obtain ⟨x, hx⟩ : ∃ x, J.PS[j]? = some x := ⟨J.PS[j], List.getElem?_eq_getElem hlt⟩
      have cx : wr.cell? ⟨J.b, j, none⟩ = some (.slice (some ⟨x.p, 0, none⟩) x.L.length x.cap) := (HP.out.reads O.below).cell j x hx
      have C := clone58_c wr x.p x.L x.cap ((HP.out.reads O.below).2 x (List.mem_of_getElem? hx)) (HL.out x (List.mem_of_getElem? hx))
      have HO := Lib.hid O
      have HX := Lib.hid hx
      have i1 : (0 : Int) ≤ j := by omega
      have i2 : (j : Int) < (J.PS.length : Int) := by omega
      clear O hx
      go_wp2_with (first
        | (go_at_call 58; refine C.mono ?_; rintro e w1 ⟨v', rfl, o1, nn, b1⟩
           obtain ⟨g, cap, rfl⟩ : ∃ g cap, v' = .slice (some ⟨g, 0, none⟩) x.L.length cap := by
             rcases o1.2 with ⟨e, _⟩ | ⟨g, cap, cur, e, _⟩
             · exact absurd e nn
             · exact ⟨g, cap, e⟩
           have HO1 := Lib.hid o1; have HB1 := Lib.hid b1; clear o1 b1 nn C)
        | (at_builtin; (refine wpList_append_own_at _ rfl _ _ 31 rfl (w.heap.size + 2) 24 i0 (.slice none 0 0) 1 24 Tryz.underlying31 HI.out HZ0.out HZ1.out HZ2.out rfl (by decide) u3 j (PS.map Prg.val) rfl ?own ⟨w1.heap.size, 0, none⟩ 1 1 [.slice (some ⟨g, 0, none⟩) x.L.length cap] rfl rfl (cell_one_new w1 (.slice (some ⟨g, 0, none⟩) x.L.length cap) 24) ?one ?h63 ?hby ?hbase ?_)))
      case own => exact owns_kept HO.out.row (fun b hb => (heap_alloc_old w1 _ (Nat.lt_of_lt_of_le (owns_lt HO.out.row hb) HB1.out.size)).trans (HB1.out.block b (owns_lt HO.out.row hb)))
      case one => intro u hu; simp at hu; subst hu; rfl
      case h63 => simp only [maxLen]; omega
      case hby => omega
      case hbase => have := HO.out.below.size; have := HB1.out.size; have := has_lt HO.out.t2; simp; omega
      intro v2 w2 h2 g2 _ hat
      have O2 := Lib.hid (own_step HO.out HX.out rfl HO1.out HB1.out h2 g2 (by simpa using hat))
      clear h2 g2 hat
      go_wp2_with fail
      go_roundw
      case rel => exact ⟨j + 1, _, by go_num, by omega, O2.out⟩
      case measure => simp [intOf]; omega
    · obtain rfl : j = J.PS.length := by omega
      have c0 : wr.cell? ⟨w.heap.size, 0, none⟩ = some (.int .i64 J.t) := has_cell 0 O.t1 rfl
      have c1 : wr.cell? ⟨w.heap.size, 1, none⟩ = some (.int .i64 J.o) := has_cell 1 O.t1 rfl
      have c2 : wr.cell? ⟨w.heap.size, 2, none⟩ = some (.int .i64 J.s) := has_cell 2 O.t1 rfl
      have c3 : wr.cell? ⟨w.heap.size, 3, none⟩ = some (.int .i64 J.q) := has_cell 3 O.t1 rfl
      have c4 : wr.cell? ⟨w.heap.size, 4, none⟩ = some (.int .i64 512) := has_cell 4 O.t1 rfl
      have c5 : wr.cell? ⟨w.heap.size, 5, none⟩ = some (.int .i64 J.pr) := has_cell 5 O.t1 rfl
      have c6 : wr.cell? ⟨w.heap.size, 6, none⟩ = some (.slice (some ⟨J.b, 0, none⟩) J.PS.length J.cap) := has_cell 6 O.t1 rfl
      have c7 : wr.cell? ⟨w.heap.size, 7, none⟩ = some (.slice none 0 0) := has_cell 7 O.t1 rfl
      have fz : ∀ i, wr.frozen? ⟨w.heap.size + 1, i, none⟩ = false := has_free O.t2
      have y0 := has_cell (v := .int .i64 0) 0 O.t2 rfl
      have y1 := has_cell (v := .int .i64 0) 1 O.t2 rfl
      have y2 := has_cell (v := .int .i64 0) 2 O.t2 rfl
      have y3 := has_cell (v := .int .i64 0) 3 O.t2 rfl
      have y4 := has_cell (v := .int .i64 0) 4 O.t2 rfl
      have y5 := has_cell (v := .int .i64 0) 5 O.t2 rfl
      have y6 := has_cell (v := .slice none 0 0) 6 O.t2 rfl
      have y7 := has_cell (v := .slice none 0 0) 7 O.t2 rfl
      have f1 := has_free O.t1
      obtain ⟨b, cap, hv⟩ : ∃ b cap, u3 = .slice (some ⟨b, 0, none⟩) J.PS.length cap := by
        rcases O.row.2 with ⟨_, e⟩ | ⟨b, cap, cur, e, _⟩
        · omega
        · exact ⟨b, cap, e⟩
      subst hv
      have HO := Lib.hid O
      clear O
      go_wp2_with (go_at_call 59; refine (Tryz.slices_Clone_string_nil _ _ _).mono ?_; rintro e w' ⟨rfl, rfl⟩)
      have O := HO.out
      have hbb : w.heap.size + 2 ≤ b ∧ b < w'.heap.size := World.ownsRow.lt O.row b rfl
      have hpl : PS.length = J.PS.length := by
        have q := congrArg List.length O.L
        simpa using q
      have ws := has_lt O.t2
      have U1 := ((Upd.refl O.t1).setCell 6 (.slice (some ⟨b, 0, none⟩) J.PS.length cap)).setCell 7 (.slice none 0 0)
      have x2 := U1.other O.t2 (by omega)
      have U2 := ((((((((Upd.refl x2).setCell 0 (.int .i64 J.t)).setCell 1 (.int .i64 J.o)).setCell 2 (.int .i64 J.s)).setCell 3 (.int .i64 J.q)).setCell 4 (.int .i64 512)).setCell 5 (.int .i64 J.pr)).setCell 6 (.slice (some ⟨b, 0, none⟩) J.PS.length cap)).setCell 7 (.slice none 0 0)
      have U2 := U2.to (o' := .cells (Job.mk J.t J.o J.s J.q J.pr PS b cap).cells.toArray 34 (0, 0)) (by simp [Job.cells, hpl])
      have hload := run_loadVar_mid (P := Tryz.prog) _ _ _ 34 _ _ (job_range (Job.mk J.t J.o J.s J.q J.pr PS b cap) U2.1) Tryz.underlying34 rfl (by kernel_rfl)
      have B1 : Below w.heap.size w' _ := U1.below (Nat.le_refl _) (by omega)
      have B2 := B1.trans (U2.below (B := w.heap.size) (by omega) (by have := U1.size; omega))
      have keep : ∀ k, k < w'.heap.size → w.heap.size + 2 ≤ k → _ = w'.heap[k]? := fun k hk hk2 => (U2.2.block k (Nat.lt_of_lt_of_le hk U1.size) (by simp; omega)).trans (U1.2.block k hk (by simp; omega))
      refine bodyPost_ret (v := (Job.mk J.t J.o J.s J.q J.pr PS b cap).val) ?_ rfl ⟨PS, b, cap, rfl, ?_, ⟨?_, ?_⟩, by omega, ?_, O.below.trans B2⟩
      · simp [Job.cells] at hload
        simp [results, Tryz.f22, hload, asAddr, Job.val]
      · rw [O.L, List.take_length]
      · obtain ⟨h0, (⟨e, _⟩ | ⟨g', cap', cur, e, hb, hg, h4, h5, h6, h7⟩)⟩ := O.row
        · cases e
        · cases e
          refine ⟨cur.toList, (keep b hbb.2 hbb.1).trans (by simpa using hg), ?_⟩
          intro k x hk
          have hkl := (List.getElem?_eq_some_iff.1 hk).1
          have q : (PS.map Prg.val)[k]? = some x.val := by rw [List.getElem?_map, hk]; rfl
          rw [← h7, List.getElem?_take, if_pos (by omega)] at q
          exact q
      · intro x hx
        obtain ⟨p1, p2, _⟩ := O.ps x hx
        exact prg_move p1 (keep _ (prg_lt p1) p2)
      · intro x hx
        have := (O.ps x hx).2.1
        omega
end Go.Proofs.YtagmlijhgncklaaGreatDoor.Ker
namespace Go.Proofs.YtagmlijhgncklaaGreatDoor.Ker
open Go.RowKit Go.Proofs.YtagmlijhgncklaaGreatDoor Go.Proofs.YtagmlijhgncklaaGreatDoor.Code

/-- The sets of arguments from r on. -/
def setsF (r : Nat) : List Int → List Ins
  | [] => []
  | x :: l => ⟨1, r, 0, 0, x⟩ :: setsF (r + 1) l
theorem setsF_take (r : Nat) (l : List Int) (j : Nat) (x : Int) (h : l[j]? = some x) : setsF r (l.take (j + 1)) = setsF r (l.take j) ++ [⟨1, (r : Int) + j, 0, 0, x⟩] := by
  induction l generalizing r j with
  | nil => simp at h
  | cons y l ih =>
    cases j with
    | zero => simp at h; subst h; simp [setsF]
    | succ j =>
      have q := ih (r + 1) j (by simpa using h)
      simp only [List.take_succ_cons, setsF, List.cons_append]
      rw [q]
      simp
      omega
theorem setsF_len (r : Nat) (l : List Int) : (setsF r l).length = l.length := by
  induction l generalizing r with
  | nil => rfl
  | cons x l ih => simp [setsF, ih]
/-- A list of instructions of the caller's own. -/
def OwnI (w : World) (B : Nat) (v : Value) (L : List Ins) : Prop := w.ownsRow B 29 5 v L.length (L.flatMap Ins.cells)
structure PutW (w wr : World) (B : Nat) (v0 v : Value) (L : List Ins) : Prop where
  own : OwnI wr B v L
  grown : w.grownBy wr v0.ownBlock
  blk : v.ownBlock = v0.ownBlock ∨ ∀ b, v.ownBlock = some b → w.heap.size ≤ b
theorem PutW.refl {w : World} {B : Nat} {v : Value} {L : List Ins} (h : OwnI w B v L) : PutW w w B v v L := ⟨h, ⟨rfl, rfl, rfl, Nat.le_refl _, fun _ _ _ => rfl⟩, .inl rfl⟩
theorem PutW.reads {w wr w1 : World} {B : Nat} {v0 v : Value} {L : List Ins} (h : PutW w wr B v0 v L) (k : Below wr.heap.size wr w1) : PutW w w1 B v0 v L :=
  ⟨owns_kept h.own fun b hb => k.block b (owns_lt h.own hb), ⟨k.os.trans h.grown.os, k.tape.trans h.grown.tape, k.output.trans h.grown.output, Nat.le_trans h.grown.size k.size, fun b hb hn => (k.block b (Nat.lt_of_lt_of_le hb h.grown.size)).trans (h.grown.block b hb hn)⟩, h.blk⟩
/-- One more instruction. -/
theorem PutW.more {w wr w2 : World} {B : Nat} {v0 v v2 : Value} {L : List Ins} {i : Ins} (h : PutW w wr B v0 v L) (h2 : w2.ownsRow B 29 5 v2 (L.length + 1) (L.flatMap Ins.cells ++ i.cells)) (g : wr.grownBy w2 v.ownBlock) (hat : v2.ownBlock = v.ownBlock ∨ v2.ownBlock = some wr.heap.size) : PutW w w2 B v0 v2 (L ++ [i]) := by
  refine ⟨?_, ⟨g.os.trans h.grown.os, g.tape.trans h.grown.tape, g.output.trans h.grown.output, Nat.le_trans h.grown.size g.size, fun b hb hn => ?_⟩, ?_⟩
  · show w2.ownsRow B 29 5 v2 (L ++ [i]).length ((L ++ [i]).flatMap Ins.cells)
    rw [List.flatMap_append]
    simpa using h2
  · refine (g.block b (Nat.lt_of_lt_of_le hb h.grown.size) ?_).trans (h.grown.block b hb hn)
    rcases h.blk with e | e
    · rw [e]; exact hn
    · intro q
      have := e b q.symm
      omega
  · rcases hat with e | e
    · rw [e]; exact h.blk
    · right
      intro b hb
      rw [e] at hb
      cases hb
      exact h.grown.size
theorem news_ins (w : World) (i : Ins) : ∀ j u, i.cells[j]? = some u → (w.alloc (.cells #[.int .i64 i.op, .int .i64 i.d, .int .i64 i.a, .int .i64 i.b, .int .i64 i.imm] 29)).cell? ((⟨w.heap.size, 0, none⟩ : Addr).add j) = some u := by
  intro j u h
  exact World.news_of_block (heap_alloc_new w (.cells #[.int .i64 i.op, .int .i64 i.d, .int .i64 i.a, .int .i64 i.b, .int .i64 i.imm] 29)) j u (by simpa [Ins.cells] using h)
theorem ins_one (i : Ins) : ∀ u ∈ i.cells, u.oneCell' = true := by
  intro u hu
  simp [Ins.cells] at hu
  rcases hu with rfl | rfl | rfl | rfl | rfl <;> rfl
set_option maxHeartbeats 1000000 in
set_option maxRecDepth 100000 in
theorem put_c (w : World) (B : Nat) (v : Value) (L : List Ins) (h : OwnI w B v L) (hB : B ≤ w.heap.size) (n : Int) (ab cap : Nat) (xs : List Int) (ha : w.heap[ab]? = some (.cells (xs.map (Value.int .i64)).toArray 2 (0, 0))) (hne : v.ownBlock ≠ some ab) (hl : L.length ≤ 1000) (hal : xs.length ≤ 100) :
    Calls Tryz.prog 8 #[v, .int .i64 n, .slice (some ⟨ab, 0, none⟩) xs.length cap] w fun e w' => ∃ v', e = .returned v' ∧ PutW w w' B v v' (L ++ setsF 2 xs ++ [⟨7, 0, 0, 0, n⟩]) := by
  obtain ⟨i0, hi, hz0, hz1, hz2⟩ := info_parts info29
  have HI := Lib.hid hi
  have HZ0 := Lib.hid hz0
  have HZ1 := Lib.hid hz1
  have HZ2 := Lib.hid hz2
  have HA := Lib.hid ha
  have HNE := Lib.hid hne
  have HB := Lib.hid hB
  have P0 := PutW.refl h
  clear hi hz0 hz1 hz2 ha hne h hB
  go_enter Tryz.func8, Tryz.ntmps8
  go_wp2_with fail
  go_loopw [0, 7] (fun u i wr => ∃ j : Nat, i = .int .i64 j ∧ j ≤ xs.length ∧ PutW w wr B v u (L ++ setsF 2 (xs.take j))) (fun _ i _ => xs.length - (intOf i).toNat)
  case atStart => exact ⟨0, rfl, by omega, by simpa [setsF] using P0⟩
  case round =>
    clear P0
    obtain ⟨j, rfl, hj, M⟩ := hrel
    obtain ⟨L1, hL1⟩ : ∃ L1, L1 = L ++ setsF 2 (xs.take j) := ⟨_, rfl⟩
    rw [← hL1] at M
    have hl1 : L1.length ≤ 1100 := by rw [hL1, List.length_append, setsF_len, List.length_take]; omega
    have HM := Lib.hid M
    have HL1 := Lib.hid hL1
    have HLL := Lib.hid hl1
    have HOWN := fun (W : World) (o : Obj) (m : PutW w W B v u0 L1) => World.ownsRow.alloc m.own o
    have HOW := Lib.hid HOWN
    clear M hL1 hl1 HOWN
    by_cases hlt : j < xs.length
    · obtain ⟨x, hx⟩ : ∃ x, xs[j]? = some x := ⟨xs[j], List.getElem?_eq_getElem hlt⟩
      have hwr : wr.heap[ab]? = some (.cells (xs.map (Value.int .i64)).toArray 2 (0, 0)) := (HM.out.grown.block ab (has_lt HA.out) (fun e => HNE.out e.symm)).trans HA.out
      have cx : wr.cell? ⟨ab, j, none⟩ = some (.int .i64 x) := has_cell j hwr (by simp [hx])
      have SC : Calls Tryz.prog 19 #[.int .i64 (2 + (j : Int)), .int .i64 x] wr fun e w' => e = .returned (.agg #[.int .i64 1, .int .i64 (2 + (j : Int)), .int .i64 0, .int .i64 0, .int .i64 x]) ∧ Below wr.heap.size wr w' := Set_c wr (2 + (j : Int)) x
      have HX := Lib.hid hx
      have i1 : (0 : Int) ≤ j := by omega
      have i2 : (j : Int) < (xs.length : Int) := by omega
      clear hx hwr
      go_wp2_with (first
        | (go_at_call 19; refine SC.mono ?_; rintro e w1 ⟨rfl, b1⟩; have HM1 := Lib.hid (HM.out.reads b1); have HS1 := Lib.hid b1.size; clear b1)
        | (at_builtin; refine wpList_append_own_at _ rfl _ _ 24 rfl B 29 i0 (.agg #[.int .i64 0, .int .i64 0, .int .i64 0, .int .i64 0, .int .i64 0]) 5 40 Tryz.underlying24 HI.out HZ0.out HZ1.out HZ2.out rfl (by decide) _ L1.length (L1.flatMap Ins.cells) rfl (HOW.out _ _ HM1.out) ⟨w1.heap.size, 0, none⟩ 1 1 (Ins.mk 1 (2 + (j : Int)) 0 0 x).cells rfl rfl (news_ins w1 (Ins.mk 1 (2 + (j : Int)) 0 0 x)) (ins_one _) ?h63 ?hby ?hbase ?_))
      case h63 => have := HLL.out; simp only [maxLen]; omega
      case hby => have := HLL.out; omega
      case hbase => have := HB.out; have := HS1.out; have := HM.out.grown.size; simp; omega
      intro v2 w2 h2 g2 _ hat
      have M2 := Lib.hid ((HM1.out.reads ((Below.refl w1.heap.size w1).alloc (Nat.le_refl _) _)).more (i := Ins.mk 1 (2 + (j : Int)) 0 0 x) h2 g2 (by simpa using hat))
      clear h2 g2 hat
      go_wp2_with fail
      go_roundw
      case rel =>
        refine ⟨j + 1, by go_num, by omega, ?_⟩
        have q := M2.out
        rw [HL1.out, List.append_assoc] at q
        rw [setsF_take 2 xs j x HX.out]
        exact q
      case measure => simp [intOf]; omega
    · obtain rfl : j = xs.length := by omega
      have CC : Calls Tryz.prog 10 #[.int .i64 n] wr fun e w' => e = .returned (.agg #[.int .i64 7, .int .i64 0, .int .i64 0, .int .i64 0, .int .i64 n]) ∧ Below wr.heap.size wr w' := Call_c wr n
      go_wp2_with (first
        | (go_at_call 10; refine CC.mono ?_; rintro e w1 ⟨rfl, b1⟩; have HM1 := Lib.hid (HM.out.reads b1); have HS1 := Lib.hid b1.size; clear b1)
        | (at_builtin; refine wpList_append_own_at _ rfl _ _ 24 rfl B 29 i0 (.agg #[.int .i64 0, .int .i64 0, .int .i64 0, .int .i64 0, .int .i64 0]) 5 40 Tryz.underlying24 HI.out HZ0.out HZ1.out HZ2.out rfl (by decide) _ L1.length (L1.flatMap Ins.cells) rfl (HOW.out _ _ HM1.out) ⟨w1.heap.size, 0, none⟩ 1 1 (Ins.mk 7 0 0 0 n).cells rfl rfl (news_ins w1 (Ins.mk 7 0 0 0 n)) (ins_one _) ?h63 ?hby ?hbase ?_))
      case h63 => have := HLL.out; simp only [maxLen]; omega
      case hby => have := HLL.out; omega
      case hbase => have := HB.out; have := HS1.out; have := HM.out.grown.size; simp; omega
      intro v2 w2 h2 g2 _ hat
      have M2 := Lib.hid ((HM1.out.reads ((Below.refl w1.heap.size w1).alloc (Nat.le_refl _) _)).more (i := Ins.mk 7 0 0 0 n) h2 g2 (by simpa using hat))
      clear h2 g2 hat
      go_wp2_with fail
      go_ret
      refine ⟨_, rfl, ?_⟩
      have q := M2.out
      rw [HL1.out, List.take_length] at q
      exact q
end Go.Proofs.YtagmlijhgncklaaGreatDoor.Ker
