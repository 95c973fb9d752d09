/-
  What an instruction names (ops, of), over the translation of this seat. There are no conditions.
  May an instruction's registers be so (registers), over the translation of this seat. Conditions: they may.
  May an instruction be in a program (May), over the translation of this seat: a set, an add, a jump, a call, a note. Conditions: registers and number are within their bounds.
  A program's instructions are looked through (Check), over the translation of this seat. Conditions: each instruction is right; the blocks that are named hold what is said.
  A program's instructions are looked through (IndexFunc, Check), over the translation of this seat. Conditions: each instruction is right; the blocks that are named hold what is said.
  A job's programs are looked through (ContainsFunc), over the translation of this seat. Conditions: each instruction is right; the blocks that are named hold what is said.
  May a job be so (CheckJob), over the translation of this seat. Conditions: its numbers are within their bounds, its instructions are right.
  The instruction at a place (At), over the translation of this seat. Conditions: the place is at or behind nought; the blocks that are named hold what is said.
-/
import Derived.Test.YtagmlijhgncklaaGreatDoorW18
import Derived.WalkMore
set_option linter.unusedVariables false
namespace Go.Proofs.YtagmlijhgncklaaGreatDoor.Code
open Go.RowKit Go.Proofs.YtagmlijhgncklaaGreatDoor

def opsL : List Value := [
  .string ⟨#[101, 110, 100]⟩, .bool false, .bool false, .bool false, .int .i64 0,
  .string ⟨#[115, 101, 116]⟩, .bool true, .bool false, .bool false, .int .i64 1,
  .string ⟨#[109, 111, 118, 101]⟩, .bool true, .bool true, .bool false, .int .i64 0,
  .string ⟨#[97, 100, 100]⟩, .bool true, .bool true, .bool true, .int .i64 0,
  .string ⟨#[115, 117, 98]⟩, .bool true, .bool true, .bool true, .int .i64 0,
  .string ⟨#[106, 117, 109, 112]⟩, .bool false, .bool false, .bool false, .int .i64 2,
  .string ⟨#[122, 101, 114, 111]⟩, .bool false, .bool true, .bool false, .int .i64 2,
  .string ⟨#[99, 97, 108, 108]⟩, .bool false, .bool false, .bool false, .int .i64 3,
  .string ⟨#[110, 111, 116, 101]⟩, .bool false, .bool true, .bool false, .int .i64 0]
theorem opsL_one : ∀ v ∈ opsL, v.oneCell' = true := by
  unfold opsL
  intro v hv
  simp only [List.mem_cons, List.not_mem_nil, or_false] at hv
  repeat' (rcases hv with rfl | hv)
  all_goals first | rfl | (subst hv; rfl)
set_option maxRecDepth 100000 in
set_option maxHeartbeats 3000000 in
theorem ops_c (w : World) : Calls Tryz.prog 301 #[] w fun e w' => e = .returned (.agg opsL.toArray) ∧ Below w.heap.size w w' := by
  have hr := fun (Z : Array Value) (hz : Z.size = 45) => copied w Z 412 opsL (by rw [hz]; rfl)
  go_enter Tryz.func301, Tryz.ntmps301
  go_wp2_with (refine wpList_store_mid rfl 412 (.tmp 0) (.tmp 10) rfl w.heap.size 0 opsL.toArray rfl rfl ?ht ?hi ?ho ?_; rotate_left 3)
  case ht => exact has_there (heap_alloc_new w _) 0 _ (by simp [opsL])
  case hi => kernel_rfl
  case ho => exact all_oneCell_toArray opsL_one
  obtain ⟨hc, hb⟩ := hr #[.string ⟨#[]⟩, .bool false, .bool false, .bool false, .int .i64 0, .string ⟨#[]⟩, .bool false, .bool false, .bool false, .int .i64 0, .string ⟨#[]⟩, .bool false, .bool false, .bool false, .int .i64 0, .string ⟨#[]⟩, .bool false, .bool false, .bool false, .int .i64 0, .string ⟨#[]⟩, .bool false, .bool false, .bool false, .int .i64 0, .string ⟨#[]⟩, .bool false, .bool false, .bool false, .int .i64 0, .string ⟨#[]⟩, .bool false, .bool false, .bool false, .int .i64 0, .string ⟨#[]⟩, .bool false, .bool false, .bool false, .int .i64 0, .string ⟨#[]⟩, .bool false, .bool false, .bool false, .int .i64 0] (by rfl)
  refine bodyPost_ret (v := .agg opsL.toArray) ?_ rfl ⟨rfl, hb⟩
  have hload := run_loadVar_mid (P := Tryz.prog) _ _ _ 412 _ _ (has_range hc opsL 0 (by simp)) Tryz.underlying412 rfl (by kernel_rfl)
  simp [results, Tryz.f301, hload, asAddr, Act.put]
def op1 : Array Value := #[.string ⟨#[115, 101, 116]⟩, .bool true, .bool false, .bool false, .int .i64 1]
set_option maxRecDepth 100000 in
theorem of_1 (w : World) : Calls Tryz.prog 150 #[.int .i64 1] w fun e w' => e = .returned (.tuple #[.agg op1, .bool true]) ∧ Below w.heap.size w w' := by
  have hix : ∀ W : World, (Instr.index 412 (.agg opsL.toArray) (.int .i64 1)).run Tryz.prog W = .ok (.agg #[.string ⟨#[115, 101, 116]⟩, .bool true, .bool false, .bool false, .int .i64 1]) W := fun _ => by kernel_rfl
  have HO := fun W => ops_c W
  go_enter Tryz.func150, Tryz.ntmps150
  go_wp2_with (go_at_call 301; refine (HO _).mono ?_; rintro e w' ⟨rfl, b1⟩; have hx := below_has b1 (heap_alloc_new w _); have c0 := has_cell 0 hx rfl; have c1 := has_cell 1 hx rfl; have c2 := has_cell 2 hx rfl; have c3 := has_cell 3 hx rfl; have c4 := has_cell 4 hx rfl; have f0 := has_free hx 0; have f1 := has_free hx 1; have f2 := has_free hx 2; have f3 := has_free hx 3; have f4 := has_free hx 4; have HX := Lib.hid hx; have HB := Lib.hid b1; clear hx b1)
  have U := (((((Upd.refl HX.out).setCell 0 (.string ⟨#[115, 101, 116]⟩)).setCell 1 (.bool true)).setCell 2 (.bool false)).setCell 3 (.bool false)).setCell 4 (.int .i64 1)
  have U2 := U.to (o' := .cells op1 338 (0, 0)) rfl
  have hr := has_range U2.1 op1.toList 0 (by intro j hj; simp)
  have hb : Below w.heap.size w _ := (((Below.refl w.heap.size w).alloc (Nat.le_refl _) _).trans (HB.out.mono (by simp))).trans (U.below (Nat.le_refl _) (by have := HB.out.size; simp at this; omega))
  refine bodyPost_ret (v := .tuple #[.agg op1, .bool true]) ?_ rfl ⟨rfl, hb⟩
  have hload := run_loadVar_mid (P := Tryz.prog) _ _ _ 338 _ _ hr Tryz.underlying338 rfl (by kernel_rfl)
  simp [results, Tryz.f150, hload, asAddr, op1]
def op3 : Array Value := #[.string ⟨#[97, 100, 100]⟩, .bool true, .bool true, .bool true, .int .i64 0]
set_option maxRecDepth 100000 in
theorem of_3 (w : World) : Calls Tryz.prog 150 #[.int .i64 3] w fun e w' => e = .returned (.tuple #[.agg op3, .bool true]) ∧ Below w.heap.size w w' := by
  have hix : ∀ W : World, (Instr.index 412 (.agg opsL.toArray) (.int .i64 3)).run Tryz.prog W = .ok (.agg #[.string ⟨#[97, 100, 100]⟩, .bool true, .bool true, .bool true, .int .i64 0]) W := fun _ => by kernel_rfl
  have HO := fun W => ops_c W
  go_enter Tryz.func150, Tryz.ntmps150
  go_wp2_with (go_at_call 301; refine (HO _).mono ?_; rintro e w' ⟨rfl, b1⟩; have hx := below_has b1 (heap_alloc_new w _); have c0 := has_cell 0 hx rfl; have c1 := has_cell 1 hx rfl; have c2 := has_cell 2 hx rfl; have c3 := has_cell 3 hx rfl; have c4 := has_cell 4 hx rfl; have f0 := has_free hx 0; have f1 := has_free hx 1; have f2 := has_free hx 2; have f3 := has_free hx 3; have f4 := has_free hx 4; have HX := Lib.hid hx; have HB := Lib.hid b1; clear hx b1)
  have U := (((((Upd.refl HX.out).setCell 0 (.string ⟨#[97, 100, 100]⟩)).setCell 1 (.bool true)).setCell 2 (.bool true)).setCell 3 (.bool true)).setCell 4 (.int .i64 0)
  have U2 := U.to (o' := .cells op3 338 (0, 0)) rfl
  have hr := has_range U2.1 op3.toList 0 (by intro j hj; simp)
  have hb : Below w.heap.size w _ := (((Below.refl w.heap.size w).alloc (Nat.le_refl _) _).trans (HB.out.mono (by simp))).trans (U.below (Nat.le_refl _) (by have := HB.out.size; simp at this; omega))
  refine bodyPost_ret (v := .tuple #[.agg op3, .bool true]) ?_ rfl ⟨rfl, hb⟩
  have hload := run_loadVar_mid (P := Tryz.prog) _ _ _ 338 _ _ hr Tryz.underlying338 rfl (by kernel_rfl)
  simp [results, Tryz.f150, hload, asAddr, op3]
def op5 : Array Value := #[.string ⟨#[106, 117, 109, 112]⟩, .bool false, .bool false, .bool false, .int .i64 2]
set_option maxRecDepth 100000 in
theorem of_5 (w : World) : Calls Tryz.prog 150 #[.int .i64 5] w fun e w' => e = .returned (.tuple #[.agg op5, .bool true]) ∧ Below w.heap.size w w' := by
  have hix : ∀ W : World, (Instr.index 412 (.agg opsL.toArray) (.int .i64 5)).run Tryz.prog W = .ok (.agg #[.string ⟨#[106, 117, 109, 112]⟩, .bool false, .bool false, .bool false, .int .i64 2]) W := fun _ => by kernel_rfl
  have HO := fun W => ops_c W
  go_enter Tryz.func150, Tryz.ntmps150
  go_wp2_with (go_at_call 301; refine (HO _).mono ?_; rintro e w' ⟨rfl, b1⟩; have hx := below_has b1 (heap_alloc_new w _); have c0 := has_cell 0 hx rfl; have c1 := has_cell 1 hx rfl; have c2 := has_cell 2 hx rfl; have c3 := has_cell 3 hx rfl; have c4 := has_cell 4 hx rfl; have f0 := has_free hx 0; have f1 := has_free hx 1; have f2 := has_free hx 2; have f3 := has_free hx 3; have f4 := has_free hx 4; have HX := Lib.hid hx; have HB := Lib.hid b1; clear hx b1)
  have U := (((((Upd.refl HX.out).setCell 0 (.string ⟨#[106, 117, 109, 112]⟩)).setCell 1 (.bool false)).setCell 2 (.bool false)).setCell 3 (.bool false)).setCell 4 (.int .i64 2)
  have U2 := U.to (o' := .cells op5 338 (0, 0)) rfl
  have hr := has_range U2.1 op5.toList 0 (by intro j hj; simp)
  have hb : Below w.heap.size w _ := (((Below.refl w.heap.size w).alloc (Nat.le_refl _) _).trans (HB.out.mono (by simp))).trans (U.below (Nat.le_refl _) (by have := HB.out.size; simp at this; omega))
  refine bodyPost_ret (v := .tuple #[.agg op5, .bool true]) ?_ rfl ⟨rfl, hb⟩
  have hload := run_loadVar_mid (P := Tryz.prog) _ _ _ 338 _ _ hr Tryz.underlying338 rfl (by kernel_rfl)
  simp [results, Tryz.f150, hload, asAddr, op5]
def op7 : Array Value := #[.string ⟨#[99, 97, 108, 108]⟩, .bool false, .bool false, .bool false, .int .i64 3]
set_option maxRecDepth 100000 in
theorem of_7 (w : World) : Calls Tryz.prog 150 #[.int .i64 7] w fun e w' => e = .returned (.tuple #[.agg op7, .bool true]) ∧ Below w.heap.size w w' := by
  have hix : ∀ W : World, (Instr.index 412 (.agg opsL.toArray) (.int .i64 7)).run Tryz.prog W = .ok (.agg #[.string ⟨#[99, 97, 108, 108]⟩, .bool false, .bool false, .bool false, .int .i64 3]) W := fun _ => by kernel_rfl
  have HO := fun W => ops_c W
  go_enter Tryz.func150, Tryz.ntmps150
  go_wp2_with (go_at_call 301; refine (HO _).mono ?_; rintro e w' ⟨rfl, b1⟩; have hx := below_has b1 (heap_alloc_new w _); have c0 := has_cell 0 hx rfl; have c1 := has_cell 1 hx rfl; have c2 := has_cell 2 hx rfl; have c3 := has_cell 3 hx rfl; have c4 := has_cell 4 hx rfl; have f0 := has_free hx 0; have f1 := has_free hx 1; have f2 := has_free hx 2; have f3 := has_free hx 3; have f4 := has_free hx 4; have HX := Lib.hid hx; have HB := Lib.hid b1; clear hx b1)
  have U := (((((Upd.refl HX.out).setCell 0 (.string ⟨#[99, 97, 108, 108]⟩)).setCell 1 (.bool false)).setCell 2 (.bool false)).setCell 3 (.bool false)).setCell 4 (.int .i64 3)
  have U2 := U.to (o' := .cells op7 338 (0, 0)) rfl
  have hr := has_range U2.1 op7.toList 0 (by intro j hj; simp)
  have hb : Below w.heap.size w _ := (((Below.refl w.heap.size w).alloc (Nat.le_refl _) _).trans (HB.out.mono (by simp))).trans (U.below (Nat.le_refl _) (by have := HB.out.size; simp at this; omega))
  refine bodyPost_ret (v := .tuple #[.agg op7, .bool true]) ?_ rfl ⟨rfl, hb⟩
  have hload := run_loadVar_mid (P := Tryz.prog) _ _ _ 338 _ _ hr Tryz.underlying338 rfl (by kernel_rfl)
  simp [results, Tryz.f150, hload, asAddr, op7]
def op8 : Array Value := #[.string ⟨#[110, 111, 116, 101]⟩, .bool false, .bool true, .bool false, .int .i64 0]
set_option maxRecDepth 100000 in
theorem of_8 (w : World) : Calls Tryz.prog 150 #[.int .i64 8] w fun e w' => e = .returned (.tuple #[.agg op8, .bool true]) ∧ Below w.heap.size w w' := by
  have hix : ∀ W : World, (Instr.index 412 (.agg opsL.toArray) (.int .i64 8)).run Tryz.prog W = .ok (.agg #[.string ⟨#[110, 111, 116, 101]⟩, .bool false, .bool true, .bool false, .int .i64 0]) W := fun _ => by kernel_rfl
  have HO := fun W => ops_c W
  go_enter Tryz.func150, Tryz.ntmps150
  go_wp2_with (go_at_call 301; refine (HO _).mono ?_; rintro e w' ⟨rfl, b1⟩; have hx := below_has b1 (heap_alloc_new w _); have c0 := has_cell 0 hx rfl; have c1 := has_cell 1 hx rfl; have c2 := has_cell 2 hx rfl; have c3 := has_cell 3 hx rfl; have c4 := has_cell 4 hx rfl; have f0 := has_free hx 0; have f1 := has_free hx 1; have f2 := has_free hx 2; have f3 := has_free hx 3; have f4 := has_free hx 4; have HX := Lib.hid hx; have HB := Lib.hid b1; clear hx b1)
  have U := (((((Upd.refl HX.out).setCell 0 (.string ⟨#[110, 111, 116, 101]⟩)).setCell 1 (.bool false)).setCell 2 (.bool true)).setCell 3 (.bool false)).setCell 4 (.int .i64 0)
  have U2 := U.to (o' := .cells op8 338 (0, 0)) rfl
  have hr := has_range U2.1 op8.toList 0 (by intro j hj; simp)
  have hb : Below w.heap.size w _ := (((Below.refl w.heap.size w).alloc (Nat.le_refl _) _).trans (HB.out.mono (by simp))).trans (U.below (Nat.le_refl _) (by have := HB.out.size; simp at this; omega))
  refine bodyPost_ret (v := .tuple #[.agg op8, .bool true]) ?_ rfl ⟨rfl, hb⟩
  have hload := run_loadVar_mid (P := Tryz.prog) _ _ _ 338 _ _ hr Tryz.underlying338 rfl (by kernel_rfl)
  simp [results, Tryz.f150, hload, asAddr, op8]
end Go.Proofs.YtagmlijhgncklaaGreatDoor.Code
namespace Go.Proofs.YtagmlijhgncklaaGreatDoor.Code
open Go.RowKit Go.Proofs.YtagmlijhgncklaaGreatDoor

/-- A register's number where one is named; 0 where none is. -/
def RegOk (yes : Bool) (n : Int) : Prop := (yes = true ∧ 0 ≤ n ∧ n ≤ 7) ∨ (yes = false ∧ n = 0)
theorem reg1_c (w : World) (yes : Bool) (n : Int) (h : RegOk yes n) : Calls Tryz.prog 321 #[.int .i64 n, .bool yes] w fun e w' => e = .returned (.bool true) ∧ w = w' := by
  rcases h with ⟨rfl, h0, h7⟩ | ⟨rfl, rfl⟩
  · have d0 : decide (0 ≤ n) = true := by simp; omega
    have d7 : decide (n ≤ 7) = true := by simp; omega
    go_enter Tryz.func321, Tryz.ntmps321
    go_wp2
    go_ret
    exact ⟨by simp [*], rfl⟩
  · go_enter Tryz.func321, Tryz.ntmps321
    go_wp2
    go_ret
    exact ⟨rfl, rfl⟩
set_option maxRecDepth 100000 in
theorem registers_c (w : World) (op d a b imm im : Int) (s : ByteArray) (fd fa fb : Bool) (hd : RegOk fd d) (ha : RegOk fa a) (hb : RegOk fb b) : Calls Tryz.prog 171 #[.agg #[.int .i64 op, .int .i64 d, .int .i64 a, .int .i64 b, .int .i64 imm], .agg #[.string s, .bool fd, .bool fa, .bool fb, .int .i64 im]] w fun e w' => e = .returned (.bool true) ∧ Below w.heap.size w w' := by
  have HD := fun W => reg1_c W fd d hd
  have HA := fun W => reg1_c W fa a ha
  have HB := fun W => reg1_c W fb b hb
  clear hd ha hb
  go_enter Tryz.func171, Tryz.ntmps171
  go_wp2_with (go_at_call 321; first | ((with_reducible refine (HD _).mono ?_); rintro e w' ⟨rfl, rfl⟩) | ((with_reducible refine (HA _).mono ?_); rintro e w' ⟨rfl, rfl⟩) | ((with_reducible refine (HB _).mono ?_); rintro e w' ⟨rfl, rfl⟩))
  go_ret
  exact ⟨rfl, ((Below.refl w.heap.size w).alloc (Nat.le_refl _) _).alloc (by simp) _⟩
end Go.Proofs.YtagmlijhgncklaaGreatDoor.Code
namespace Go.Proofs.YtagmlijhgncklaaGreatDoor.Code
open Go.RowKit Go.Proofs.YtagmlijhgncklaaGreatDoor

set_option maxRecDepth 100000 in
theorem may_1 (w : World) (d a b imm n : Int) (hd : RegOk true d) (ha : RegOk false a) (hb : RegOk false b) : Calls Tryz.prog 97 #[.agg #[.int .i64 1, .int .i64 d, .int .i64 a, .int .i64 b, .int .i64 imm], .int .i64 n] w fun e w' => e = .returned (.bool true) ∧ Below w.heap.size w w' := by
  have HR := fun W => registers_c W 1 d a b imm 1 ⟨#[115, 101, 116]⟩ true false false hd ha hb
  have HO := fun W => of_1 W
  simp only [op1] at HO
  clear hd ha hb
  go_enter Tryz.func97, Tryz.ntmps97
  go_upto_region 2 with (go_at_call 150; refine (HO _).mono ?_; rintro e w1 ⟨rfl, b1⟩; have hx := below_has b1 (heap_alloc_new w _))
  have HX := Lib.hid hx
  have bb : Below w.heap.size w w1 := ((Below.refl w.heap.size w).alloc (Nat.le_refl _) _).trans (b1.mono (by simp))
  have B1 := Lib.hid bb
  clear hx b1 bb HO
  refine world_wp (fun W => ∃ y, y = w1.heap.size ∧ W.heap[w.heap.size]? = some (.cells #[.int .i64 1, .int .i64 d, .int .i64 a, .int .i64 b, .int .i64 imm] 29 (0, 0)) ∧ W.heap[y]? = some (.cells #[.string ⟨#[115, 101, 116]⟩, .bool true, .bool false, .bool false, .int .i64 1] 338 (0, 0)) ∧ Below w.heap.size w W) ⟨_, rfl, below_alloc_has HX.out, heap_alloc_new w1 _, B1.out.alloc B1.out.size _⟩ ?_
  clear HX B1
  rintro V ⟨y, hy, x2, y2, b2⟩
  rw [← hy]
  clear hy
  have p0 := has_cell 0 x2 rfl
  have p1 := has_cell 1 x2 rfl
  have p2 := has_cell 2 x2 rfl
  have p3 := has_cell 3 x2 rfl
  have p4 := has_cell 4 x2 rfl
  have q0 := has_cell 0 y2 rfl
  have q1 := has_cell 1 y2 rfl
  have q2 := has_cell 2 y2 rfl
  have q3 := has_cell 3 y2 rfl
  have q4 := has_cell 4 y2 rfl
  have X2 := Lib.hid x2
  have Y2 := Lib.hid y2
  have B2 := Lib.hid b2
  clear x2 y2 b2
  go_upto_region 4 with (go_at_call 171; refine (HR _).mono ?_; rintro e w3 ⟨rfl, b3⟩)
  have e4 : w3.cell? ⟨w.heap.size, 4, none⟩ = some (.int .i64 imm) := has_cell 4 (below_has b3 X2.out) rfl
  have f4 : w3.cell? ⟨y, 4, none⟩ = some (.int .i64 1) := has_cell 4 (below_has b3 Y2.out) rfl
  have B3 := Lib.hid (B2.out.trans (b3.mono B2.out.size))
  clear b3 p0 p1 p2 p3 p4 q0 q1 q2 q3 q4
  go_wp2
  go_ret
  exact ⟨by simp [*], B3.out⟩
set_option maxRecDepth 100000 in
theorem may_3 (w : World) (d a b n : Int) (hd : RegOk true d) (ha : RegOk true a) (hb : RegOk true b) : Calls Tryz.prog 97 #[.agg #[.int .i64 3, .int .i64 d, .int .i64 a, .int .i64 b, .int .i64 0], .int .i64 n] w fun e w' => e = .returned (.bool true) ∧ Below w.heap.size w w' := by
  have HR := fun W => registers_c W 3 d a b 0 0 ⟨#[97, 100, 100]⟩ true true true hd ha hb
  have HO := fun W => of_3 W
  simp only [op3] at HO
  clear hd ha hb
  go_enter Tryz.func97, Tryz.ntmps97
  go_upto_region 2 with (go_at_call 150; refine (HO _).mono ?_; rintro e w1 ⟨rfl, b1⟩; have hx := below_has b1 (heap_alloc_new w _))
  have HX := Lib.hid hx
  have bb : Below w.heap.size w w1 := ((Below.refl w.heap.size w).alloc (Nat.le_refl _) _).trans (b1.mono (by simp))
  have B1 := Lib.hid bb
  clear hx b1 bb HO
  refine world_wp (fun W => ∃ y, y = w1.heap.size ∧ W.heap[w.heap.size]? = some (.cells #[.int .i64 3, .int .i64 d, .int .i64 a, .int .i64 b, .int .i64 0] 29 (0, 0)) ∧ W.heap[y]? = some (.cells #[.string ⟨#[97, 100, 100]⟩, .bool true, .bool true, .bool true, .int .i64 0] 338 (0, 0)) ∧ Below w.heap.size w W) ⟨_, rfl, below_alloc_has HX.out, heap_alloc_new w1 _, B1.out.alloc B1.out.size _⟩ ?_
  clear HX B1
  rintro V ⟨y, hy, x2, y2, b2⟩
  rw [← hy]
  clear hy
  have p0 := has_cell 0 x2 rfl
  have p1 := has_cell 1 x2 rfl
  have p2 := has_cell 2 x2 rfl
  have p3 := has_cell 3 x2 rfl
  have p4 := has_cell 4 x2 rfl
  have q0 := has_cell 0 y2 rfl
  have q1 := has_cell 1 y2 rfl
  have q2 := has_cell 2 y2 rfl
  have q3 := has_cell 3 y2 rfl
  have q4 := has_cell 4 y2 rfl
  have X2 := Lib.hid x2
  have Y2 := Lib.hid y2
  have B2 := Lib.hid b2
  clear x2 y2 b2
  go_upto_region 4 with (go_at_call 171; refine (HR _).mono ?_; rintro e w3 ⟨rfl, b3⟩)
  have e4 : w3.cell? ⟨w.heap.size, 4, none⟩ = some (.int .i64 0) := has_cell 4 (below_has b3 X2.out) rfl
  have f4 : w3.cell? ⟨y, 4, none⟩ = some (.int .i64 0) := has_cell 4 (below_has b3 Y2.out) rfl
  have B3 := Lib.hid (B2.out.trans (b3.mono B2.out.size))
  clear b3 p0 p1 p2 p3 p4 q0 q1 q2 q3 q4
  go_wp2
  go_ret
  exact ⟨by simp [*], B3.out⟩
set_option maxRecDepth 100000 in
theorem may_5 (w : World) (d a b imm n : Int) (hd : RegOk false d) (ha : RegOk false a) (hb : RegOk false b) (hi0 : 0 ≤ imm) (hi1 : imm ≤ n) : Calls Tryz.prog 97 #[.agg #[.int .i64 5, .int .i64 d, .int .i64 a, .int .i64 b, .int .i64 imm], .int .i64 n] w fun e w' => e = .returned (.bool true) ∧ Below w.heap.size w w' := by
  have HR := fun W => registers_c W 5 d a b imm 2 ⟨#[106, 117, 109, 112]⟩ false false false hd ha hb
  have HO := fun W => of_5 W
  simp only [op5] at HO
  have d0 : decide (0 ≤ imm) = true := by simp; omega
  have d1 : decide (imm ≤ n) = true := by simp; omega
  clear hd ha hb
  go_enter Tryz.func97, Tryz.ntmps97
  go_upto_region 2 with (go_at_call 150; refine (HO _).mono ?_; rintro e w1 ⟨rfl, b1⟩; have hx := below_has b1 (heap_alloc_new w _))
  have HX := Lib.hid hx
  have bb : Below w.heap.size w w1 := ((Below.refl w.heap.size w).alloc (Nat.le_refl _) _).trans (b1.mono (by simp))
  have B1 := Lib.hid bb
  clear hx b1 bb HO
  refine world_wp (fun W => ∃ y, y = w1.heap.size ∧ W.heap[w.heap.size]? = some (.cells #[.int .i64 5, .int .i64 d, .int .i64 a, .int .i64 b, .int .i64 imm] 29 (0, 0)) ∧ W.heap[y]? = some (.cells #[.string ⟨#[106, 117, 109, 112]⟩, .bool false, .bool false, .bool false, .int .i64 2] 338 (0, 0)) ∧ Below w.heap.size w W) ⟨_, rfl, below_alloc_has HX.out, heap_alloc_new w1 _, B1.out.alloc B1.out.size _⟩ ?_
  clear HX B1
  rintro V ⟨y, hy, x2, y2, b2⟩
  rw [← hy]
  clear hy
  have p0 := has_cell 0 x2 rfl
  have p1 := has_cell 1 x2 rfl
  have p2 := has_cell 2 x2 rfl
  have p3 := has_cell 3 x2 rfl
  have p4 := has_cell 4 x2 rfl
  have q0 := has_cell 0 y2 rfl
  have q1 := has_cell 1 y2 rfl
  have q2 := has_cell 2 y2 rfl
  have q3 := has_cell 3 y2 rfl
  have q4 := has_cell 4 y2 rfl
  have X2 := Lib.hid x2
  have Y2 := Lib.hid y2
  have B2 := Lib.hid b2
  clear x2 y2 b2
  go_upto_region 4 with (go_at_call 171; refine (HR _).mono ?_; rintro e w3 ⟨rfl, b3⟩)
  have e4 : w3.cell? ⟨w.heap.size, 4, none⟩ = some (.int .i64 imm) := has_cell 4 (below_has b3 X2.out) rfl
  have f4 : w3.cell? ⟨y, 4, none⟩ = some (.int .i64 2) := has_cell 4 (below_has b3 Y2.out) rfl
  have B3 := Lib.hid (B2.out.trans (b3.mono B2.out.size))
  clear b3 p0 p1 p2 p3 p4 q0 q1 q2 q3 q4
  go_wp2
  go_ret
  exact ⟨by simp [*], B3.out⟩
set_option maxRecDepth 100000 in
theorem may_7 (w : World) (d a b imm n : Int) (hd : RegOk false d) (ha : RegOk false a) (hb : RegOk false b) (hi0 : 0 ≤ imm) (hi1 : imm ≤ 255) : Calls Tryz.prog 97 #[.agg #[.int .i64 7, .int .i64 d, .int .i64 a, .int .i64 b, .int .i64 imm], .int .i64 n] w fun e w' => e = .returned (.bool true) ∧ Below w.heap.size w w' := by
  have HR := fun W => registers_c W 7 d a b imm 3 ⟨#[99, 97, 108, 108]⟩ false false false hd ha hb
  have HO := fun W => of_7 W
  simp only [op7] at HO
  have d0 : decide (0 ≤ imm) = true := by simp; omega
  have d1 : decide (imm ≤ 255) = true := by simp; omega
  clear hd ha hb
  go_enter Tryz.func97, Tryz.ntmps97
  go_upto_region 2 with (go_at_call 150; refine (HO _).mono ?_; rintro e w1 ⟨rfl, b1⟩; have hx := below_has b1 (heap_alloc_new w _))
  have HX := Lib.hid hx
  have bb : Below w.heap.size w w1 := ((Below.refl w.heap.size w).alloc (Nat.le_refl _) _).trans (b1.mono (by simp))
  have B1 := Lib.hid bb
  clear hx b1 bb HO
  refine world_wp (fun W => ∃ y, y = w1.heap.size ∧ W.heap[w.heap.size]? = some (.cells #[.int .i64 7, .int .i64 d, .int .i64 a, .int .i64 b, .int .i64 imm] 29 (0, 0)) ∧ W.heap[y]? = some (.cells #[.string ⟨#[99, 97, 108, 108]⟩, .bool false, .bool false, .bool false, .int .i64 3] 338 (0, 0)) ∧ Below w.heap.size w W) ⟨_, rfl, below_alloc_has HX.out, heap_alloc_new w1 _, B1.out.alloc B1.out.size _⟩ ?_
  clear HX B1
  rintro V ⟨y, hy, x2, y2, b2⟩
  rw [← hy]
  clear hy
  have p0 := has_cell 0 x2 rfl
  have p1 := has_cell 1 x2 rfl
  have p2 := has_cell 2 x2 rfl
  have p3 := has_cell 3 x2 rfl
  have p4 := has_cell 4 x2 rfl
  have q0 := has_cell 0 y2 rfl
  have q1 := has_cell 1 y2 rfl
  have q2 := has_cell 2 y2 rfl
  have q3 := has_cell 3 y2 rfl
  have q4 := has_cell 4 y2 rfl
  have X2 := Lib.hid x2
  have Y2 := Lib.hid y2
  have B2 := Lib.hid b2
  clear x2 y2 b2
  go_upto_region 4 with (go_at_call 171; refine (HR _).mono ?_; rintro e w3 ⟨rfl, b3⟩)
  have e4 : w3.cell? ⟨w.heap.size, 4, none⟩ = some (.int .i64 imm) := has_cell 4 (below_has b3 X2.out) rfl
  have f4 : w3.cell? ⟨y, 4, none⟩ = some (.int .i64 3) := has_cell 4 (below_has b3 Y2.out) rfl
  have B3 := Lib.hid (B2.out.trans (b3.mono B2.out.size))
  clear b3 p0 p1 p2 p3 p4 q0 q1 q2 q3 q4
  go_wp2
  go_ret
  exact ⟨by simp [*], B3.out⟩
set_option maxRecDepth 100000 in
theorem may_8 (w : World) (d a b n : Int) (hd : RegOk false d) (ha : RegOk true a) (hb : RegOk false b) : Calls Tryz.prog 97 #[.agg #[.int .i64 8, .int .i64 d, .int .i64 a, .int .i64 b, .int .i64 0], .int .i64 n] w fun e w' => e = .returned (.bool true) ∧ Below w.heap.size w w' := by
  have HR := fun W => registers_c W 8 d a b 0 0 ⟨#[110, 111, 116, 101]⟩ false true false hd ha hb
  have HO := fun W => of_8 W
  simp only [op8] at HO
  clear hd ha hb
  go_enter Tryz.func97, Tryz.ntmps97
  go_upto_region 2 with (go_at_call 150; refine (HO _).mono ?_; rintro e w1 ⟨rfl, b1⟩; have hx := below_has b1 (heap_alloc_new w _))
  have HX := Lib.hid hx
  have bb : Below w.heap.size w w1 := ((Below.refl w.heap.size w).alloc (Nat.le_refl _) _).trans (b1.mono (by simp))
  have B1 := Lib.hid bb
  clear hx b1 bb HO
  refine world_wp (fun W => ∃ y, y = w1.heap.size ∧ W.heap[w.heap.size]? = some (.cells #[.int .i64 8, .int .i64 d, .int .i64 a, .int .i64 b, .int .i64 0] 29 (0, 0)) ∧ W.heap[y]? = some (.cells #[.string ⟨#[110, 111, 116, 101]⟩, .bool false, .bool true, .bool false, .int .i64 0] 338 (0, 0)) ∧ Below w.heap.size w W) ⟨_, rfl, below_alloc_has HX.out, heap_alloc_new w1 _, B1.out.alloc B1.out.size _⟩ ?_
  clear HX B1
  rintro V ⟨y, hy, x2, y2, b2⟩
  rw [← hy]
  clear hy
  have p0 := has_cell 0 x2 rfl
  have p1 := has_cell 1 x2 rfl
  have p2 := has_cell 2 x2 rfl
  have p3 := has_cell 3 x2 rfl
  have p4 := has_cell 4 x2 rfl
  have q0 := has_cell 0 y2 rfl
  have q1 := has_cell 1 y2 rfl
  have q2 := has_cell 2 y2 rfl
  have q3 := has_cell 3 y2 rfl
  have q4 := has_cell 4 y2 rfl
  have X2 := Lib.hid x2
  have Y2 := Lib.hid y2
  have B2 := Lib.hid b2
  clear x2 y2 b2
  go_upto_region 4 with (go_at_call 171; refine (HR _).mono ?_; rintro e w3 ⟨rfl, b3⟩)
  have e4 : w3.cell? ⟨w.heap.size, 4, none⟩ = some (.int .i64 0) := has_cell 4 (below_has b3 X2.out) rfl
  have f4 : w3.cell? ⟨y, 4, none⟩ = some (.int .i64 0) := has_cell 4 (below_has b3 Y2.out) rfl
  have B3 := Lib.hid (B2.out.trans (b3.mono B2.out.size))
  clear b3 p0 p1 p2 p3 p4 q0 q1 q2 q3 q4
  go_wp2
  go_ret
  exact ⟨by simp [*], B3.out⟩
end Go.Proofs.YtagmlijhgncklaaGreatDoor.Code
namespace Go.Proofs.YtagmlijhgncklaaGreatDoor.Code
open Go.RowKit Go.Proofs.YtagmlijhgncklaaGreatDoor

structure Ins where
  op : Int
  d : Int
  a : Int
  b : Int
  imm : Int
def Ins.cells (i : Ins) : List Value := [.int .i64 i.op, .int .i64 i.d, .int .i64 i.a, .int .i64 i.b, .int .i64 i.imm]
def Ins.val (i : Ins) : Value := .agg #[.int .i64 i.op, .int .i64 i.d, .int .i64 i.a, .int .i64 i.b, .int .i64 i.imm]
/-- A right instruction of a program of n: a set, an add, a jump, a call, a note. -/
def Ins.Ok (n : Int) (i : Ins) : Prop :=
  (i.op = 1 ∧ RegOk true i.d ∧ RegOk false i.a ∧ RegOk false i.b) ∨ (i.op = 3 ∧ RegOk true i.d ∧ RegOk true i.a ∧ RegOk true i.b ∧ i.imm = 0) ∨
  (i.op = 5 ∧ RegOk false i.d ∧ RegOk false i.a ∧ RegOk false i.b ∧ 0 ≤ i.imm ∧ i.imm ≤ n) ∨ (i.op = 7 ∧ RegOk false i.d ∧ RegOk false i.a ∧ RegOk false i.b ∧ 0 ≤ i.imm ∧ i.imm ≤ 255) ∨
  (i.op = 8 ∧ RegOk false i.d ∧ RegOk true i.a ∧ RegOk false i.b ∧ i.imm = 0)
theorem may_c (w : World) (i : Ins) (n : Int) (h : i.Ok n) : Calls Tryz.prog 97 #[i.val, .int .i64 n] w fun e w' => e = .returned (.bool true) ∧ Below w.heap.size w w' := by
  obtain ⟨op, d, a, b, imm⟩ := i
  rcases h with ⟨h, hd, ha, hb⟩ | ⟨h, hd, ha, hb, hi⟩ | ⟨h, hd, ha, hb, h0, h1⟩ | ⟨h, hd, ha, hb, h0, h1⟩ | ⟨h, hd, ha, hb, hi⟩
  · simp only at h; subst h; exact may_1 w d a b imm n hd ha hb
  · simp only at h hi; subst h; subst hi; exact may_3 w d a b n hd ha hb
  · simp only at h; subst h; exact may_5 w d a b imm n hd ha hb h0 h1
  · simp only at h; subst h; exact may_7 w d a b imm n hd ha hb h0 h1
  · simp only at h hi; subst h; subst hi; exact may_8 w d a b n hd ha hb
/-- A program in memory: block p holds its instructions, one behind the other. -/
def PrgH (w : World) (p : Nat) (L : List Ins) : Prop := ∃ cs : List Value, w.heap[p]? = some (.cells cs.toArray 29 (0, 0)) ∧ ∀ k (i : Ins), L[k]? = some i → ∀ j, j < 5 → cs[k * 5 + j]? = i.cells[j]?
theorem PrgH.reads {w w' : World} {p : Nat} {L : List Ins} (h : PrgH w p L) (k : Below w.heap.size w w') : PrgH w' p L := by
  obtain ⟨cs, h1, h2⟩ := h
  exact ⟨cs, below_has k h1, h2⟩
theorem PrgH.cell {w : World} {p : Nat} {L : List Ins} (h : PrgH w p L) (k : Nat) (i : Ins) (hk : L[k]? = some i) :
    w.cell? ⟨p, k * 5, none⟩ = some (.int .i64 i.op) ∧ w.cell? ⟨p, k * 5 + 1, none⟩ = some (.int .i64 i.d) ∧ w.cell? ⟨p, k * 5 + 2, none⟩ = some (.int .i64 i.a) ∧ w.cell? ⟨p, k * 5 + 3, none⟩ = some (.int .i64 i.b) ∧ w.cell? ⟨p, k * 5 + 4, none⟩ = some (.int .i64 i.imm) := by
  obtain ⟨cs, h1, h2⟩ := h
  have g := h2 k i hk
  exact ⟨has_cell _ h1 (by simpa [Ins.cells] using g 0 (by omega)), has_cell _ h1 (by simpa [Ins.cells] using g 1 (by omega)), has_cell _ h1 (by simpa [Ins.cells] using g 2 (by omega)), has_cell _ h1 (by simpa [Ins.cells] using g 3 (by omega)), has_cell _ h1 (by simpa [Ins.cells] using g 4 (by omega))⟩
theorem check1_c (w : World) (i : Ins) (x : Nat) (pv : Option Addr) (len cap : Nat) (hx : w.heap[x]? = some (.cells #[.slice pv len cap] 24 (0, 0))) (h : i.Ok len) : Calls Tryz.prog 96 #[i.val, .pointer (some ⟨x, 0, none⟩)] w fun e w' => e = .returned (.bool false) ∧ Below w.heap.size w w' := by
  have HM := fun W => may_c W i len h
  have hx2 := below_alloc_has (o := .cells #[.int .i64 i.op, .int .i64 i.d, .int .i64 i.a, .int .i64 i.b, .int .i64 i.imm] 29) hx
  have c0 : (w.alloc (.cells #[.int .i64 i.op, .int .i64 i.d, .int .i64 i.a, .int .i64 i.b, .int .i64 i.imm] 29)).cell? ⟨x, 0, none⟩ = some (.slice pv len cap) := has_cell 0 hx2 rfl
  unfold Ins.val at *
  clear h hx hx2
  go_enter Tryz.func96, Tryz.ntmps96
  go_wp2_with (go_at_call 97; refine (HM _).mono ?_; rintro e w' ⟨rfl, b⟩)
  go_ret
  exact ⟨rfl, ((Below.refl w.heap.size w).alloc (Nat.le_refl _) _).trans (Below.mono (by assumption) (by simp))⟩
end Go.Proofs.YtagmlijhgncklaaGreatDoor.Code
namespace Go.Proofs.YtagmlijhgncklaaGreatDoor.Code
open Go.RowKit Go.Proofs.YtagmlijhgncklaaGreatDoor

set_option maxRecDepth 100000 in
theorem index95_c (w : World) (x p : Nat) (L : List Ins) (cap : Nat) (hx : w.heap[x]? = some (.cells #[.slice (some ⟨p, 0, none⟩) L.length cap] 24 (0, 0))) (hP : PrgH w p L) (hok : ∀ i ∈ L, i.Ok L.length) (hl : L.length ≤ 256) : Calls Tryz.prog 95 #[.slice (some ⟨p, 0, none⟩) L.length cap, .func (.func 96) #[] #[.pointer (some ⟨x, 0, none⟩)]] w fun e w' => e = .returned (.int .i64 (-1)) ∧ Below w.heap.size w w' := by
  have HX := Lib.hid hx
  have HP := Lib.hid hP
  have HO := Lib.hid hok
  clear hx hP hok
  go_enter Tryz.func95, Tryz.ntmps95
  go_wp2_with fail
  go_loopw [8] (fun i wr => ∃ j : Nat, i = .int .i64 j ∧ j ≤ L.length ∧ Below w.heap.size w wr) (fun i _ => L.length - (intOf i).toNat)
  case atStart => exact ⟨0, rfl, by omega, Below.refl _ _⟩
  case round =>
    obtain ⟨j, rfl, hj, hb⟩ := hrel
    by_cases hlt : j < L.length
    · obtain ⟨i, hi⟩ : ∃ i, L[j]? = some i := ⟨L[j], List.getElem?_eq_getElem hlt⟩
      obtain ⟨c0, c1, c2, c3, c4⟩ := (HP.out.reads hb).cell j i hi
      have HC := fun W hW => check1_c W i x (some ⟨p, 0, none⟩) L.length cap hW (HO.out i (List.mem_of_getElem? hi))
      have HXr := below_has hb HX.out
      have HI := Lib.hid hi
      have HBr := Lib.hid hb
      have HXR := Lib.hid HXr
      unfold Ins.val at HC
      clear hi hb HXr
      go_wp2_with (go_at_call 96; refine (HC _ HXR.out).mono ?_; rintro e w' ⟨rfl, b⟩; have HB2 := Lib.hid (HBr.out.trans (b.mono HBr.out.size)); clear b)
      go_roundw
      case rel => exact ⟨j + 1, by go_num, by omega, HB2.out⟩
      case measure => simp [intOf]; omega
    · obtain rfl : j = L.length := by omega
      go_wp2_with fail
      go_ret
      exact ⟨rfl, hb⟩
set_option maxRecDepth 100000 in
theorem check_c (w : World) (p : Nat) (L : List Ins) (cap : Nat) (hP : PrgH w p L) (hok : ∀ i ∈ L, i.Ok L.length) (hl : L.length ≤ 256) : Calls Tryz.prog 54 #[.slice (some ⟨p, 0, none⟩) L.length cap] w fun e w' => e = .returned (.tuple #[.int .i64 0, .int .i64 0]) ∧ Below w.heap.size w w' := by
  have hmf : ∀ (fn : Fn) (first cap : Array Value) (w : World), (Instr.makeFunc fn first cap).run Tryz.prog w = .ok (.func fn first cap) w := fun _ _ _ _ => rfl
  have b1 := (Below.refl w.heap.size w).alloc (Nat.le_refl _) (.cells #[.slice (some ⟨p, 0, none⟩) L.length cap] 24)
  have HI := index95_c (w.alloc (.cells #[.slice (some ⟨p, 0, none⟩) L.length cap] 24)) w.heap.size p L cap (heap_alloc_new w _) (hP.reads b1) hok hl
  have hx := heap_alloc_new w (.cells #[.slice (some ⟨p, 0, none⟩) L.length cap] 24)
  have d0 : decide ((256 : Int) < L.length) = false := by simp; omega
  have B1 := Lib.hid b1
  clear hP hok hx b1
  go_enter Tryz.func54, Tryz.ntmps54
  go_wp2_with (go_at_call 95; refine HI.mono ?_; rintro e w' ⟨rfl, b⟩)
  go_ret2
  exact ⟨rfl, B1.out.trans (Below.mono (by assumption) B1.out.size)⟩
set_option maxRecDepth 100000 in
theorem bad_c (w : World) (p : Nat) (L : List Ins) (cap : Nat) (hP : PrgH w p L) (hok : ∀ i ∈ L, i.Ok L.length) (hl : L.length ≤ 256) : Calls Tryz.prog 53 #[.slice (some ⟨p, 0, none⟩) L.length cap] w fun e w' => e = .returned (.bool false) ∧ Below w.heap.size w w' := by
  have HI := check_c w p L cap hP hok hl
  clear hP hok
  go_enter Tryz.func53, Tryz.ntmps53
  go_wp2_with (go_at_call 54; refine HI.mono ?_; rintro e w' ⟨rfl, b⟩)
  go_ret
  exact ⟨rfl, by assumption⟩
end Go.Proofs.YtagmlijhgncklaaGreatDoor.Code
namespace Go.Proofs.YtagmlijhgncklaaGreatDoor.Code
open Go.RowKit Go.Proofs.YtagmlijhgncklaaGreatDoor

/-- A program: its block, its instructions, the slice's capacity. -/
structure Prg where
  p : Nat
  L : List Ins
  cap : Nat
def Prg.val (x : Prg) : Value := .slice (some ⟨x.p, 0, none⟩) x.L.length x.cap
def Prg.Ok (x : Prg) : Prop := (∀ i ∈ x.L, i.Ok x.L.length) ∧ x.L.length ≤ 256
/-- Programs in memory: block q holds their slices. -/
def PgsH (w : World) (q : Nat) (PS : List Prg) : Prop := (∃ cs : List Value, w.heap[q]? = some (.cells cs.toArray 24 (0, 0)) ∧ ∀ (k : Nat) (x : Prg), PS[k]? = some x → cs[k]? = some x.val) ∧ ∀ x ∈ PS, PrgH w x.p x.L
theorem PgsH.reads {w w' : World} {q : Nat} {PS : List Prg} (h : PgsH w q PS) (k : Below w.heap.size w w') : PgsH w' q PS := by
  obtain ⟨⟨cs, h1, h2⟩, h3⟩ := h
  exact ⟨⟨cs, below_has k h1, h2⟩, fun x hx => (h3 x hx).reads k⟩
theorem PgsH.cell {w : World} {q : Nat} {PS : List Prg} (h : PgsH w q PS) (k : Nat) (x : Prg) (hk : PS[k]? = some x) : w.cell? ⟨q, k, none⟩ = some (.slice (some ⟨x.p, 0, none⟩) x.L.length x.cap) := by
  obtain ⟨⟨cs, h1, h2⟩, h3⟩ := h
  exact has_cell _ h1 (by simpa [Prg.val] using h2 k x hk)
set_option maxRecDepth 100000 in
theorem index98_c (w : World) (q : Nat) (PS : List Prg) (cap : Nat) (hP : PgsH w q PS) (hok : ∀ x ∈ PS, x.Ok) (hl : PS.length ≤ 32) : Calls Tryz.prog 98 #[.slice (some ⟨q, 0, none⟩) PS.length cap, .func (.func 53) #[] #[]] w fun e w' => e = .returned (.int .i64 (-1)) ∧ Below w.heap.size w w' := by
  have HP := Lib.hid hP
  have HO := Lib.hid hok
  clear hP hok
  go_enter Tryz.func98, Tryz.ntmps98
  go_wp2_with fail
  go_loopw [8] (fun i wr => ∃ j : Nat, i = .int .i64 j ∧ j ≤ PS.length ∧ Below w.heap.size w wr) (fun i _ => PS.length - (intOf i).toNat)
  case atStart => exact ⟨0, rfl, by omega, Below.refl _ _⟩
  case round =>
    obtain ⟨j, rfl, hj, hb⟩ := hrel
    by_cases hlt : j < PS.length
    · obtain ⟨x, hx⟩ : ∃ x, PS[j]? = some x := ⟨PS[j], List.getElem?_eq_getElem hlt⟩
      have c0 := (HP.out.reads hb).cell j x hx
      have hm := List.mem_of_getElem? hx
      have HC := fun W hW => bad_c W x.p x.L x.cap hW (HO.out x hm).1 (HO.out x hm).2
      have HPr := Lib.hid ((HP.out.reads hb).2 x hm)
      have HBr := Lib.hid hb
      clear hx hb hm
      go_wp2_with (go_at_call 53; refine (HC _ HPr.out).mono ?_; rintro e w' ⟨rfl, b⟩; have HB2 := Lib.hid (HBr.out.trans (b.mono HBr.out.size)); clear b)
      go_roundw
      case rel => exact ⟨j + 1, by go_num, by omega, HB2.out⟩
      case measure => simp [intOf]; omega
    · obtain rfl : j = PS.length := by omega
      go_wp2_with fail
      go_ret
      exact ⟨rfl, hb⟩
theorem contains55_c (w : World) (q : Nat) (PS : List Prg) (cap : Nat) (hP : PgsH w q PS) (hok : ∀ x ∈ PS, x.Ok) (hl : PS.length ≤ 32) : Calls Tryz.prog 55 #[.slice (some ⟨q, 0, none⟩) PS.length cap, .func (.func 53) #[] #[]] w fun e w' => e = .returned (.bool false) ∧ Below w.heap.size w w' := by
  have HI := index98_c w q PS cap hP hok hl
  clear hP hok
  go_enter Tryz.func55, Tryz.ntmps55
  go_wp2_with (go_at_call 98; refine HI.mono ?_; rintro e w' ⟨rfl, b⟩)
  go_ret
  exact ⟨rfl, by assumption⟩
theorem index99_nil (w : World) : Calls Tryz.prog 99 #[.slice none 0 0, .func (.func 57) #[] #[]] w fun e w' => e = .returned (.int .i64 (-1)) ∧ w = w' := by
  go_enter Tryz.func99, Tryz.ntmps99
  go_wp2_with fail
  refine wp_loop_rounds 1 ?_
  rw [rounds_succ]
  go_wp2_with fail
  go_ret
  exact ⟨rfl, rfl⟩
theorem contains56_nil (w : World) : Calls Tryz.prog 56 #[.slice none 0 0, .func (.func 57) #[] #[]] w fun e w' => e = .returned (.bool false) ∧ w = w' := by
  go_enter Tryz.func56, Tryz.ntmps56
  go_wp2_with (go_at_call 99; refine (index99_nil _).mono ?_; rintro e w' ⟨rfl, rfl⟩)
  go_ret
  exact ⟨rfl, rfl⟩
end Go.Proofs.YtagmlijhgncklaaGreatDoor.Code
namespace Go.Proofs.YtagmlijhgncklaaGreatDoor.Code
open Go.RowKit Go.Proofs.YtagmlijhgncklaaGreatDoor

/-- A job of 512 bytes without texts. -/
structure Job where
  t : Int
  o : Int
  s : Int
  q : Int
  pr : Int
  PS : List Prg
  b : Nat
  cap : Nat
def Job.cells (J : Job) : List Value := [.int .i64 J.t, .int .i64 J.o, .int .i64 J.s, .int .i64 J.q, .int .i64 512, .int .i64 J.pr, .slice (some ⟨J.b, 0, none⟩) J.PS.length J.cap, .slice none 0 0]
def Job.val (J : Job) : Value := .agg #[.int .i64 J.t, .int .i64 J.o, .int .i64 J.s, .int .i64 J.q, .int .i64 512, .int .i64 J.pr, .slice (some ⟨J.b, 0, none⟩) J.PS.length J.cap, .slice none 0 0]
structure Job.Ok (J : Job) : Prop where
  t0 : 1 ≤ J.t
  t1 : J.t ≤ 16
  o0 : 1 ≤ J.o
  o1 : J.o ≤ 8
  s0 : 1 ≤ J.s
  s1 : J.s ≤ 32
  q0 : 1 ≤ J.q
  q1 : J.q ≤ 100
  p0 : 1 ≤ J.pr
  p1 : J.pr ≤ 31
  n0 : 1 ≤ J.PS.length
  n1 : J.PS.length ≤ 32
  ps : ∀ x ∈ J.PS, x.Ok
/-- What CheckJob looks at: each number, and its bounds. -/
def Job.rows (J : Job) : List (Int × Int × Int) := [(J.t, 1, 16), (J.o, 1, 8), (J.s, 1, 32), (J.q, 1, 100), (512, 256, 65536), (J.pr, 1, 31), ((J.PS.length : Int), 1, 32), (0, 0, 32), (0, 0, 0)]
def rowC (r : Int × Int × Int) : List Value := [.int .i64 r.1, .int .i64 r.2.1, .int .i64 r.2.2]
def Job.rowsC (J : Job) : List Value := J.rows.flatMap rowC
theorem Job.Ok.rows {J : Job} (h : J.Ok) : ∀ r ∈ J.rows, r.2.1 ≤ r.1 ∧ r.1 ≤ r.2.2 := by
  obtain ⟨a1, a2, a3, a4, a5, a6, a7, a8, a9, a10, a11, a12, a13⟩ := h
  intro r hr
  simp only [Job.rows, List.mem_cons, List.not_mem_nil, or_false] at hr
  rcases hr with rfl | rfl | rfl | rfl | rfl | rfl | rfl | rfl | rfl <;> simp only [] <;> omega
theorem rowsC_at (R : List (Int × Int × Int)) (k : Nat) (r : Int × Int × Int) (h : R[k]? = some r) : (R.flatMap rowC)[k * 3]? = some (.int .i64 r.1) ∧ (R.flatMap rowC)[k * 3 + 1]? = some (.int .i64 r.2.1) ∧ (R.flatMap rowC)[k * 3 + 2]? = some (.int .i64 r.2.2) := by
  induction R generalizing k with
  | nil => simp at h
  | cons x R ih =>
    cases k with
    | zero => simp at h; subst h; simp [rowC]
    | succ k =>
      obtain ⟨i1, i2, i3⟩ := ih k (by simpa using h)
      have e : (k + 1) * 3 = k * 3 + 3 := by omega
      simp only [List.flatMap_cons, rowC, e]
      exact ⟨by simpa using i1, by simpa using i2, by simpa using i3⟩
set_option maxRecDepth 100000 in
set_option maxHeartbeats 1000000 in
theorem checkJob_c (w : World) (J : Job) (hJ : J.Ok) (hP : PgsH w J.b J.PS) : Calls Tryz.prog 21 #[J.val] w fun e w' => e = .returned (.int .i64 0) ∧ Below w.heap.size w w' := by
  have hR := hJ.rows
  have HR := Lib.hid hR
  have HJ := Lib.hid hJ
  have HP := Lib.hid hP
  have HC := fun W (hW : PgsH W J.b J.PS) => contains55_c W J.b J.PS J.cap hW hJ.ps hJ.n1
  clear hR hJ hP
  unfold Job.val
  go_enter Tryz.func21, Tryz.ntmps21
  go_wp2_with fail
  have x1 := heap_alloc_new w (.cells J.cells.toArray 34)
  have x2 := heap_alloc_new (w.alloc (.cells J.cells.toArray 34)) (.cells J.rowsC.toArray 143)
  rw [show (w.alloc (.cells J.cells.toArray 34)).heap.size = w.heap.size + 1 by simp] at x2
  have x3 := below_alloc_has (o := .cells J.rowsC.toArray 143) x1
  have b2 : Below w.heap.size w ((w.alloc (.cells J.cells.toArray 34)).alloc (.cells J.rowsC.toArray 143)) := ((Below.refl w.heap.size w).alloc (Nat.le_refl _) _).alloc (by simp) _
  go_loopw [38] (fun i wr => ∃ j : Nat, i = .int .i64 j ∧ j ≤ 9 ∧ wr.heap[w.heap.size]? = some (.cells J.cells.toArray 34 (0, 0)) ∧ wr.heap[w.heap.size + 1]? = some (.cells J.rowsC.toArray 143 (0, 0)) ∧ Below w.heap.size w wr) (fun i _ => 9 - (intOf i).toNat)
  case atStart => exact ⟨0, rfl, by omega, x3, x2, b2⟩
  case round =>
    clear x1 x2 x3 b2
    obtain ⟨j, rfl, hj, y1, y2, hb⟩ := hrel
    by_cases hlt : j < 9
    · have hlt' : j < J.rows.length := hlt
      obtain ⟨r, hr⟩ : ∃ r, J.rows[j]? = some r := ⟨J.rows[j], List.getElem?_eq_getElem hlt'⟩
      obtain ⟨i1, i2, i3⟩ := rowsC_at J.rows j r hr
      obtain ⟨lo, hi⟩ := HR.out r (List.mem_of_getElem? hr)
      have c0 : wr.cell? ⟨w.heap.size + 1, j * 3, none⟩ = some (.int .i64 r.1) := has_cell _ y2 (by simpa [Job.rowsC] using i1)
      have c1 : wr.cell? ⟨w.heap.size + 1, j * 3 + 1, none⟩ = some (.int .i64 r.2.1) := has_cell _ y2 (by simpa [Job.rowsC] using i2)
      have c2 : wr.cell? ⟨w.heap.size + 1, j * 3 + 2, none⟩ = some (.int .i64 r.2.2) := has_cell _ y2 (by simpa [Job.rowsC] using i3)
      have d0 : decide (r.1 < r.2.1) = false := by simp; omega
      have d1 : decide (r.2.2 < r.1) = false := by simp; omega
      have hs : w.heap.size + 1 < wr.heap.size := has_lt y2
      have Y1 := Lib.hid y1
      have Y2 := Lib.hid y2
      have HB := Lib.hid hb
      have HS := Lib.hid hs
      have LH := Lib.hid (And.intro lo hi)
      clear hr i1 i2 i3 lo hi y1 y2 hb hs hlt'
      go_wp2_with fail
      go_roundw
      case rel => exact ⟨j + 1, by go_num, by omega, below_alloc_has Y1.out, below_alloc_has Y2.out, HB.out.alloc HB.out.size _⟩
      case measure => simp [intOf]; omega
    · obtain rfl : j = 9 := by omega
      have c6 : wr.cell? ⟨w.heap.size, 6, none⟩ = some (.slice (some ⟨J.b, 0, none⟩) J.PS.length J.cap) := has_cell 6 y1 rfl
      have HB := Lib.hid hb
      have Y1 := Lib.hid y1
      clear hb y1 y2
      go_wp2_with (first | (go_at_call 55; refine (HC _ (HP.out.reads HB.out)).mono ?_; rintro e w' ⟨rfl, b⟩; have c7 : w'.cell? ⟨w.heap.size, 7, none⟩ = some (.slice none 0 0) := has_cell 7 (below_has b Y1.out) rfl; have HB2 := Lib.hid (HB.out.trans (b.mono HB.out.size)); clear b) | (go_at_call 56; refine (contains56_nil _).mono ?_; rintro e w' ⟨rfl, rfl⟩))
      go_ret
      exact ⟨rfl, HB2.out⟩
end Go.Proofs.YtagmlijhgncklaaGreatDoor.Code
namespace Go.Proofs.YtagmlijhgncklaaGreatDoor.Code
open Go.RowKit Go.Proofs.YtagmlijhgncklaaGreatDoor

def Ins.none : Ins := ⟨0, 0, 0, 0, 0⟩
/-- A load of an instruction's five cells. -/
theorem ins_cells {w : World} {b : Nat} (i : Ins) (h : w.heap[b]? = some (.cells i.cells.toArray 29 (0, 0))) : w.rangeAt b 0 i.cells := has_range h i.cells 0 (by intro j _; simp)
set_option maxRecDepth 100000 in
theorem at_some (w : World) (p : Nat) (L : List Ins) (cap : Nat) (hP : PrgH w p L) (k : Nat) (i : Ins) (hi : L[k]? = some i) : Calls Tryz.prog 76 #[.slice (some ⟨p, 0, none⟩) L.length cap, .int .i64 k] w fun e w' => e = .returned i.val ∧ Below w.heap.size w w' := by
  have hk : k < L.length := (List.getElem?_eq_some_iff.1 hi).1
  have d0 : decide ((k : Int) < 0) = false := by simp
  have d1 : decide ((L.length : Int) ≤ k) = false := by simp; omega
  have hP2 := hP.reads ((Below.refl w.heap.size w).alloc (Nat.le_refl _) (.cells #[.int .i64 0, .int .i64 0, .int .i64 0, .int .i64 0, .int .i64 0] 29))
  obtain ⟨c0, c1, c2, c3, c4⟩ := hP2.cell k i hi
  have HI := Lib.hid hi
  have HK := Lib.hid hk
  have i0 : (0 : Int) ≤ (k : Int) := by omega
  have i1 : (k : Int) < (L.length : Int) := by omega
  clear hP hP2 hi hk
  go_enter Tryz.func76, Tryz.ntmps76
  go_wp2
  refine bodyPost_ret (v := i.val) ?_ rfl ⟨rfl, (Below.refl w.heap.size w).alloc (Nat.le_refl _) _⟩
  have hload := run_loadVar_mid (P := Tryz.prog) _ _ _ 29 _ _ (ins_cells i (heap_alloc_new w (.cells i.cells.toArray 29))) Tryz.underlying29 rfl (by kernel_rfl)
  simp [Ins.cells] at hload
  simp [results, Tryz.f76, hload, asAddr, Ins.val]
set_option maxRecDepth 100000 in
theorem at_end (w : World) (p : Nat) (n cap : Nat) : Calls Tryz.prog 76 #[.slice (some ⟨p, 0, none⟩) n cap, .int .i64 n] w fun e w' => e = .returned Ins.none.val ∧ Below w.heap.size w w' := by
  have d0 : decide ((n : Int) < 0) = false := by simp
  go_enter Tryz.func76, Tryz.ntmps76
  go_wp2
  refine bodyPost_ret (v := Ins.none.val) ?_ rfl ⟨rfl, (Below.refl w.heap.size w).alloc (Nat.le_refl _) _⟩
  have hload := run_loadVar_mid (P := Tryz.prog) _ _ _ 29 _ _ (ins_cells Ins.none (heap_alloc_new w (.cells Ins.none.cells.toArray 29))) Tryz.underlying29 rfl (by kernel_rfl)
  simp [Ins.cells, Ins.none] at hload
  simp [results, Tryz.f76, hload, asAddr, Act.put, Ins.val, Ins.none]
end Go.Proofs.YtagmlijhgncklaaGreatDoor.Code
