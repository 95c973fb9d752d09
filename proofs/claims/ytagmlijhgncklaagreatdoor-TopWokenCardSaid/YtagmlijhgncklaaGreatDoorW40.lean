/-
  The arena of 512 bytes: Get of a word of noughts, Set, over the translation of this seat. Conditions: the blocks that are named hold what is said.
  The arena of 512 bytes: Set, over the translation of this seat. Conditions: the blocks that are named hold what is said.
  The arena of 512 bytes: Write of 512 bytes, over the translation of this seat. Conditions: the blocks that are named hold what is said.
  The allocator over the arena of 512 bytes: New, over the translation of this seat: it returns, and turns nothing but the arena. Conditions: the blocks that are named hold what is said.
  The allocator over the arena of 512 bytes: put, New, over the translation of this seat: they return, and turn nothing but the arena. Conditions: the blocks that are named hold what is said.
-/
import Derived.Test.YtagmlijhgncklaaGreatDoorW39
import Derived.WalkMore
import Derived.Laws.Cover3
import Derived.Test.YtagmlijhgncklaaGreatDoorW12
set_option linter.unusedVariables false
namespace Go.Proofs.YtagmlijhgncklaaGreatDoor
open Go.RowKit

set_option maxRecDepth 100000 in
theorem ar_get (w : World) (a s : Nat) (c : Int) (L : List Value) (h : Ar w a s c L) (o : Nat) (h1 : o + 4 ≤ 512) (h4 : (o : Int) % 4 = 0) (hc : c < 1000) (hz : ∀ j, j < 4 → L[o + j]? = some (.int .u8 0)) : Calls Tryz.prog 323 #[.pointer (some ⟨a, 0, none⟩), .int .i64 o] w fun e w' => e = .returned (.tuple #[.int .u32 0, .int .i64 0]) ∧ Ar w' a s (c + 1) L ∧ Upd w a (arO s (c + 1)) w' := by
  have hwr : wrap64 (c + 1) = c + 1 := by have := h.c0; have := h.c1; unfold wrap64; omega
  have i0 : (0 : Int) ≤ (o : Int) := by omega
  have i1 : (o : Int) ≤ 512 := by omega
  have hat : ∀ W : World, (Instr.arrayAt 368 (.slice (some ⟨s, o, none⟩) (512 - o) (512 - o))).run Tryz.prog W = .ok (.pointer (some ⟨s, o, none⟩)) W := fun W => run_arrayAt W 368 5 4 _ _ _ Tryz.underlying368 (by omega)
  have hx0 : ∀ W : World, (Instr.index 368 (.agg #[.int .u8 0, .int .u8 0, .int .u8 0, .int .u8 0]) (.int .i64 0)).run Tryz.prog W = .ok (.int .u8 0) W := fun _ => by kernel_rfl
  have hx1 : ∀ W : World, (Instr.index 368 (.agg #[.int .u8 0, .int .u8 0, .int .u8 0, .int .u8 0]) (.int .i64 1)).run Tryz.prog W = .ok (.int .u8 0) W := fun _ => by kernel_rfl
  have hx2 : ∀ W : World, (Instr.index 368 (.agg #[.int .u8 0, .int .u8 0, .int .u8 0, .int .u8 0]) (.int .i64 2)).run Tryz.prog W = .ok (.int .u8 0) W := fun _ => by kernel_rfl
  have hx3 : ∀ W : World, (Instr.index 368 (.agg #[.int .u8 0, .int .u8 0, .int .u8 0, .int .u8 0]) (.int .i64 3)).run Tryz.prog W = .ok (.int .u8 0) W := fun _ => by kernel_rfl
  have WD := fun W => ar_word W a o
  have HA := Lib.hid h
  clear h
  go_enter Tryz.func323, Tryz.ntmps323
  go_wp2
  go_step3
  go_wp2_with (go_at_call 172; refine (WD _).mono ?_; rintro e w1 ⟨x, y, rfl, hx, hy, b1⟩)
  have HB1 := Lib.hid b1
  clear b1
  go_upto_region 4 with (go_at_call 101; refine (ar_ask w1 a s x y c L (HA.out.reads HB1.out) o hx hy (by omega) (by omega) h4).mono ?_; rintro e w2 ⟨rfl, b2⟩)
  have HB2 := Lib.hid (HB1.out.trans (b2.mono HB1.out.size))
  clear b2 hx hy HB1
  have A2 := HA.out.reads HB2.out
  have c0 : w2.cell? ⟨a, 0, none⟩ = some (.slice (some ⟨s, 0, none⟩) 512 512) := has_cell 0 A2.ha rfl
  have c1 : w2.cell? ⟨a, 1, none⟩ = some (.int .i64 c) := has_cell 1 A2.ha rfl
  have f1 := has_free A2.ha 1
  have e0 : w2.cell? ⟨s, o, none⟩ = some (.int .u8 0) := has_cell o A2.hs (by simpa using hz 0 (by omega))
  have e1 : w2.cell? ⟨s, o + 1, none⟩ = some (.int .u8 0) := has_cell (o + 1) A2.hs (by simpa using hz 1 (by omega))
  have e2 : w2.cell? ⟨s, o + 2, none⟩ = some (.int .u8 0) := has_cell (o + 2) A2.hs (by simpa using hz 2 (by omega))
  have e3 : w2.cell? ⟨s, o + 3, none⟩ = some (.int .u8 0) := has_cell (o + 3) A2.hs (by simpa using hz 3 (by omega))
  have U2 := (Upd.refl A2.ha).setCell 1 (.int .i64 (c + 1))
  have hU3 : Upd w a (arO s (c + 1)) (w2.setCell ⟨a, 1, none⟩ (.int .i64 (c + 1))) := Upd.after HB2.out (U2.to rfl)
  have hS3 : (w2.setCell ⟨a, 1, none⟩ (.int .i64 (c + 1))).heap[s]? = some (.cells L.toArray 5 (0, 0)) := U2.other A2.hs A2.ne.symm
  clear A2 U2 c0 e0 e1 e2 e3
  go_wp2
  refine world_wp (fun W => Upd w a (arO s (c + 1)) W ∧ W.heap[s]? = some (.cells L.toArray 5 (0, 0))) ⟨hU3, hS3⟩ ?_
  clear hU3 hS3 HB2 c1 f1
  rintro W ⟨hU3, hS3⟩
  have c0 : W.cell? ⟨a, 0, none⟩ = some (.slice (some ⟨s, 0, none⟩) 512 512) := has_cell 0 hU3.1 rfl
  have e0 : W.cell? ⟨s, o, none⟩ = some (.int .u8 0) := has_cell o hS3 (by simpa using hz 0 (by omega))
  have e1 : W.cell? ⟨s, o + 1, none⟩ = some (.int .u8 0) := has_cell (o + 1) hS3 (by simpa using hz 1 (by omega))
  have e2 : W.cell? ⟨s, o + 2, none⟩ = some (.int .u8 0) := has_cell (o + 2) hS3 (by simpa using hz 2 (by omega))
  have e3 : W.cell? ⟨s, o + 3, none⟩ = some (.int .u8 0) := has_cell (o + 3) hS3 (by simpa using hz 3 (by omega))
  have HS3 := Lib.hid hS3
  have HU3 := Lib.hid hU3
  have HZ := Lib.hid hz
  clear hS3 hU3 hz
  go_step3
  go_wp2
  refine wp_loop_rounds 5 ?_
  rw [rounds_succ]
  go_wp2
  rw [rounds_succ]
  go_wp2
  rw [rounds_succ]
  go_wp2
  rw [rounds_succ]
  go_wp2
  rw [rounds_succ]
  go_wp2
  rw [Exit.noGoto_ret]
  go_ret2
  have hA := HA.out
  exact ⟨rfl, ⟨HU3.out.1, HS3.out, hA.len, hA.ne, by have := hA.c0; omega, by omega⟩, HU3.out⟩
end Go.Proofs.YtagmlijhgncklaaGreatDoor
namespace Go.Proofs.YtagmlijhgncklaaGreatDoor
open Go.RowKit

theorem splice_out {α : Type} (L : List α) (o : Nat) (cs : List α) (j : Nat) (h : o + cs.length ≤ L.length) (hj : j < o ∨ o + cs.length ≤ j) : (splice L o cs)[j]? = L[j]? := by
  unfold splice
  rcases hj with hj | hj
  · rw [List.getElem?_append_left (by simp; omega), List.getElem?_take_of_lt hj]
  · rw [List.getElem?_append_right (by simp; omega), List.getElem?_append_right (by simp; omega), List.getElem?_drop]
    congr 1
    simp
    omega
set_option maxRecDepth 100000 in
theorem ar_set (w : World) (a s : Nat) (c : Int) (L : List Value) (h : Ar w a s c L) (o : Nat) (x : Int) (h1 : o + 4 ≤ 512) (h4 : (o : Int) % 4 = 0) (hc : c < 1000) : Calls Tryz.prog 103 #[.pointer (some ⟨a, 0, none⟩), .int .i64 o, .int .u32 x] w fun e w' => e = .returned (.int .i64 0) ∧ ∃ L', Ar w' a s (c + 1) L' ∧ (∀ j, j < o ∨ o + 4 ≤ j → L'[j]? = L[j]?) ∧ Upd2 w a s w' := by
  have hwr : wrap64 (c + 1) = c + 1 := by have := h.c0; have := h.c1; unfold wrap64; omega
  have i0 : (0 : Int) ≤ (o : Int) := by omega
  have i1 : (o : Int) ≤ 512 := by omega
  have WD := fun W => ar_word W a o
  have HA := Lib.hid h
  clear h
  go_enter Tryz.func103, Tryz.ntmps103
  go_wp2_with (go_at_call 172; refine (WD _).mono ?_; rintro e w1 ⟨u, y, rfl, hx, hy, b1⟩)
  have HB1 := Lib.hid b1
  clear b1
  go_upto_region 4 with (go_at_call 101; refine (ar_ask w1 a s u y c L (HA.out.reads HB1.out) o hx hy (by omega) (by omega) h4).mono ?_; rintro e w2 ⟨rfl, b2⟩)
  have HB2 := Lib.hid (HB1.out.trans (b2.mono HB1.out.size))
  clear b2 hx hy HB1
  have A2 := HA.out.reads HB2.out
  have c0 : w2.cell? ⟨a, 0, none⟩ = some (.slice (some ⟨s, 0, none⟩) 512 512) := has_cell 0 A2.ha rfl
  have c1 : w2.cell? ⟨a, 1, none⟩ = some (.int .i64 c) := has_cell 1 A2.ha rfl
  have f1 := has_free A2.ha 1
  have U2 := (Upd.refl A2.ha).setCell 1 (.int .i64 (c + 1))
  have hU3 : Upd w a (arO s (c + 1)) (w2.setCell ⟨a, 1, none⟩ (.int .i64 (c + 1))) := Upd.after HB2.out (U2.to rfl)
  have hS3 : (w2.setCell ⟨a, 1, none⟩ (.int .i64 (c + 1))).heap[s]? = some (.cells L.toArray 5 (0, 0)) := U2.other A2.hs A2.ne.symm
  clear A2 U2 c0
  go_upto_region 5 with fail
  refine world_wp (fun W => Upd w a (arO s (c + 1)) W ∧ W.heap[s]? = some (.cells L.toArray 5 (0, 0))) ⟨hU3, hS3⟩ ?_
  clear hU3 hS3 HB2 c1 f1
  rintro W ⟨hU3, hS3⟩
  have HS3 := Lib.hid hS3
  have HU3 := Lib.hid hU3
  clear hS3 hU3
  go_upto_region 6 with (go_at_call 173; refine (ar_four _ _).mono ?_; rintro e w4 ⟨x0, x1, x2, x3, rfl, b4⟩)
  have x5 := heap_alloc_new w4 (.cells #[.int .u8 x0, .int .u8 x1, .int .u8 x2, .int .u8 x3] 368)
  have s5 : (w4.alloc (.cells #[.int .u8 x0, .int .u8 x1, .int .u8 x2, .int .u8 x3] 368)).heap[s]? = some (.cells L.toArray 5 (0, 0)) := below_alloc_has (below_has b4 HS3.out)
  have u5 : Upd w a (arO s (c + 1)) (w4.alloc (.cells #[.int .u8 x0, .int .u8 x1, .int .u8 x2, .int .u8 x3] 368)) := (HU3.out.reads b4).alloc _
  refine world_wp (fun W => W.heap[w4.heap.size]? = some (.cells #[.int .u8 x0, .int .u8 x1, .int .u8 x2, .int .u8 x3] 368 (0, 0)) ∧ W.heap[s]? = some (.cells L.toArray 5 (0, 0)) ∧ Upd w a (arO s (c + 1)) W) ⟨x5, s5, u5⟩ ?_
  clear x5 s5 u5 b4 HS3 HU3
  rintro V ⟨x5, s5, u5⟩
  have c0 : V.cell? ⟨a, 0, none⟩ = some (.slice (some ⟨s, 0, none⟩) 512 512) := has_cell 0 u5.1 rfl
  have X5 := Lib.hid x5
  have S5 := Lib.hid s5
  have U5 := Lib.hid u5
  clear x5 s5 u5
  refine still_tail 7 (by kernel_rfl) (by kernel_rfl) ?_
  simp only [List.take_succ_cons, List.take_zero, List.drop_succ_cons, List.drop_zero]
  repeat still_step
  refine wpStill_nil ?_
  have hm : Nat.min 4 (512 - o) = 4 := Nat.min_eq_left (by omega)
  refine wpList_copy_own (by rfl) (.tmp 31) (.tmp 32) 215 215 (by rfl) 5 Tryz.underlying215 (by kernel_rfl) s o (512 - o) (512 - o) ⟨w4.heap.size, 0, none⟩ 4 4 (by show Value.slice (if 512 = o then _ else _) _ _ = _; rw [if_neg (by omega)]) (by rfl) L.toArray 5 (by exact S5.out) [.int .u8 x0, .int .u8 x1, .int .u8 x2, .int .u8 x3] (by rw [hm]; rfl) ?hsrc (by have := HA.out.len; simp; omega) (by simp [Value.oneCell']) ?_
  case hsrc =>
    intro j v hj
    have hadd : (⟨w4.heap.size, 0, none⟩ : Addr).add j = ⟨w4.heap.size, j, none⟩ := by unfold Addr.add; split <;> simp_all
    rw [hadd]
    exact has_cell j X5.out (by simpa using hj)
  have hnew := setRow_heap V.drew s L.toArray (L.toArray.toList.take o ++ ([Value.int .u8 x0, Value.int .u8 x1, Value.int .u8 x2, Value.int .u8 x3] ++ L.toArray.toList.drop (o + 4))).toArray 5 (0, 0) S5.out
  have hold := fun k (hk : k ≠ s) => setRow_other V.drew s k (L.toArray.toList.take o ++ ([Value.int .u8 x0, Value.int .u8 x1, Value.int .u8 x2, Value.int .u8 x3] ++ L.toArray.toList.drop (o + 4))).toArray hk
  have hU : Upd V.drew s (.cells (splice L o [.int .u8 x0, .int .u8 x1, .int .u8 x2, .int .u8 x3]).toArray 5 (0, 0)) (V.drew.setRow s (L.toArray.toList.take o ++ ([Value.int .u8 x0, Value.int .u8 x1, Value.int .u8 x2, Value.int .u8 x3] ++ L.toArray.toList.drop (o + 4))).toArray) := ⟨by simpa [splice] using hnew, rfl, rfl, rfl, by simp [World.setRow], fun k _ hk => hold k (by simpa using hk)⟩
  have HU := Lib.hid hU
  clear hU hnew hold
  go_wp2
  go_ret
  have hA := HA.out
  have u5 : Upd2 w a s V.drew := ((Upd2.refl w a s).left U5.out).drew
  have hl : (splice L o [.int .u8 x0, .int .u8 x1, .int .u8 x2, .int .u8 x3]).length = 512 := by rw [length_splice _ _ _ (by have := hA.len; simp; omega)]; exact hA.len
  exact ⟨rfl, splice L o [.int .u8 x0, .int .u8 x1, .int .u8 x2, .int .u8 x3], ⟨HU.out.other U5.out.1 hA.ne, HU.out.1, hl, hA.ne, by have := hA.c0; omega, by omega⟩, fun j hj => splice_out L o _ j (by have := hA.len; simp; omega) hj, u5.right HU.out⟩
end Go.Proofs.YtagmlijhgncklaaGreatDoor
namespace Go.Proofs.YtagmlijhgncklaaGreatDoor
open Go.RowKit

theorem ar_write1 (w : World) (a s x y z zb : Nat) (c : Int) (L : List Value) (h : Ar w a s c L) (hx : w.heap[x]? = some (.cells #[.int .i64 0] 3 (0, 0))) (hy : w.heap[y]? = some (.cells #[.pointer (some ⟨a, 0, none⟩)] 123 (0, 0))) (hz : w.heap[z]? = some (.cells #[.slice (some ⟨zb, 0, none⟩) 512 512] 215 (0, 0))) : Calls Tryz.prog 102 #[.pointer (some ⟨x, 0, none⟩), .pointer (some ⟨y, 0, none⟩), .pointer (some ⟨z, 0, none⟩)] w fun e w' => e = .returned (.bool true) ∧ Below w.heap.size w w' := by
  have c0 : w.cell? ⟨a, 0, none⟩ = some (.slice (some ⟨s, 0, none⟩) 512 512) := has_cell 0 h.ha rfl
  have cx : w.cell? ⟨x, 0, none⟩ = some (.int .i64 0) := has_cell 0 hx rfl
  have cy : w.cell? ⟨y, 0, none⟩ = some (.pointer (some ⟨a, 0, none⟩)) := has_cell 0 hy rfl
  have cz : w.cell? ⟨z, 0, none⟩ = some (.slice (some ⟨zb, 0, none⟩) 512 512) := has_cell 0 hz rfl
  clear h hx hy hz
  go_enter Tryz.func102, Tryz.ntmps102
  go_wp2
  go_region_held3 (fun W' => W'.cell? ⟨x, 0, none⟩ = some (.int .i64 0) ∧ W'.cell? ⟨y, 0, none⟩ = some (.pointer (some ⟨a, 0, none⟩)) ∧ W'.cell? ⟨z, 0, none⟩ = some (.slice (some ⟨zb, 0, none⟩) 512 512) ∧ W'.cell? ⟨a, 0, none⟩ = some (.slice (some ⟨s, 0, none⟩) 512 512)) (first | exact ⟨cx, cy, cz, c0⟩ | exact ⟨by assumption, by assumption, by assumption, by assumption⟩) (first | fail)
  all_goals go_wp2
  all_goals go_ret
  all_goals exact ⟨rfl, (Below.refl _ w).drew⟩
theorem ar_askw (w : World) (a s x y z zb : Nat) (c : Int) (L : List Value) (h : Ar w a s c L) (hx : w.heap[x]? = some (.cells #[.int .i64 0] 3 (0, 0))) (hy : w.heap[y]? = some (.cells #[.pointer (some ⟨a, 0, none⟩)] 123 (0, 0))) (hz : w.heap[z]? = some (.cells #[.slice (some ⟨zb, 0, none⟩) 512 512] 215 (0, 0))) : Calls Tryz.prog 101 #[.pointer (some ⟨a, 0, none⟩), .func (.func 102) #[] #[.pointer (some ⟨x, 0, none⟩), .pointer (some ⟨y, 0, none⟩), .pointer (some ⟨z, 0, none⟩)]] w fun e w' => e = .returned (.int .i64 0) ∧ Below w.heap.size w w' := by
  have HT := ar_there w a s c L h
  have HW := ar_write1 w a s x y z zb c L h hx hy hz
  clear h hx hy hz
  go_enter Tryz.func101, Tryz.ntmps101
  go_wp2_with (first | (go_at_call 100; refine HT.mono ?_; rintro e w' ⟨rfl, rfl⟩) | (go_at_call 102; refine HW.mono ?_; rintro e w' ⟨rfl, b⟩))
  go_ret
  exact ⟨rfl, by assumption⟩
set_option maxRecDepth 100000 in
theorem ar_write (w : World) (a s zb : Nat) (c : Int) (L Z : List Value) (h : Ar w a s c L) (hz : w.heap[zb]? = some (.cells Z.toArray 5 (0, 0))) (hl : Z.length = 512) (h1 : ∀ v ∈ Z, v.oneCell' = true) : Calls Tryz.prog 62 #[.pointer (some ⟨a, 0, none⟩), .int .i64 0, .slice (some ⟨zb, 0, none⟩) 512 512] w fun e w' => e = .returned (.int .i64 0) ∧ Ar w' a s c Z ∧ Upd2 w a s w' := by
  have hmf : ∀ (fn : Fn) (first cap : Array Value) (w : World), (Instr.makeFunc fn first cap).run Tryz.prog w = .ok (.func fn first cap) w := fun _ _ _ _ => rfl
  have HL := Lib.hid hl
  have HA := Lib.hid h
  have HZ := Lib.hid hz
  have hy := heap_alloc_new w (.cells #[.pointer (some ⟨a, 0, none⟩)] 123)
  have hx := heap_alloc_new (w.alloc (.cells #[.pointer (some ⟨a, 0, none⟩)] 123)) (.cells #[.int .i64 0] 3)
  have hb := heap_alloc_new ((w.alloc (.cells #[.pointer (some ⟨a, 0, none⟩)] 123)).alloc (.cells #[.int .i64 0] 3)) (.cells #[.slice (some ⟨zb, 0, none⟩) 512 512] 215)
  have B3 : Below w.heap.size w (((w.alloc (.cells #[.pointer (some ⟨a, 0, none⟩)] 123)).alloc (.cells #[.int .i64 0] 3)).alloc (.cells #[.slice (some ⟨zb, 0, none⟩) 512 512] 215)) := (((Below.refl w.heap.size w).alloc (Nat.le_refl _) _).alloc (by simp) _).alloc (by simp; omega) _
  have hY := below_alloc_has (o := .cells #[.slice (some ⟨zb, 0, none⟩) 512 512] 215) (below_alloc_has (o := .cells #[.int .i64 0] 3) hy)
  have hX := below_alloc_has (o := .cells #[.slice (some ⟨zb, 0, none⟩) 512 512] 215) hx
  have e1 : (w.alloc (.cells #[.pointer (some ⟨a, 0, none⟩)] 123)).heap.size = w.heap.size + 1 := by simp
  have e2 : ((w.alloc (.cells #[.pointer (some ⟨a, 0, none⟩)] 123)).alloc (.cells #[.int .i64 0] 3)).heap.size = w.heap.size + 1 + 1 := by simp
  rw [e1] at hX
  rw [e2] at hb
  have HX := Lib.hid hX
  have HY := Lib.hid hY
  have HB := Lib.hid hb
  have HB3 := Lib.hid B3
  clear hX hY hb B3 hx hy h hz hl e1 e2
  have H1 := Lib.hid h1
  clear h1
  go_enter Tryz.func62, Tryz.ntmps62
  go_upto_region 1 with fail
  refine world_wp (fun W => W.heap[w.heap.size + 1]? = some (.cells #[.int .i64 0] 3 (0, 0)) ∧ W.heap[w.heap.size]? = some (.cells #[.pointer (some ⟨a, 0, none⟩)] 123 (0, 0)) ∧ W.heap[w.heap.size + 1 + 1]? = some (.cells #[.slice (some ⟨zb, 0, none⟩) 512 512] 215 (0, 0)) ∧ Below w.heap.size w W) ⟨HX.out, HY.out, HB.out, HB3.out⟩ ?_
  clear HX HY HB HB3
  rintro V ⟨x1, y1, z1, b1⟩
  have cy : V.cell? ⟨w.heap.size, 0, none⟩ = some (.pointer (some ⟨a, 0, none⟩)) := has_cell 0 y1 rfl
  have X1 := Lib.hid x1
  have Y1 := Lib.hid y1
  have Z1 := Lib.hid z1
  have B1 := Lib.hid b1
  clear x1 y1 z1 b1
  go_upto_region 3 with (go_at_call 101; refine (ar_askw _ a s _ _ _ zb c L (HA.out.reads B1.out) X1.out Y1.out Z1.out).mono ?_; rintro e w2 ⟨rfl, b2⟩)
  have B2 := Lib.hid (B1.out.trans (b2.mono B1.out.size))
  have x1 := below_has b2 X1.out
  have y1 := below_has b2 Y1.out
  have z1 := below_has b2 Z1.out
  clear b2 cy
  have cx : w2.cell? ⟨w.heap.size + 1, 0, none⟩ = some (.int .i64 0) := has_cell 0 x1 rfl
  have cy : w2.cell? ⟨w.heap.size, 0, none⟩ = some (.pointer (some ⟨a, 0, none⟩)) := has_cell 0 y1 rfl
  have cz : w2.cell? ⟨w.heap.size + 1 + 1, 0, none⟩ = some (.slice (some ⟨zb, 0, none⟩) 512 512) := has_cell 0 z1 rfl
  have A2 := HA.out.reads B2.out
  have c0 : w2.cell? ⟨a, 0, none⟩ = some (.slice (some ⟨s, 0, none⟩) 512 512) := has_cell 0 A2.ha rfl
  have HA2 := Lib.hid A2
  have HZ2 := Lib.hid (below_has B2.out HZ.out)
  clear A2 x1 y1 z1
  refine still_tail 7 (by kernel_rfl) (by kernel_rfl) ?_
  simp only [List.take_succ_cons, List.take_zero, List.drop_succ_cons, List.drop_zero]
  repeat still_step
  refine wpStill_nil ?_
  refine wpList_copy_own (by rfl) (.tmp 18) (.tmp 19) 215 215 (by rfl) 5 Tryz.underlying215 (by kernel_rfl) s 0 512 512 ⟨zb, 0, none⟩ 512 512 (by rfl) (by rfl) L.toArray 5 (by exact HA2.out.hs) Z (by rw [HL.out]; rfl) ?hsrc (by have := HA.out.len; have := HL.out; simp; omega) H1.out ?_
  case hsrc =>
    intro j v hj
    have hadd : (⟨zb, 0, none⟩ : Addr).add j = ⟨zb, j, none⟩ := by unfold Addr.add; split <;> simp_all
    rw [hadd]
    exact has_cell j HZ2.out (by simpa using hj)
  have hrow : (List.take 0 L.toArray.toList ++ (Z ++ List.drop (0 + Z.length) L.toArray.toList)) = Z := by
    have e : List.drop (0 + Z.length) L.toArray.toList = [] := List.drop_eq_nil_of_le (by have := HA.out.len; have := HL.out; simp; omega)
    rw [e]; simp
  rw [hrow]
  have hnew := setRow_heap w2.drew s L.toArray Z.toArray 5 (0, 0) HA2.out.hs
  have hU : Upd w2.drew s (.cells Z.toArray 5 (0, 0)) (w2.drew.setRow s Z.toArray) := ⟨hnew, rfl, rfl, rfl, by simp [World.setRow], fun k _ hk => setRow_other w2.drew s k Z.toArray (by simpa using hk)⟩
  have HU := Lib.hid hU
  clear hU hnew hrow
  go_wp2
  go_ret
  have hA := HA2.out
  have u5 : Upd2 w a s w2.drew := ((Upd2.refl w a s).reads B2.out).drew
  exact ⟨rfl, ⟨HU.out.other hA.ha hA.ne, HU.out.1, HL.out, hA.ne, hA.c0, hA.c1⟩, u5.right HU.out⟩
end Go.Proofs.YtagmlijhgncklaaGreatDoor
namespace Go.Proofs.YtagmlijhgncklaaGreatDoor
open Go.RowKit

/-- A heap's object: the arena's address, and the map of its pieces. -/
def hpO (a : Nat) (m : Value) : Obj := .cells #[.pointer (some ⟨a, 0, none⟩), m] 220 (0, 0)
theorem Upd2.ofUpd {w w' : World} {a s : Nat} {o : Obj} (h : Upd w a o w') : Upd2 w a s w' := (Upd2.refl w a s).left h
set_option maxRecDepth 100000 in
theorem tl_set (w : World) (h a s : Nat) (m : Value) (c : Int) (L : List Value) (A : Ar w a s c L) (hh : w.heap[h]? = some (hpO a m)) (o : Nat) (x : Int) (h1 : o + 4 ≤ 512) (h4 : (o : Int) % 4 = 0) (hc : c < 1000) : Calls Tryz.prog 63 #[.pointer (some ⟨h, 0, none⟩), .int .i64 o, .int .i64 x] w fun e w' => e = .returned (.tuple #[]) ∧ ∃ L', Ar w' a s (c + 1) L' ∧ (∀ j, j < o ∨ o + 4 ≤ j → L'[j]? = L[j]?) ∧ Upd2 w a s w' := by
  have c0 : w.cell? ⟨h, 0, none⟩ = some (.pointer (some ⟨a, 0, none⟩)) := has_cell 0 hh rfl
  have HS := fun y => ar_set w a s c L A o y h1 h4 hc
  clear hh A h1 h4 hc
  go_enter Tryz.func63, Tryz.ntmps63
  go_wp2_with (go_at_call 103; refine (HS _).mono ?_; rintro e w' ⟨rfl, L', hL⟩)
  refine bodyPost_end (results_none rfl _ _ _) rfl ?_
  exact ⟨rfl, L', hL⟩
set_option maxRecDepth 100000 in
theorem tl_get (w : World) (h a s : Nat) (m : Value) (c : Int) (L : List Value) (A : Ar w a s c L) (hh : w.heap[h]? = some (hpO a m)) (o : Nat) (h1 : o + 4 ≤ 512) (h4 : (o : Int) % 4 = 0) (hc : c < 1000) (hz : ∀ j, j < 4 → L[o + j]? = some (.int .u8 0)) : Calls Tryz.prog 175 #[.pointer (some ⟨h, 0, none⟩), .int .i64 o] w fun e w' => e = .returned (.int .i64 0) ∧ Ar w' a s (c + 1) L ∧ Upd w a (arO s (c + 1)) w' := by
  have c0 : w.cell? ⟨h, 0, none⟩ = some (.pointer (some ⟨a, 0, none⟩)) := has_cell 0 hh rfl
  have HS := ar_get w a s c L A o h1 h4 hc hz
  clear hh A h1 h4 hc hz
  go_enter Tryz.func175, Tryz.ntmps175
  go_wp2_with (go_at_call 323; refine HS.mono ?_; rintro e w' ⟨rfl, hL⟩)
  go_ret
  exact ⟨rfl, hL⟩
set_option maxRecDepth 100000 in
theorem tl_class (w : World) : Calls Tryz.prog 105 #[.int .i64 400] w fun e w' => e = .returned (.int .i64 9) ∧ w = w' := by
  have HB := Tryz.bits_Len 400 w (by omega) (by omega)
  rw [show ((Lib.bitLen (400 : Int).toNat : Nat) : Int) = 9 by decide] at HB
  have hb : bits BinOp.and IntKind.i64 3 1 = 1 := by decide
  have hw : wrap64 9 = 9 := by unfold wrap64; omega
  go_enter Tryz.func105, Tryz.ntmps105
  go_wp2_with (go_at_call 177; refine HB.mono ?_; rintro e w' ⟨rfl, rfl⟩)
  go_ret
  exact ⟨rfl, rfl⟩
theorem tl_lay (w : World) (h a s : Nat) (m : Value) (c : Int) (L : List Value) (A : Ar w a s c L) (hh : w.heap[h]? = some (hpO a m)) (ha : h ≠ a) (hs : h ≠ s) (hc : c < 1000) : Calls Tryz.prog 106 #[.pointer (some ⟨h, 0, none⟩), .int .i64 112, .int .i64 400, .bool true] w fun e w' => e = .returned (.tuple #[]) ∧ ∃ L', Ar w' a s (c + 1) L' ∧ (∀ j, j < 112 ∨ 116 ≤ j → L'[j]? = L[j]?) ∧ Upd2 w a s w' := by
  have HS := fun y => tl_set w h a s m c L A hh 112 y (by omega) (by omega) hc
  have HH := Lib.hid hh
  clear A hc hh
  go_enter Tryz.func106, Tryz.ntmps106
  go_upto_region 4 with (go_at_call 63; refine (HS _).mono ?_; rintro e w' ⟨rfl, L', A', k', u'⟩)
  have c1 : w'.cell? ⟨h, 0, none⟩ = some (.pointer (some ⟨a, 0, none⟩)) := has_cell 0 (u'.other HH.out ha hs) rfl
  have HT := ar_size w' a s _ L' A'
  have HA := Lib.hid A'
  have HK := Lib.hid k'
  have HU := Lib.hid u'
  clear A' k' u'
  go_wp2_with (go_at_call 61; refine HT.mono ?_; rintro e w' ⟨rfl, rfl⟩)
  refine bodyPost_end (results_none rfl _ _ _) rfl ?_
  exact ⟨rfl, L', HA.out, HK.out, HU.out⟩
theorem tl_list (w : World) (h : Nat) : Calls Tryz.prog 104 #[.pointer (some ⟨h, 0, none⟩), .int .i64 9] w fun e w' => ∃ x y, e = .returned (.tuple #[.func (.func 174) #[] #[.pointer (some ⟨x, 0, none⟩), .pointer (some ⟨y, 0, none⟩)], .func (.func 176) #[] #[.pointer (some ⟨x, 0, none⟩), .pointer (some ⟨y, 0, none⟩)]]) ∧ w'.heap[x]? = some (.cells #[.pointer (some ⟨h, 0, none⟩)] 90 (0, 0)) ∧ w'.heap[y]? = some (.cells #[.int .i64 9] 3 (0, 0)) ∧ Below w.heap.size w w' ∧ w.heap.size ≤ x ∧ w.heap.size ≤ y := by
  have hmf : ∀ (fn : Fn) (first cap : Array Value) (w : World), (Instr.makeFunc fn first cap).run Tryz.prog w = .ok (.func fn first cap) w := fun _ _ _ _ => rfl
  go_enter Tryz.func104, Tryz.ntmps104
  go_wp2
  go_ret2
  have h1 := heap_alloc_new w (.cells #[.pointer (some ⟨h, 0, none⟩)] 90)
  have h2 := heap_alloc_new (w.alloc (.cells #[.pointer (some ⟨h, 0, none⟩)] 90)) (.cells #[.int .i64 9] 3)
  have b1 := (Below.refl w.heap.size w).alloc (Nat.le_refl _) (.cells #[.pointer (some ⟨h, 0, none⟩)] 90)
  exact ⟨w.heap.size, w.heap.size + 1, by simp, below_alloc_has h1, by simpa using h2, b1.alloc (by simp) _, Nat.le_refl _, by omega⟩
set_option maxRecDepth 100000 in
theorem tl_first (w : World) (h a s x y : Nat) (m : Value) (c : Int) (L : List Value) (A : Ar w a s c L) (hh : w.heap[h]? = some (hpO a m)) (hx : w.heap[x]? = some (.cells #[.pointer (some ⟨h, 0, none⟩)] 90 (0, 0))) (hy : w.heap[y]? = some (.cells #[.int .i64 9] 3 (0, 0))) (hc : c < 1000) (hz : ∀ j, j < 4 → L[40 + j]? = some (.int .u8 0)) : Calls Tryz.prog 174 #[.pointer (some ⟨x, 0, none⟩), .pointer (some ⟨y, 0, none⟩)] w fun e w' => e = .returned (.int .i64 0) ∧ Ar w' a s (c + 1) L ∧ Upd w a (arO s (c + 1)) w' := by
  have cx : w.cell? ⟨x, 0, none⟩ = some (.pointer (some ⟨h, 0, none⟩)) := has_cell 0 hx rfl
  have cy : w.cell? ⟨y, 0, none⟩ = some (.int .i64 9) := has_cell 0 hy rfl
  have HS := tl_get w h a s m c L A hh 40 (by omega) (by omega) hc hz
  clear hh A hc hz hx hy
  go_enter Tryz.func174, Tryz.ntmps174
  go_wp2_with (go_at_call 175; refine HS.mono ?_; rintro e w' ⟨rfl, hL⟩)
  go_ret
  exact ⟨rfl, hL⟩
set_option maxRecDepth 100000 in
theorem tl_let (w : World) (h a s x y : Nat) (m : Value) (c : Int) (L : List Value) (A : Ar w a s c L) (hh : w.heap[h]? = some (hpO a m)) (hx : w.heap[x]? = some (.cells #[.pointer (some ⟨h, 0, none⟩)] 90 (0, 0))) (hy : w.heap[y]? = some (.cells #[.int .i64 9] 3 (0, 0))) (ha : h ≠ a) (hs : h ≠ s) (xa : x ≠ a) (xs : x ≠ s) (ya : y ≠ a) (ys : y ≠ s) (hc : c < 900) (hz : ∀ j, j < 4 → L[0 + j]? = some (.int .u8 0)) : Calls Tryz.prog 176 #[.int .i64 112, .pointer (some ⟨x, 0, none⟩), .pointer (some ⟨y, 0, none⟩)] w fun e w' => e = .returned (.tuple #[]) ∧ ∃ c' L', Ar w' a s c' L' ∧ Upd2 w a s w' := by
  have cx : w.cell? ⟨x, 0, none⟩ = some (.pointer (some ⟨h, 0, none⟩)) := has_cell 0 hx rfl
  have cy : w.cell? ⟨y, 0, none⟩ = some (.int .i64 9) := has_cell 0 hy rfl
  have HS := fun z => tl_set w h a s m c L A hh 40 z (by omega) (by omega) (by omega)
  have b0 : bits BinOp.and IntKind.i64 0 1 = 0 := by decide
  have HH := Lib.hid hh
  have HX := Lib.hid hx
  have HY := Lib.hid hy
  clear hh hx hy A
  go_enter Tryz.func176, Tryz.ntmps176
  go_upto_region 1 with (go_at_call 63; refine (HS _).mono ?_; rintro e w1 ⟨rfl, L1, A1, k1, u1⟩)
  have hx1 := u1.other HX.out xa xs
  have hy1 := u1.other HY.out ya ys
  have hh1 := u1.other HH.out ha hs
  have cx1 : w1.cell? ⟨x, 0, none⟩ = some (.pointer (some ⟨h, 0, none⟩)) := has_cell 0 hx1 rfl
  have cy1 : w1.cell? ⟨y, 0, none⟩ = some (.int .i64 9) := has_cell 0 hy1 rfl
  have HG := tl_get w1 h a s m (c + 1) L1 A1 hh1 0 (by omega) (by omega) (by omega) (fun j hj => by rw [k1 _ (by omega)]; exact hz j hj)
  have HX1 := Lib.hid hx1
  have HY1 := Lib.hid hy1
  have HH1 := Lib.hid hh1
  have HU1 := Lib.hid u1
  clear hx1 hy1 hh1 u1 k1 A1 cx cy HS hz
  go_upto_region 4 with (go_at_call 175; refine HG.mono ?_; rintro e w2 ⟨rfl, A2, u2⟩)
  have u2' := (Upd2.ofUpd (s := s) u2)
  have cx2 : w2.cell? ⟨x, 0, none⟩ = some (.pointer (some ⟨h, 0, none⟩)) := has_cell 0 (u2'.other HX1.out xa xs) rfl
  have cy2 : w2.cell? ⟨y, 0, none⟩ = some (.int .i64 9) := has_cell 0 (u2'.other HY1.out ya ys) rfl
  have HS2 := fun z => tl_set w2.drew h a s m (c + 1 + 1) L1 ⟨A2.ha, A2.hs, A2.len, A2.ne, A2.c0, A2.c1⟩ (u2'.other HH1.out ha hs) 0 z (by omega) (by omega) (by omega)
  have HU2 := Lib.hid (HU1.out.trans u2').drew
  clear u2 u2' A2 HG cx1 cy1
  go_upto_region 5 with fail
  refine still_tail 5 (by kernel_rfl) (by kernel_rfl) ?_
  simp only [List.take_succ_cons, List.take_zero, List.drop_succ_cons, List.drop_zero]
  repeat still_step
  refine wpStill_nil ?_
  go_wp2_with (go_at_call 63; refine (HS2 _).mono ?_; rintro e w3 ⟨rfl, L3, A3, k3, u3⟩)
  refine bodyPost_end (results_none rfl _ _ _) rfl ?_
  exact ⟨rfl, _, L3, A3, HU2.out.trans u3⟩
end Go.Proofs.YtagmlijhgncklaaGreatDoor
namespace Go.Proofs.YtagmlijhgncklaaGreatDoor
open Go.RowKit

theorem Upd2.ofBelow {w w' : World} {a s : Nat} (h : Below w.heap.size w w') : Upd2 w a s w' := (Upd2.refl w a s).reads h
set_option maxRecDepth 100000 in
theorem tl_put (w : World) (h a s : Nat) (m : Value) (c : Int) (L : List Value) (A : Ar w a s c L) (hh : w.heap[h]? = some (hpO a m)) (ha : h ≠ a) (hs : h ≠ s) (hc : c < 100) (hz : ∀ j, j < 4 → L[0 + j]? = some (.int .u8 0)) (hz40 : ∀ j, j < 4 → L[40 + j]? = some (.int .u8 0)) : Calls Tryz.prog 64 #[.pointer (some ⟨h, 0, none⟩), .int .i64 112, .int .i64 400] w fun e w' => e = .returned (.tuple #[]) ∧ Upd2 w a s w' := by
  have HA := Lib.hid A
  have HH := Lib.hid hh
  have HN := Lib.hid ha
  have HM := Lib.hid hs
  have HZ := Lib.hid hz
  have HZ4 := Lib.hid hz40
  have HC := Lib.hid hc
  clear A hh ha hs hz hz40 hc
  go_enter Tryz.func64, Tryz.ntmps64
  go_upto_region 1 with (first | (go_at_call 105; refine (tl_class _).mono ?_; rintro e w' ⟨rfl, rfl⟩) | (go_at_call 104; refine (tl_list _ h).mono ?_; rintro e w1 ⟨x, y, rfl, hx, hy, b1, nx, ny⟩))
  have A1 := HA.out.reads b1
  have la := has_lt HA.out.ha
  have ls := has_lt HA.out.hs
  have xa : x ≠ a := by omega
  have xs : x ≠ s := by omega
  have ya : y ≠ a := by omega
  have ys : y ≠ s := by omega
  have h1 := below_has b1 HH.out
  have HF := tl_first w1 h a s x y m c L A1 h1 hx hy (by have := HC.out; omega) HZ4.out
  have X1 := Lib.hid hx
  have Y1 := Lib.hid hy
  have H1 := Lib.hid h1
  have U1 := Lib.hid (Upd2.ofBelow (a := a) (s := s) b1)
  have NX := Lib.hid (And.intro xa (And.intro xs (And.intro ya ys)))
  clear hx hy h1 b1 nx ny A1 la ls xa xs ya ys
  go_upto_region 2 with (go_at_call 174; refine HF.mono ?_; rintro e w2 ⟨rfl, A2, u2⟩)
  have u2' := (Upd2.ofUpd (s := s) u2)
  have h2 := u2'.other H1.out HN.out HM.out
  have HL := tl_lay w2 h a s m (c + 1) L A2 h2 HN.out HM.out (by have := HC.out; omega)
  have X2 := Lib.hid (u2'.other X1.out NX.out.1 NX.out.2.1)
  have Y2 := Lib.hid (u2'.other Y1.out NX.out.2.2.1 NX.out.2.2.2)
  have H2 := Lib.hid h2
  have U2 := Lib.hid (U1.out.trans u2')
  clear u2 u2' h2 A2 HF
  go_upto_region 3 with (go_at_call 106; refine HL.mono ?_; rintro e w3 ⟨rfl, L3, A3, k3, u3⟩)
  have h3 := u3.other H2.out HN.out HM.out
  have HS := fun z => tl_set w3 h a s m (c + 1 + 1) L3 A3 h3 120 z (by omega) (by omega) (by have := HC.out; omega)
  have X3 := Lib.hid (u3.other X2.out NX.out.1 NX.out.2.1)
  have Y3 := Lib.hid (u3.other Y2.out NX.out.2.2.1 NX.out.2.2.2)
  have H3 := Lib.hid h3
  have U3 := Lib.hid (U2.out.trans u3)
  have Z3 := Lib.hid (fun j (hj : j < 4) => (k3 (0 + j) (by omega)).trans (HZ.out j hj))
  clear u3 h3 A3 HL k3
  go_upto_region 4 with (go_at_call 63; refine (HS _).mono ?_; rintro e w4 ⟨rfl, L4, A4, k4, u4⟩)
  have h4 := u4.other H3.out HN.out HM.out
  have HS4 := fun z => tl_set w4 h a s m (c + 1 + 1 + 1) L4 A4 h4 124 z (by omega) (by omega) (by have := HC.out; omega)
  have X4 := Lib.hid (u4.other X3.out NX.out.1 NX.out.2.1)
  have Y4 := Lib.hid (u4.other Y3.out NX.out.2.2.1 NX.out.2.2.2)
  have H4 := Lib.hid h4
  have U4 := Lib.hid (U3.out.trans u4)
  have Z4 := Lib.hid (fun j (hj : j < 4) => (k4 (0 + j) (by omega)).trans (Z3.out j hj))
  clear u4 h4 A4 HS k4
  go_upto_region 5 with (go_at_call 63; refine (HS4 _).mono ?_; rintro e w5 ⟨rfl, L5, A5, k5, u5⟩)
  have h5 := u5.other H4.out HN.out HM.out
  have x5 := u5.other X4.out NX.out.1 NX.out.2.1
  have y5 := u5.other Y4.out NX.out.2.2.1 NX.out.2.2.2
  have z5 := (fun j (hj : j < 4) => (k5 (0 + j) (by omega)).trans (Z4.out j hj))
  have HT := tl_let w5 h a s x y m (c + 1 + 1 + 1 + 1) L5 A5 h5 x5 y5 HN.out HM.out NX.out.1 NX.out.2.1 NX.out.2.2.1 NX.out.2.2.2 (by have := HC.out; omega) z5
  have U5 := Lib.hid (U4.out.trans u5)
  clear u5 h5 A5 HS4 k5 x5 y5 z5
  go_wp2_with (go_at_call 176; refine HT.mono ?_; rintro e w6 ⟨rfl, c6, L6, A6, u6⟩)
  refine bodyPost_end (results_none rfl _ _ _) rfl ?_
  exact ⟨rfl, U5.out.trans u6⟩
theorem bytes0_one : ∀ v ∈ bytes0, v.oneCell' = true := by
  intro v hv
  rw [List.eq_of_mem_replicate hv]
  rfl
theorem bytes0_at (o : Nat) (h : o + 4 ≤ 512) : ∀ j, j < 4 → bytes0[o + j]? = some (.int .u8 0) := by
  intro j hj
  unfold bytes0
  rw [List.getElem?_replicate]
  simp
  omega
set_option maxRecDepth 100000 in
theorem tl_new (w : World) (a s : Nat) (A : Ar w a s 0 bytes0) : Calls Tryz.prog 39 #[.pointer (some ⟨a, 0, none⟩)] w fun e w' => ∃ h, e = .returned (.tuple #[.pointer (some ⟨h, 0, none⟩), .int .i64 0]) ∧ Upd2 w a s w' := by
  have hmk : ∀ w : World, (Instr.makeSlice 215 (.int .i64 512) (.int .i64 512)).run Tryz.prog w = .ok (.slice (some ⟨w.heap.size, 0, none⟩) 512 512) (w.alloc (.cells bytes0.toArray 5)) := fun _ => by kernel_rfl
  have hmm : ∀ w : World, (Instr.makeMap 218 none).run Tryz.prog w = .ok (.map (some w.heap.size)) (w.alloc (.map #[] 0)) := fun _ => rfl
  have HT := ar_size w a s 0 bytes0 A
  have b1 := (Below.refl w.heap.size w).alloc (Nat.le_refl _) (.map #[] 0)
  have b2 := b1.alloc (by simp) (hpO a (.map (some w.heap.size)))
  have h2 := heap_alloc_new (w.alloc (.map #[] 0)) (hpO a (.map (some w.heap.size)))
  rw [show (w.alloc (.map #[] 0)).heap.size = w.heap.size + 1 by simp] at h2
  have B2 := Lib.hid b2
  have H2 := Lib.hid h2
  have NA := Lib.hid (show w.heap.size + 1 ≠ a from by have := has_lt A.ha; omega)
  have NS := Lib.hid (show w.heap.size + 1 ≠ s from by have := has_lt A.hs; omega)
  have HA := Lib.hid A
  clear A b1 b2 h2
  go_enter Tryz.func39, Tryz.ntmps39
  go_upto_region 4 with (go_at_call 61; refine HT.mono ?_; rintro e w' ⟨rfl, rfl⟩)
  refine world_wp (fun W => Below w.heap.size w W ∧ W.heap[w.heap.size + 1]? = some (hpO a (.map (some w.heap.size)))) ⟨B2.out, H2.out⟩ ?_
  clear B2 H2 HT
  rintro V ⟨b1, h1⟩
  have A1 := HA.out.reads b1
  have HT := ar_size V a s 0 bytes0 A1
  have HA1 := Lib.hid A1
  have A2 : Ar (V.alloc (.cells bytes0.toArray 5)) a s 0 bytes0 := A1.reads ((Below.refl _ V).alloc (Nat.le_refl _) _)
  have HW := ar_write (V.alloc (.cells bytes0.toArray 5)) a s V.heap.size 0 bytes0 bytes0 A2 (heap_alloc_new V _) A2.len bytes0_one
  have h2 : (V.alloc (.cells bytes0.toArray 5)).heap[w.heap.size + 1]? = some (hpO a (.map (some w.heap.size))) := below_alloc_has h1
  have U2 : Upd2 w a s (V.alloc (.cells bytes0.toArray 5)) := Upd2.ofBelow (b1.alloc b1.size _)
  have H2 := Lib.hid h2
  have HU2 := Lib.hid U2
  clear h2 U2 A1 A2 h1 b1
  go_upto_region 5 with (first | (go_at_call 61; refine HT.mono ?_; rintro e w' ⟨rfl, rfl⟩) | (go_at_call 62; refine HW.mono ?_; rintro e w3 ⟨rfl, A3, u3⟩))
  have h3 := u3.other H2.out NA.out NS.out
  have HS := fun z => tl_set w3 (w.heap.size + 1) a s _ 0 bytes0 A3 h3 116 z (by omega) (by omega) (by omega)
  have HU3 := Lib.hid (HU2.out.trans u3)
  have H3 := Lib.hid h3
  clear HT HW h3 u3 A3
  go_upto_region 6 with (go_at_call 63; refine (HS _).mono ?_; rintro e w4 ⟨rfl, L4, A4, k4, u4⟩)
  have h4 := u4.other H3.out NA.out NS.out
  have HT := ar_size w4 a s _ _ A4
  have HP := tl_put w4 (w.heap.size + 1) a s _ _ L4 A4 h4 NA.out NS.out (by omega) (fun j hj => (k4 _ (by omega)).trans (bytes0_at 0 (by omega) j hj)) (fun j hj => (k4 _ (by omega)).trans (bytes0_at 40 (by omega) j hj))
  have HU4 := Lib.hid (HU3.out.trans u4)
  clear HS h4 u4 A4 k4
  go_wp2_with (first | (go_at_call 61; refine HT.mono ?_; rintro e w' ⟨rfl, rfl⟩) | (go_at_call 64; refine HP.mono ?_; rintro e w5 ⟨rfl, u5⟩))
  go_ret2
  exact ⟨_, rfl, HU4.out.trans u5⟩
end Go.Proofs.YtagmlijhgncklaaGreatDoor
