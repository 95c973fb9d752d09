/-
  Putting and taking out, over the translation of this seat. Conditions: the blocks that are named hold what is said.
-/
import Derived.Test.YtagmlijhgncklaaGreatDoorW10
import Derived.RegionTactic
import Derived.BigRegion
import Derived.Laws.BitsAllLaws
set_option linter.unusedVariables false
namespace Go.Proofs.YtagmlijhgncklaaGreatDoor
open Go.RowKit

theorem shl_lt {p : Nat} (h : p < 32) : 1 <<< p < 4294967296 := by
  rw [Nat.one_shiftLeft]
  exact Nat.lt_of_lt_of_le (Nat.pow_lt_pow_right (by decide) h) (by decide)
theorem shl_cast {p : Nat} (h : p < 32) : ((2 : Int) ^ p) % (4294967296 : Int) = ((1 <<< p : Nat) : Int) := by
  have h1 := shl_lt h
  rw [Nat.one_shiftLeft] at h1 ⊢
  have e : (2 : Int) ^ p = ((2 ^ p : Nat) : Int) := by simp
  rw [e]
  generalize 2 ^ p = q at *
  omega
theorem or_lt {a p : Nat} (ha : a < 4294967296) (h : p < 32) : a ||| (1 <<< p) < 4294967296 := Nat.or_lt_two_pow (n := 32) ha (shl_lt h)
theorem bits_or {a p : Nat} (ha : a < 4294967296) (h : p < 32) : bits .or .u32 (a : Int) (((2 : Int) ^ p) % (4294967296 : Int)) = ((a ||| (1 <<< p) : Nat) : Int) := by
  rw [shl_cast h, u32_or_nat a _ ha (shl_lt h)]
theorem bits_andNot {a p : Nat} (ha : a < 4294967296) (h : p < 32) : bits .andNot .u32 (a : Int) (((2 : Int) ^ p) % (4294967296 : Int)) = ((a &&& (4294967295 - (1 <<< p)) : Nat) : Int) := by
  rw [shl_cast h, u32_andNot_nat a _ ha (shl_lt h)]
theorem and_lt {a b : Nat} (ha : a < 4294967296) : a &&& b < 4294967296 := Nat.lt_of_le_of_lt Nat.and_le_left ha
theorem Upd.drew0 {w w' : World} {b : Nat} {o : Obj} (h : Upd w.drew b o w') : Upd w b o w' := ⟨h.1, h.2.os, h.2.tape, h.2.output, h.2.size, h.2.block⟩
theorem Upd.drewN0 {w w' : World} {b : Nat} {o : Obj} {n : Nat} (h : Upd (w.drewN n) b o w') : Upd w b o w' := ⟨h.1, h.2.os, h.2.tape, h.2.output, h.2.size, h.2.block⟩
theorem tail1_c (w : World) (b p x y : Nat) (R : Rd) (st : Int) (h : w.heap[b]? = some (rdO R st)) (k : RdOk R) (hp : p < 32) (hx : w.heap[x]? = some (.cells #[.pointer (some ⟨b, 0, none⟩)] 158 (0, 0))) (hy : w.heap[y]? = some (.cells #[.int .i64 p] 3 (0, 0))) :
    Calls Tryz.prog 326 #[.pointer (some ⟨x, 0, none⟩), .pointer (some ⟨y, 0, none⟩)] w fun e w' => e = .returned (.tuple #[.int .i64 (R.tl.getD p 0), .int .i64 (-1)]) ∧ ∃ m, w' = w.drewN m := by
  have cx := has_cell 0 hx rfl
  have cy := has_cell 0 hy rfl
  have c := has_cell _ h (by rw [List.getElem?_toArray]; exact rd_get_tl k st hp)
  have hpi : (p : Int) < 32 := by omega
  clear h hx hy
  go_enter Tryz.func326, Tryz.ntmps326
  go_wp2_with fail
  go_quiet (fail)
  go_wp2_with fail
  go_ret2
  exact ⟨rfl, _, rfl⟩
theorem head1_c (w : World) (b p x y : Nat) (R : Rd) (st : Int) (h : w.heap[b]? = some (rdO R st)) (k : RdOk R) (hp : p < 32) (hx : w.heap[x]? = some (.cells #[.pointer (some ⟨b, 0, none⟩)] 158 (0, 0))) (hy : w.heap[y]? = some (.cells #[.int .i64 p] 3 (0, 0))) :
    Calls Tryz.prog 454 #[.pointer (some ⟨x, 0, none⟩), .pointer (some ⟨y, 0, none⟩)] w fun e w' => e = .returned (.tuple #[.int .i64 (-1), .int .i64 (R.hd.getD p 0)]) ∧ ∃ m, w' = w.drewN m := by
  have cx := has_cell 0 hx rfl
  have cy := has_cell 0 hy rfl
  have c := has_cell _ h (by rw [List.getElem?_toArray]; exact rd_get_hd k st hp)
  have hpi : (p : Int) < 32 := by omega
  clear h hx hy
  go_enter Tryz.func454, Tryz.ntmps454
  go_wp2_with fail
  go_quiet (fail)
  go_wp2_with fail
  go_ret2
  exact ⟨rfl, _, rfl⟩
set_option maxHeartbeats 400000 in
theorem put_tail (w : World) (b p t x y : Nat) (R : Rd) (st : Int) (h : w.heap[b]? = some (rdO R st)) (k : RdOk R) (hp1 : 1 ≤ p) (hp : p < 32) (ht : t < 16) (hz : R.pr.getD t 0 = 0) (hl : Lk (R.tl.getD p 0)) (h0 : 0 ≤ st) (h1 : st ≤ 800000000)
    (hx : w.heap[x]? = some (.cells #[.pointer (some ⟨b, 0, none⟩)] 158 (0, 0))) (hy : w.heap[y]? = some (.cells #[.int .i64 p] 3 (0, 0))) :
    Calls Tryz.prog 325 #[.pointer (some ⟨b, 0, none⟩), .int .i64 p, .int .i64 t, .func (.func 326) #[] #[.pointer (some ⟨x, 0, none⟩), .pointer (some ⟨y, 0, none⟩)]] w fun e w' => e = .returned (.int .i64 0) ∧ Upd w b (rdO (R.tailF p t) (st + 4)) w' := by
  have hpi : (p : Int) < 32 := by omega
  have hp1i : 1 ≤ (p : Int) := by omega
  have hti : (t : Int) < 16 := by omega
  have c := has_cell _ h (by rw [List.getElem?_toArray]; exact rd_get_pr k st ht)
  rw [hz] at c
  have c1 : w.cell? ⟨b, 1, none⟩ = some (.int .u32 R.sm) := has_cell 1 h rfl
  have fz := has_free h
  have T := there_c w b R st h
  have H := Lib.hid h
  have HL := Lib.hid hl
  have HX := Lib.hid hx
  have HY := Lib.hid hy
  have HZ := Lib.hid hz
  clear h hl hx hy hz
  go_enter Tryz.func325, Tryz.ntmps325
  go_wp2_with (first | (go_at_call 169; refine T.mono ?_; rintro e w' ⟨rfl, rfl⟩) | (go_at_call 452; refine (thread_c _ _ (by omega) (by omega)).mono ?_; rintro e w' ⟨rfl, rfl⟩) | (go_at_call 326; refine (tail1_c w b p x y R st H.out k hp HX.out HY.out).mono ?_; rintro e w' ⟨rfl, m, rfl⟩))
  go_region
  go_wp2_with fail
  refine calls_world (fun W => Upd w b (rdO { R with pr := R.pr.set t p, sm := R.sm ||| (1 <<< p) } st) W) ?_ ?_
  · rw [bits_or k.sm hp]
    exact ((((Upd.refl (w := w.drewN m) H.out).setCell (98 + t) (.int .i64 p)).setCell 1 (.int .u32 (R.sm ||| (1 <<< p) : Nat))).drewN0.drew).to (by rw [rd_set_pr k _ ht, rd_set_sm]; rfl)
  clear T c c1 fz
  intro W U
  have k2 : RdOk { R with pr := R.pr.set t p, sm := R.sm ||| (1 <<< p) } := (k.set_pr t p).set_sm (or_lt k.sm hp)
  have HU := Lib.hid U
  refine (join_c W b p _ st _ t U.1 k2 hp HL.out (.inr ⟨t, rfl, ht⟩) h0 (by omega)).mono ?_; rintro e w1 ⟨rfl, u1⟩
  clear U
  go_wp2_with fail
  refine (join_c w1 b p _ (st + 2) _ _ u1.1 (k2.joinF _ _ _) hp (.inr ⟨t, rfl, ht⟩) (.inl rfl) (by omega) (by omega)).mono ?_; rintro e w2 ⟨rfl, u2⟩
  have HU2 := Lib.hid ((HU.out.trans u1).trans u2)
  clear u1 u2
  go_wp2_with fail
  go_ret
  exact ⟨rfl, HU2.out.to (by rw [show st + 2 + 2 = st + 4 by omega]; simp [Rd.tailF, Rd.putF])⟩
theorem tailF_c (w : World) (b p t : Nat) (R : Rd) (st : Int) (h : w.heap[b]? = some (rdO R st)) (k : RdOk R) (hp1 : 1 ≤ p) (hp : p < 32) (ht : t < 16) (hz : R.pr.getD t 0 = 0) (hl : Lk (R.tl.getD p 0)) (h0 : 0 ≤ st) (h1 : st ≤ 800000000) :
    Calls Tryz.prog 182 #[.pointer (some ⟨b, 0, none⟩), .int .i64 p, .int .i64 t] w fun e w' => e = .returned (.int .i64 0) ∧ Upd w b (rdO (R.tailF p t) (st + 4)) w' := by
  go_enter Tryz.func182, Tryz.ntmps182
  have x1 := heap_alloc_new w (.cells #[.pointer (some ⟨b, 0, none⟩)] 158)
  have B1 := (Below.refl w.heap.size w).alloc (Nat.le_refl _) (.cells #[.pointer (some ⟨b, 0, none⟩)] 158)
  have B2 := B1.alloc (by simp) (.cells #[.int .i64 p] 3)
  have x2 := heap_alloc_new (w.alloc (.cells #[.pointer (some ⟨b, 0, none⟩)] 158)) (.cells #[.int .i64 p] 3)
  have x1' := below_alloc_has (o := .cells #[.int .i64 p] 3) x1
  go_wp2_with fail
  refine calls_world (fun W => W.heap[w.heap.size]? = some (.cells #[.pointer (some ⟨b, 0, none⟩)] 158 (0, 0)) ∧ W.heap[w.heap.size + 1]? = some (.cells #[.int .i64 p] 3 (0, 0)) ∧ Below w.heap.size w W) ⟨x1', by simpa using x2, B2⟩ ?_
  clear x1 x2 B1 B2 x1'
  rintro W ⟨x1, x2, B⟩
  refine (put_tail W b p t _ _ R st (below_has B h) k hp1 hp ht hz hl h0 h1 x1 x2).mono ?_; rintro e w1 ⟨rfl, u⟩
  have HU := Lib.hid (Upd.after B u)
  clear x1 x2 B u
  go_wp2_with fail
  go_ret
  exact ⟨rfl, HU.out⟩
set_option maxHeartbeats 400000 in
theorem put_head (w : World) (b p t x y : Nat) (R : Rd) (st : Int) (h : w.heap[b]? = some (rdO R st)) (k : RdOk R) (hp1 : 1 ≤ p) (hp : p < 32) (ht : t < 16) (hz : R.pr.getD t 0 = 0) (hl : Lk (R.hd.getD p 0)) (h0 : 0 ≤ st) (h1 : st ≤ 800000000)
    (hx : w.heap[x]? = some (.cells #[.pointer (some ⟨b, 0, none⟩)] 158 (0, 0))) (hy : w.heap[y]? = some (.cells #[.int .i64 p] 3 (0, 0))) :
    Calls Tryz.prog 325 #[.pointer (some ⟨b, 0, none⟩), .int .i64 p, .int .i64 t, .func (.func 454) #[] #[.pointer (some ⟨x, 0, none⟩), .pointer (some ⟨y, 0, none⟩)]] w fun e w' => e = .returned (.int .i64 0) ∧ Upd w b (rdO (R.headF p t) (st + 4)) w' := by
  have hpi : (p : Int) < 32 := by omega
  have hp1i : 1 ≤ (p : Int) := by omega
  have hti : (t : Int) < 16 := by omega
  have c := has_cell _ h (by rw [List.getElem?_toArray]; exact rd_get_pr k st ht)
  rw [hz] at c
  have c1 : w.cell? ⟨b, 1, none⟩ = some (.int .u32 R.sm) := has_cell 1 h rfl
  have fz := has_free h
  have T := there_c w b R st h
  have H := Lib.hid h
  have HL := Lib.hid hl
  have HX := Lib.hid hx
  have HY := Lib.hid hy
  have HZ := Lib.hid hz
  clear h hl hx hy hz
  go_enter Tryz.func325, Tryz.ntmps325
  go_wp2_with (first | (go_at_call 169; refine T.mono ?_; rintro e w' ⟨rfl, rfl⟩) | (go_at_call 452; refine (thread_c _ _ (by omega) (by omega)).mono ?_; rintro e w' ⟨rfl, rfl⟩) | (go_at_call 454; refine (head1_c w b p x y R st H.out k hp HX.out HY.out).mono ?_; rintro e w' ⟨rfl, m, rfl⟩))
  go_region
  go_wp2_with fail
  refine calls_world (fun W => Upd w b (rdO { R with pr := R.pr.set t p, sm := R.sm ||| (1 <<< p) } st) W) ?_ ?_
  · rw [bits_or k.sm hp]
    exact ((((Upd.refl (w := w.drewN m) H.out).setCell (98 + t) (.int .i64 p)).setCell 1 (.int .u32 (R.sm ||| (1 <<< p) : Nat))).drewN0.drew).to (by rw [rd_set_pr k _ ht, rd_set_sm]; rfl)
  clear T c c1 fz
  intro W U
  have k2 : RdOk { R with pr := R.pr.set t p, sm := R.sm ||| (1 <<< p) } := (k.set_pr t p).set_sm (or_lt k.sm hp)
  have HU := Lib.hid U
  refine (join_c W b p _ st _ t U.1 k2 hp (.inl rfl) (.inr ⟨t, rfl, ht⟩) h0 (by omega)).mono ?_; rintro e w1 ⟨rfl, u1⟩
  clear U
  go_wp2_with fail
  refine (join_c w1 b p _ (st + 2) _ _ u1.1 (k2.joinF _ _ _) hp (.inr ⟨t, rfl, ht⟩) HL.out (by omega) (by omega)).mono ?_; rintro e w2 ⟨rfl, u2⟩
  have HU2 := Lib.hid ((HU.out.trans u1).trans u2)
  clear u1 u2
  go_wp2_with fail
  go_ret
  exact ⟨rfl, HU2.out.to (by rw [show st + 2 + 2 = st + 4 by omega]; simp [Rd.headF, Rd.putF])⟩
theorem headF_c (w : World) (b p t : Nat) (R : Rd) (st : Int) (h : w.heap[b]? = some (rdO R st)) (k : RdOk R) (hp1 : 1 ≤ p) (hp : p < 32) (ht : t < 16) (hz : R.pr.getD t 0 = 0) (hl : Lk (R.hd.getD p 0)) (h0 : 0 ≤ st) (h1 : st ≤ 800000000) :
    Calls Tryz.prog 303 #[.pointer (some ⟨b, 0, none⟩), .int .i64 p, .int .i64 t] w fun e w' => e = .returned (.int .i64 0) ∧ Upd w b (rdO (R.headF p t) (st + 4)) w' := by
  go_enter Tryz.func303, Tryz.ntmps303
  have x1 := heap_alloc_new w (.cells #[.pointer (some ⟨b, 0, none⟩)] 158)
  have B1 := (Below.refl w.heap.size w).alloc (Nat.le_refl _) (.cells #[.pointer (some ⟨b, 0, none⟩)] 158)
  have B2 := B1.alloc (by simp) (.cells #[.int .i64 p] 3)
  have x2 := heap_alloc_new (w.alloc (.cells #[.pointer (some ⟨b, 0, none⟩)] 158)) (.cells #[.int .i64 p] 3)
  have x1' := below_alloc_has (o := .cells #[.int .i64 p] 3) x1
  go_wp2_with fail
  refine calls_world (fun W => W.heap[w.heap.size]? = some (.cells #[.pointer (some ⟨b, 0, none⟩)] 158 (0, 0)) ∧ W.heap[w.heap.size + 1]? = some (.cells #[.int .i64 p] 3 (0, 0)) ∧ Below w.heap.size w W) ⟨x1', by simpa using x2, B2⟩ ?_
  clear x1 x2 B1 B2 x1'
  rintro W ⟨x1, x2, B⟩
  refine (put_head W b p t _ _ R st (below_has B h) k hp1 hp ht hz hl h0 h1 x1 x2).mono ?_; rintro e w1 ⟨rfl, u⟩
  have HU := Lib.hid (Upd.after B u)
  clear x1 x2 B u
  go_wp2_with fail
  go_ret
  exact ⟨rfl, HU.out⟩
end Go.Proofs.YtagmlijhgncklaaGreatDoor
