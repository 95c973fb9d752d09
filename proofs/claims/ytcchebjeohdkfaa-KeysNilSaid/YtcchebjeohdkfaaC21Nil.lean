/- Keys and controls that are not there, and the walk of KeysNil: it returns true, and turns nothing that was there. Conditions: none. -/
import Derived.Test.YtcchebjeohdkfaaC21Known
namespace Go.Proofs.Ytcchebjeohdkfaa
open Go.RowKit

/-- Keys that are not there, or that New has not made. -/
def Gone (w : World) (a : Option Addr) : Prop := a = none ∨ ∃ b, a = some ⟨b, 0, none⟩ ∧ w.cell? ⟨b, 0, none⟩ = some (.int .i64 0)
theorem Gone.reads {w w' : World} {a : Option Addr} (h : Gone w a) (hb : Below w.heap.size w w') : Gone w' a := by
  rcases h with rfl | ⟨b, rfl, hc⟩
  · exact .inl rfl
  · exact .inr ⟨b, rfl, (hb.cell (p := ⟨b, 0, none⟩) (World.block_lt_of_cell? w ⟨b, 0, none⟩ hc)).trans hc⟩
theorem gthere_c (w : World) (a : Option Addr) (h : Gone w a) : Calls Try.prog 30 #[.pointer a] w fun e w' => e = .returned (.bool false) ∧ w = w' := by
  rcases h with rfl | ⟨b, rfl, hc⟩
  · go_enter Try.func30, Try.ntmps30
    go_wp2
    go_ret
    exact ⟨rfl, rfl⟩
  · go_enter Try.func30, Try.ntmps30
    go_wp2
    go_ret
    exact ⟨rfl, rfl⟩
theorem gof_c (w : World) (a : Option Addr) (i : Int) (h : Gone w a) : Calls Try.prog 49 #[.pointer a, .int .i64 i] w fun e w' => e = .returned (.tuple #[.pointer none, .int .i64 1]) ∧ w = w' := by
  go_enter Try.func49, Try.ntmps49
  go_wp2_with (go_at_call 30; refine (gthere_c _ _ h).mono ?_; rintro e w' ⟨rfl, rfl⟩)
  go_ret2
  exact ⟨rfl, rfl⟩
theorem gcreate_c (w : World) (a : Option Addr) (d : Int) (h : Gone w a) : Calls Try.prog 10 #[.pointer a, .int .i64 d] w fun e w' => e = .returned (.tuple #[.int .i64 0, .int .i64 1]) ∧ w = w' := by
  go_enter Try.func10, Try.ntmps10
  go_wp2_with (go_at_call 30; refine (gthere_c _ _ h).mono ?_; rintro e w' ⟨rfl, rfl⟩)
  go_ret2
  exact ⟨rfl, rfl⟩
theorem gval_c (w : World) (a : Option Addr) (t i : Int) (f : Value) (h : Gone w a) : Calls Try.prog 31 #[.pointer a, .int .i64 t, .int .i64 i, f] w fun e w' => e = .returned (.int .i64 1) ∧ w = w' := by
  go_enter Try.func31, Try.ntmps31
  go_wp2_with (go_at_call 49; refine (gof_c _ _ _ h).mono ?_; rintro e w' ⟨rfl, rfl⟩)
  go_ret
  exact ⟨rfl, rfl⟩
theorem gset_c (w : World) (a : Option Addr) (t i v : Int) (h : Gone w a) : Calls Try.prog 11 #[.pointer a, .int .i64 t, .int .i64 i, .int .i64 v] w fun e w' => e = .returned (.int .i64 1) ∧ Below w.heap.size w w' := by
  go_enter Try.func11, Try.ntmps11
  go_upto_region 1 with fail
  refine world_wp (fun W => Below w.heap.size w W) ((Below.refl _ _).alloc (Nat.le_refl _) _) ?_
  intro W hB
  have hG := h.reads hB
  go_wp2_with (go_at_call 31; refine (gval_c _ _ _ _ _ hG).mono ?_; rintro e w' ⟨rfl, rfl⟩)
  go_ret
  exact ⟨rfl, hB⟩
theorem gget_c (w : World) (a : Option Addr) (t i : Int) (h : Gone w a) : Calls Try.prog 12 #[.pointer a, .int .i64 t, .int .i64 i] w fun e w' => e = .returned (.tuple #[.int .i64 0, .int .i64 1]) ∧ Below w.heap.size w w' := by
  go_enter Try.func12, Try.ntmps12
  go_upto_region 2 with fail
  refine world_wp (fun W => Below w.heap.size w W ∧ W.heap[w.heap.size]? = some (.cells #[.int .i64 0] 2 (0, 0))) ⟨(Below.refl _ _).alloc (Nat.le_refl _) _, heap_alloc_new _ _⟩ ?_
  rintro W ⟨hB, hX⟩
  have hG := h.reads hB
  have c0 := has_cell 0 hX rfl
  go_wp2_with (go_at_call 31; refine (gval_c _ _ _ _ _ hG).mono ?_; rintro e w' ⟨rfl, rfl⟩)
  go_ret2
  exact ⟨rfl, hB⟩
theorem gnext_c (w : World) (a : Option Addr) (t : Int) (h : Gone w a) : Calls Try.prog 13 #[.pointer a, .int .i64 t] w fun e w' => e = .returned (.tuple #[.agg #[.int .i64 0, .int .i64 0], .bool false]) ∧ Below w.heap.size w w' := by
  go_enter Try.func13, Try.ntmps13
  go_upto_region 1 with fail
  refine world_wp (fun W => Below w.heap.size w W ∧ W.heap[w.heap.size]? = some (.cells #[.int .i64 0, .int .i64 0] 37 (0, 0))) ⟨(Below.refl _ _).alloc (Nat.le_refl _) _, heap_alloc_new _ _⟩ ?_
  rintro W ⟨hB, hX⟩
  have hG := h.reads hB
  have x0 := has_cell 0 hX rfl
  have x1 := has_cell 1 hX rfl
  have fx := has_free hX
  have X := ((Upd.refl hX).setCell 0 (.int .i64 0)).setCell 1 (.int .i64 0)
  have q0 := has_cell 0 X.1 rfl
  have q1 := has_cell 1 X.1 rfl
  have hB2 := hB.trans (X.below (Nat.le_refl _) hB.size)
  clear X hX
  go_step3
  go_wp2_with (go_at_call 30; refine (gthere_c _ _ hG).mono ?_; rintro e w' ⟨rfl, rfl⟩)
  try simp only [Exit.noGoto]
  refine bodyPost_ret (v := .tuple #[.agg #[.int .i64 0, .int .i64 0], .bool false]) ?_ rfl ⟨rfl, hB2⟩
  simp [results, Try.f13, go_sem, q0, q1]
theorem ground_c (w : World) (a : Option Addr) (t : Int) (h : Gone w a) : Calls Try.prog 14 #[.pointer a, .int .i64 t] w fun e w' => e = .returned (.int .i64 0) ∧ w = w' := by
  go_enter Try.func14, Try.ntmps14
  go_wp2_with (go_at_call 30; refine (gthere_c _ _ h).mono ?_; rintro e w' ⟨rfl, rfl⟩)
  go_ret
  exact ⟨rfl, rfl⟩
theorem gdelete_c (w : World) (a : Option Addr) (i : Int) (h : Gone w a) : Calls Try.prog 26 #[.pointer a, .int .i64 i] w fun e w' => e = .returned (.int .i64 1) ∧ w = w' := by
  go_enter Try.func26, Try.ntmps26
  go_wp2_with (go_at_call 49; refine (gof_c _ _ _ h).mono ?_; rintro e w' ⟨rfl, rfl⟩)
  go_ret
  exact ⟨rfl, rfl⟩
theorem gclear_c (w : World) (a : Option Addr) (t : Int) (h : Gone w a) : Calls Try.prog 25 #[.pointer a, .int .i64 t] w fun e w' => e = .returned (.int .i64 1) ∧ w = w' := by
  go_enter Try.func25, Try.ntmps25
  go_wp2_with (go_at_call 30; refine (gthere_c _ _ h).mono ?_; rintro e w' ⟨rfl, rfl⟩)
  go_ret
  exact ⟨rfl, rfl⟩
theorem gmade_c (w : World) (a : Option Addr) (i : Int) (h : Gone w a) : Calls Try.prog 46 #[.pointer a, .int .i64 i] w fun e w' => e = .returned (.tuple #[.int .i64 0, .bool false]) ∧ w = w' := by
  go_enter Try.func46, Try.ntmps46
  go_wp2_with (go_at_call 49; refine (gof_c _ _ _ h).mono ?_; rintro e w' ⟨rfl, rfl⟩)
  go_ret2
  exact ⟨rfl, rfl⟩
theorem glen_c (w : World) (a : Option Addr) (h : Gone w a) : Calls Try.prog 48 #[.pointer a] w fun e w' => e = .returned (.int .i64 0) ∧ w = w' := by
  go_enter Try.func48, Try.ntmps48
  go_wp2_with fail
  go_loopw [3, 7] (fun n i wr => n = .int .i64 0 ∧ ∃ j : Nat, i = .int .i64 j ∧ j ≤ 8 ∧ w = wr) (fun _ i _ => 8 - (intOf i).toNat)
  case atStart => exact ⟨rfl, 0, rfl, Nat.zero_le _, rfl⟩
  case round =>
    obtain ⟨rfl, j, rfl, hj, rfl⟩ := hrel
    by_cases hlt : j < 8
    · have hji : (j : Int) < 8 := by omega
      have HK := Lib.hid hlt
      clear hlt
      go_wp2_with (go_at_call 46; refine (gmade_c _ _ _ h).mono ?_; rintro e w' ⟨rfl, rfl⟩)
      go_roundw
      case rel => exact ⟨by simp, j + 1, by go_num, HK.out, by simp⟩
      case measure => have := HK.out; simp [intOf]; omega
    · obtain rfl : j = 8 := by omega
      go_wp2_with fail
      go_ret
      exact ⟨rfl, rfl⟩
theorem gcopy_c (w : World) (a : Option Addr) (h : Gone w a) : Calls Try.prog 45 #[.pointer a] w fun e w' => e = .returned (.pointer none) ∧ w = w' := by
  go_enter Try.func45, Try.ntmps45
  go_wp2_with (go_at_call 30; refine (gthere_c _ _ h).mono ?_; rintro e w' ⟨rfl, rfl⟩)
  go_ret
  exact ⟨rfl, rfl⟩
theorem gsame_c (w : World) (a : Option Addr) (h : Gone w a) : Calls Try.prog 28 #[.pointer a, .pointer none] w fun e w' => e = .returned (.bool true) ∧ w = w' := by
  have T1 := Lib.hid (gthere_c w a h)
  have T2 := Lib.hid (gthere_c w none (.inl rfl))
  go_enter Try.func28, Try.ntmps28
  go_wp2_with (go_at_call 30; first | ((with_reducible refine T1.out.mono ?_); rintro e w' ⟨rfl, rfl⟩) | ((with_reducible refine T2.out.mono ?_); rintro e w' ⟨rfl, rfl⟩))
  go_ret
  exact ⟨rfl, rfl⟩
theorem same_nil_c (w : World) (b : Nat) (s : Ks) (h : w.heap[b]? = some (kO s)) (ok : KOk s) : Calls Try.prog 28 #[.pointer (some ⟨b, 0, none⟩), .pointer none] w fun e w' => e = .returned (.bool false) ∧ w = w' := by
  have T1 := Lib.hid (there_c w b s h ok)
  have T2 := Lib.hid (gthere_c w none (.inl rfl))
  go_enter Try.func28, Try.ntmps28
  go_wp2_with (go_at_call 30; first | ((with_reducible refine T1.out.mono ?_); rintro e w' ⟨rfl, rfl⟩) | ((with_reducible refine T2.out.mono ?_); rintro e w' ⟨rfl, rfl⟩))
  go_ret
  exact ⟨rfl, rfl⟩
/-! No control. -/
theorem nasko_c (w : World) (t : Int) (f : Value) : Calls Try.prog 35 #[.pointer none, .int .i64 t, f] w fun e w' => e = .returned (.int .i64 1) ∧ w = w' := by
  go_enter Try.func35, Try.ntmps35
  go_wp2
  go_ret
  exact ⟨rfl, rfl⟩
theorem nask_c (w : World) (t : Int) : Calls Try.prog 16 #[.pointer none, .int .i64 t] w fun e w' => e = .returned (.tuple #[.int .i64 0, .int .i64 1]) ∧ Below w.heap.size w w' := by
  go_enter Try.func16, Try.ntmps16
  go_upto_region 1 with fail
  refine world_wp (fun W => Below w.heap.size w W ∧ W.heap[w.heap.size]? = some (.cells #[.pointer none] 43 (0, 0)) ∧ W.heap[w.heap.size + 1]? = some (.cells #[.int .i64 t] 3 (0, 0))) ⟨((Below.refl _ _).alloc (Nat.le_refl _) _).alloc (by simp) _, below_alloc_has (heap_alloc_new _ _), by have := heap_alloc_new (w.alloc (.cells #[.pointer none] 43)) (.cells #[.int .i64 t] 3); rwa [World.size_alloc] at this⟩ ?_
  rintro W ⟨hB, hX, hY⟩
  have c0 := has_cell 0 hX rfl
  have c1 := has_cell 0 hY rfl
  go_wp2_with (go_at_call 35; refine (nasko_c _ _ _).mono ?_; rintro e w' ⟨rfl, rfl⟩)
  go_ret2
  exact ⟨rfl, hB⟩
theorem nend_c (w : World) (t : Int) (d : Bool) : Calls Try.prog 18 #[.pointer none, .int .i64 t, .bool d] w fun e w' => e = .returned (.int .i64 1) ∧ Below w.heap.size w w' := by
  go_enter Try.func18, Try.ntmps18
  go_upto_region 1 with fail
  refine world_wp (fun W => Below w.heap.size w W ∧ W.heap[w.heap.size]? = some (.cells #[.pointer none] 43 (0, 0)) ∧ W.heap[w.heap.size + 1]? = some (.cells #[.int .i64 t] 3 (0, 0))) ⟨((Below.refl _ _).alloc (Nat.le_refl _) _).alloc (by simp) _, below_alloc_has (heap_alloc_new _ _), by have := heap_alloc_new (w.alloc (.cells #[.pointer none] 43)) (.cells #[.int .i64 t] 3); rwa [World.size_alloc] at this⟩ ?_
  rintro W ⟨hB, hX, hY⟩
  have c0 := has_cell 0 hX rfl
  have c1 := has_cell 0 hY rfl
  go_wp2_with (go_at_call 35; refine (nasko_c _ _ _).mono ?_; rintro e w' ⟨rfl, rfl⟩)
  go_ret
  exact ⟨rfl, hB⟩
theorem nat_c (w : World) : Calls Try.prog 21 #[.pointer none] w fun e w' => e = .returned (.tuple #[.int .i64 0, .int .i64 0]) ∧ w = w' := by
  go_enter Try.func21, Try.ntmps21
  go_wp2
  go_ret2
  exact ⟨rfl, rfl⟩
theorem ncopy_c (w : World) : Calls Try.prog 20 #[.pointer none] w fun e w' => e = .returned (.pointer none) ∧ w = w' := by
  go_enter Try.func20, Try.ntmps20
  go_wp2
  go_ret
  exact ⟨rfl, rfl⟩
set_option maxRecDepth 100000 in
set_option maxHeartbeats 2000000 in
theorem nothing_c (w : World) (a : Option Addr) (h : Gone w a) : Calls Try.prog 27 #[.pointer a] w fun e w' => e = .returned (.bool true) ∧ Below w.heap.size w w' := by
  have hB := Below.refl w.heap.size w
  go_enter Try.func27, Try.ntmps27
  go_wp2_with fail
  refine (gcreate_c _ _ _ h).mono ?_; rintro e w' ⟨rfl, rfl⟩
  go_wp2_with fail
  refine (gget_c _ _ _ _ h).mono ?_; rintro e w1 ⟨rfl, hb⟩
  replace hB := hB.trans (hb.mono hB.size)
  replace h := h.reads hb
  clear hb
  go_wp2_with fail
  refine (gnext_c _ _ _ h).mono ?_; rintro e w2 ⟨rfl, hb⟩
  replace hB := hB.trans (hb.mono hB.size)
  replace h := h.reads hb
  clear hb
  go_upto_region 4 with fail
  refine world_wp (fun W => Below w2.heap.size w2 W) ((Below.refl _ _).alloc (Nat.le_refl _) _) ?_
  intro w3 hb
  replace hB := hB.trans (hb.mono hB.size)
  replace h := h.reads hb
  clear hb
  go_wp2_with fail
  refine (gmade_c _ _ _ h).mono ?_; rintro e w' ⟨rfl, rfl⟩
  go_wp2_with fail
  refine (nask_c _ _).mono ?_; rintro e w4 ⟨rfl, hb⟩
  replace hB := hB.trans (hb.mono hB.size)
  replace h := h.reads hb
  clear hb
  go_wp2_with fail
  refine (nat_c _).mono ?_; rintro e w' ⟨rfl, rfl⟩
  go_wp2_with (go_at_call 9; refine (num_c _ _).mono ?_; rintro e w' ⟨rfl, rfl⟩)
  refine (gdelete_c _ _ _ h).mono ?_; rintro e w' ⟨rfl, rfl⟩
  go_wp2_with (go_at_call 9; refine (num_c _ _).mono ?_; rintro e w' ⟨rfl, rfl⟩)
  refine (gset_c _ _ _ _ _ h).mono ?_; rintro e w5 ⟨rfl, hb⟩
  replace hB := hB.trans (hb.mono hB.size)
  replace h := h.reads hb
  clear hb
  go_wp2_with (go_at_call 9; refine (num_c _ _).mono ?_; rintro e w' ⟨rfl, rfl⟩)
  refine (gclear_c _ _ _ h).mono ?_; rintro e w' ⟨rfl, rfl⟩
  go_wp2_with (go_at_call 9; refine (num_c _ _).mono ?_; rintro e w' ⟨rfl, rfl⟩)
  refine (ground_c _ _ _ h).mono ?_; rintro e w' ⟨rfl, rfl⟩
  go_wp2_with (go_at_call 9; refine (num_c _ _).mono ?_; rintro e w' ⟨rfl, rfl⟩)
  refine (glen_c _ _ h).mono ?_; rintro e w' ⟨rfl, rfl⟩
  go_wp2_with (go_at_call 9; refine (num_c _ _).mono ?_; rintro e w' ⟨rfl, rfl⟩)
  refine (gcopy_c _ _ h).mono ?_; rintro e w' ⟨rfl, rfl⟩
  go_wp2_with (go_at_call 9; refine (num_c _ _).mono ?_; rintro e w' ⟨rfl, rfl⟩)
  refine (gsame_c _ _ h).mono ?_; rintro e w' ⟨rfl, rfl⟩
  go_wp2_with (go_at_call 9; refine (num_c _ _).mono ?_; rintro e w' ⟨rfl, rfl⟩)
  refine (nend_c _ _ _).mono ?_; rintro e w6 ⟨rfl, hb⟩
  replace hB := hB.trans (hb.mono hB.size)
  replace h := h.reads hb
  clear hb
  go_wp2_with (go_at_call 9; refine (num_c _ _).mono ?_; rintro e w' ⟨rfl, rfl⟩)
  refine (ncopy_c _).mono ?_; rintro e w' ⟨rfl, rfl⟩
  go_wp2_with (go_at_call 9; refine (num_c _ _).mono ?_; rintro e w' ⟨rfl, rfl⟩)
  go_ret
  exact ⟨rfl, hB⟩

def r0 : Ks := newK 8
theorem r0_ok : KOk r0 := newK_ok (by decide) (by decide)
def r1 : Ks := makeF r0 0 31
theorem r1_ok : KOk r1 := makeF_ok r0_ok _ _
def r2 : Ks := setF r1 15 0 1
theorem r2_ok : KOk r2 := setF_ok r1_ok _ _ _
def r3 : Ks := setF r2 16 0 1
theorem r3_ok : KOk r3 := setF_ok r2_ok _ _ _
def r4 : Ks := setF r3 (-1) 9 1
theorem r4_ok : KOk r4 := setF_ok r3_ok _ _ _
def t0 : Ks := newK 2
theorem t0_ok : KOk t0 := newK_ok (by decide) (by decide)
def t1 : Ks := makeF t0 0 1
theorem t1_ok : KOk t1 := makeF_ok t0_ok _ _
def t2 : Ks := makeF t1 1 2
theorem t2_ok : KOk t2 := makeF_ok t1_ok _ _
def t3 : Ks := setF t2 3 1 7
theorem t3_ok : KOk t3 := setF_ok t2_ok _ _ _
def t4 : Ks := clearF t3 3
theorem t4_ok : KOk t4 := clearF_ok t3_ok _

set_option maxRecDepth 100000 in
set_option maxHeartbeats 4000000 in
theorem nil_claim (w : World) : Calls Try.prog 6 #[] w fun e w' => e = .returned (.bool true) ∧ Below w.heap.size w w' := by
  obtain ⟨Z, hz, hZ0⟩ : ∃ Z : Array Value, (∀ w, (zeroValue 80).run Try.prog w = .ok (.agg Z) w) ∧ Z[0]? = some (.int .i64 0) :=
    ⟨(ksC (newK 0)).toArray, fun w => by kernel_rfl, by simp [ksC, newK]⟩
  have HZ := Lib.hid hz
  have HZ0 := Lib.hid hZ0
  clear hz hZ0
  go_enter Try.func6, Try.ntmps6
  go_wp2_with fail
  refine (new_c w 8 (by decide) (by decide)).mono ?_; rintro e w0 ⟨rfl, hG, hB, _⟩
  have hG : w0.heap[w.heap.size]? = some (kO r0) := hG
  have hbl := has_lt hG
  go_wp2_with fail
  refine (new_bad _ 9 (.inr (by decide))).mono ?_; rintro e w' ⟨rfl, rfl⟩
  go_wp2_with fail
  refine (new_bad _ 0 (.inl (by decide))).mono ?_; rintro e w' ⟨rfl, rfl⟩
  go_wp2_with fail
  refine (create_bad _ _ r0 (-2) hG r0_ok (.inl (by decide))).mono ?_; rintro e w' ⟨rfl, rfl⟩
  go_wp2_with fail
  refine (create_x (s := r0) (s' := r1) 0 0 31 rfl hG r0_ok (by decide) (by decide) rfl).mono ?_; rintro e w1 ⟨rfl, hU⟩
  replace hB := hB.trans (hU.below (Nat.le_refl _) hB.size)
  replace hG := hU.1
  clear hU
  go_wp2_with fail
  refine (set_x (s := r1) (s' := r2) (z := 0) 15 0 1 hG r1_ok (by decide) rfl).mono ?_; rintro e w2 ⟨rfl, hU⟩
  replace hB := hB.trans (hU.below (Nat.le_refl _) hB.size)
  replace hG := hU.1
  clear hU
  go_wp2_with fail
  refine (set_x (s := r2) (s' := r3) (z := 2) 16 0 1 hG r2_ok (by decide) rfl).mono ?_; rintro e w3 ⟨rfl, hU⟩
  replace hB := hB.trans (hU.below (Nat.le_refl _) hB.size)
  replace hG := hU.1
  clear hU
  go_wp2_with fail
  refine (set_x (s := r3) (s' := r4) (z := 2) (-1) 9 1 hG r3_ok (by decide) rfl).mono ?_; rintro e w4 ⟨rfl, hU⟩
  replace hB := hB.trans (hU.below (Nat.le_refl _) hB.size)
  replace hG := hU.1
  clear hU
  go_wp2_with fail
  refine (clear_bad _ _ r4 16 hG r4_ok (by decide)).mono ?_; rintro e w' ⟨rfl, rfl⟩
  go_wp2_with fail
  refine (delete_no _ _ r4 8 hG r4_ok (by decide)).mono ?_; rintro e w' ⟨rfl, rfl⟩
  go_wp2_with fail
  refine (new_c w4 2 (by decide) (by decide)).mono ?_; rintro e w5 ⟨rfl, hX, hb, _⟩
  replace hX : w5.heap[w4.heap.size]? = some (kO t0) := hX
  have hlb : w.heap.size < w4.heap.size := has_lt hG
  replace hB := hB.trans (hb.mono hB.size)
  replace hG := below_has hb hG
  clear hb
  obtain ⟨b2, hb2⟩ : ∃ p, w4.heap.size = p := ⟨_, rfl⟩
  rw [hb2] at hX hlb ⊢
  clear hb2
  go_wp2_with fail
  refine (create_x (s := t0) (s' := t1) 0 0 1 rfl hX t0_ok (by decide) (by decide) rfl).mono ?_; rintro e w6 ⟨rfl, hU⟩
  replace hB := hB.trans (hU.below (Nat.le_of_lt hlb) hB.size)
  replace hG := hU.other hG (by omega)
  replace hX := hU.1
  clear hU
  go_wp2_with fail
  refine (create_x (s := t1) (s' := t2) 1 1 2 rfl hX t1_ok (by decide) (by decide) rfl).mono ?_; rintro e w7 ⟨rfl, hU⟩
  replace hB := hB.trans (hU.below (Nat.le_of_lt hlb) hB.size)
  replace hG := hU.other hG (by omega)
  replace hX := hU.1
  clear hU
  go_wp2_with fail
  refine (set_x (s := t2) (s' := t3) (z := 0) 3 1 7 hX t2_ok (by decide) rfl).mono ?_; rintro e w8 ⟨rfl, hU⟩
  replace hB := hB.trans (hU.below (Nat.le_of_lt hlb) hB.size)
  replace hG := hU.other hG (by omega)
  replace hX := hU.1
  clear hU
  go_wp2_with fail
  refine (clear_x (s := t3) (s' := t4) 3 3 rfl hX t3_ok (by decide) rfl).mono ?_; rintro e w9 ⟨rfl, hU⟩
  replace hB := hB.trans (hU.below (Nat.le_of_lt hlb) hB.size)
  replace hG := hU.other hG (by omega)
  replace hX := hU.1
  clear hU
  go_wp2_with fail
  refine (get_x (s := t4) (x := 0) (z := 0) 3 1 hX t4_ok (by decide) (by decide)).mono ?_; rintro e w10 ⟨rfl, hb⟩
  replace hB := hB.trans (hb.mono hB.size)
  replace hG := below_has hb hG
  clear hb hX hlb
  go_wp2_with fail
  refine (newo_c w10).mono ?_; rintro e w11 ⟨rfl, hO, hb⟩
  have hlb : w.heap.size < w10.heap.size := has_lt hG
  replace hB := hB.trans (hb.mono hB.size)
  replace hG := below_has hb hG
  clear hb
  obtain ⟨b3, hb3⟩ : ∃ p, w10.heap.size = p := ⟨_, rfl⟩
  rw [hb3] at hO hlb ⊢
  clear hb3
  go_wp2_with fail
  refine (ask_x (o := ⟨0, 0⟩) (o' := ⟨0, 0⟩) (x := 0) (z := 2) 16 hO rfl rfl rfl).mono ?_; rintro e w12 ⟨rfl, hU⟩
  replace hB := hB.trans (hU.below (Nat.le_of_lt hlb) hB.size)
  replace hG := hU.other hG (by omega)
  replace hO := hU.1
  clear hU
  go_wp2_with fail
  refine (end_x (o := ⟨0, 0⟩) (o' := ⟨0, 0⟩) (z := 7) 0 true hO rfl rfl).mono ?_; rintro e w13 ⟨rfl, hU⟩
  replace hB := hB.trans (hU.below (Nat.le_of_lt hlb) hB.size)
  replace hG := hU.other hG (by omega)
  replace hO := hU.1
  clear hU
  go_wp2_with fail
  refine calls_world (fun W => W.heap[w13.heap.size]? = some (ocO ⟨0, 0⟩) ∧ W.heap[w.heap.size]? = some (kO r4) ∧ Below w.heap.size w W) ⟨heap_alloc_new _ _, below_alloc_has hG, hB.alloc hB.size _⟩ ?_
  have hlb2 : w.heap.size < w13.heap.size := has_lt hG
  clear hG hO hB hlb
  rintro w14 ⟨hO, hG, hB⟩
  obtain ⟨b4, hb4⟩ : ∃ p, w13.heap.size = p := ⟨_, rfl⟩
  rw [hb4] at hO hlb2 ⊢
  clear hb4
  have hlb := hlb2
  clear hlb2
  refine (ask_x (o := ⟨0, 0⟩) (o' := ⟨1, 0⟩) (x := 0) (z := 0) 0 hO rfl rfl rfl).mono ?_; rintro e w15 ⟨rfl, hU⟩
  replace hB := hB.trans (hU.below (Nat.le_of_lt hlb) hB.size)
  replace hG := hU.other hG (by omega)
  clear hU hO hlb
  go_wp2_with (go_at_call 9; refine (num_c _ _).mono ?_; rintro e w' ⟨rfl, rfl⟩)
  refine (nothing_c _ _ (.inl rfl)).mono ?_; rintro e w16 ⟨rfl, hb⟩
  replace hB := hB.trans (hb.mono hB.size)
  replace hG := below_has hb hG
  clear hb
  have hz := HZ.out
  go_wp2_with fail
  clear hz
  refine calls_world (fun W => Gone W (some ⟨w16.heap.size, 0, none⟩) ∧ W.heap[w.heap.size]? = some (kO r4) ∧ Below w.heap.size w W) ⟨.inr ⟨_, rfl, has_cell 0 (heap_alloc_new _ _) HZ0.out⟩, below_alloc_has hG, hB.alloc hB.size _⟩ ?_
  clear hG hB
  rintro w17 ⟨hg, hG, hB⟩
  refine (nothing_c _ _ hg).mono ?_; rintro e w18 ⟨rfl, hb⟩
  replace hB := hB.trans (hb.mono hB.size)
  replace hG := below_has hb hG
  clear hb hg
  go_wp2_with fail
  refine (same_nil_c _ _ r4 hG r4_ok).mono ?_; rintro e w' ⟨rfl, rfl⟩
  go_wp2_with fail
  refine (known_c _).mono ?_; rintro e w19 ⟨rfl, hb⟩
  replace hB := hB.trans (hb.mono hB.size)
  clear hb hG
  go_wp2_with fail
  go_ret
  exact ⟨rfl, hB⟩
end Go.Proofs.Ytcchebjeohdkfaa
