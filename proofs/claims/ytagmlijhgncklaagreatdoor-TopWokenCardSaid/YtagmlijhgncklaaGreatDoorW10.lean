/-
  What the functions of package ready compute, over the translation of this seat. Conditions: the blocks that are named hold what is said.
  What the functions of package ready that write do, over the translation of this seat. Conditions: the blocks that are named hold what is said.
-/
import Derived.Test.YtagmlijhgncklaaGreatDoorProg
import Derived.Test.YtagmlijhgncklaaGreatDoorW09
import Derived.Outline
import Derived.Deep.DeepCutAuto
import Derived.Deep.CutBlock
set_option linter.unusedVariables false
namespace Go.Proofs.YtagmlijhgncklaaGreatDoor
open Go.RowKit

def ints (l : List Int) : List Value := l.map (.int .i64)
@[simp] theorem ints_length (l : List Int) : (ints l).length = l.length := by simp [ints]
theorem ints_get {l : List Int} {i : Nat} (h : i < l.length) : (ints l)[i]? = some (.int .i64 (l.getD i 0)) := by simp [ints, h]
theorem ints_set (l : List Int) (i : Nat) (x : Int) : (ints l).set i (.int .i64 x) = ints (l.set i x) := by simp [ints]
/-- The cells of who is ready; st: the steps. -/
def rdC (R : Rd) (st : Int) : List Value := .bool true :: .int .u32 R.sm :: (ints R.hd ++ (ints R.tl ++ (ints R.nx ++ (ints R.pv ++ (ints R.pr ++ [.int .i64 st])))))
def rdO (R : Rd) (st : Int) : Obj := .cells (rdC R st).toArray 274 (0, 0)
structure RdOk (R : Rd) : Prop where
  sm : R.sm < 4294967296
  hd : R.hd.length = 32
  tl : R.tl.length = 32
  nx : R.nx.length = 16
  pv : R.pv.length = 16
  pr : R.pr.length = 16
theorem rd_get_hd {R : Rd} (k : RdOk R) (st : Int) {i : Nat} (h : i < 32) : (rdC R st)[2 + i]? = some (.int .i64 (R.hd.getD i 0)) := by
  rw [show 2 + i = i + 1 + 1 by omega]
  simp only [rdC, List.getElem?_cons_succ]
  rw [List.getElem?_append_left (by simp [k.hd, h]), ints_get (by rw [k.hd]; exact h)]
theorem rd_get_tl {R : Rd} (k : RdOk R) (st : Int) {i : Nat} (h : i < 32) : (rdC R st)[34 + i]? = some (.int .i64 (R.tl.getD i 0)) := by
  rw [show 34 + i = (32 + i) + 1 + 1 by omega]
  simp only [rdC, List.getElem?_cons_succ]
  rw [List.getElem?_append_right (by simp [k.hd]), ints_length, k.hd, Nat.add_sub_cancel_left, List.getElem?_append_left (by simp [k.tl, h]), ints_get (by rw [k.tl]; exact h)]
theorem rd_get_nx {R : Rd} (k : RdOk R) (st : Int) {i : Nat} (h : i < 16) : (rdC R st)[66 + i]? = some (.int .i64 (R.nx.getD i 0)) := by
  rw [show 66 + i = (32 + (32 + i)) + 1 + 1 by omega]
  simp only [rdC, List.getElem?_cons_succ]
  rw [List.getElem?_append_right (by simp [k.hd]), ints_length, k.hd, Nat.add_sub_cancel_left, List.getElem?_append_right (by simp [k.tl]), ints_length, k.tl, Nat.add_sub_cancel_left, List.getElem?_append_left (by simp [k.nx, h]), ints_get (by rw [k.nx]; exact h)]
theorem rd_get_pv {R : Rd} (k : RdOk R) (st : Int) {i : Nat} (h : i < 16) : (rdC R st)[82 + i]? = some (.int .i64 (R.pv.getD i 0)) := by
  rw [show 82 + i = (32 + (32 + (16 + i))) + 1 + 1 by omega]
  simp only [rdC, List.getElem?_cons_succ]
  rw [List.getElem?_append_right (by simp [k.hd]), ints_length, k.hd, Nat.add_sub_cancel_left, List.getElem?_append_right (by simp [k.tl]), ints_length, k.tl, Nat.add_sub_cancel_left, List.getElem?_append_right (by simp [k.nx]), ints_length, k.nx, Nat.add_sub_cancel_left,
    List.getElem?_append_left (by simp [k.pv, h]), ints_get (by rw [k.pv]; exact h)]
theorem rd_get_pr {R : Rd} (k : RdOk R) (st : Int) {i : Nat} (h : i < 16) : (rdC R st)[98 + i]? = some (.int .i64 (R.pr.getD i 0)) := by
  rw [show 98 + i = (32 + (32 + (16 + (16 + i)))) + 1 + 1 by omega]
  simp only [rdC, List.getElem?_cons_succ]
  rw [List.getElem?_append_right (by simp [k.hd]), ints_length, k.hd, Nat.add_sub_cancel_left, List.getElem?_append_right (by simp [k.tl]), ints_length, k.tl, Nat.add_sub_cancel_left, List.getElem?_append_right (by simp [k.nx]), ints_length, k.nx, Nat.add_sub_cancel_left,
    List.getElem?_append_right (by simp [k.pv]), ints_length, k.pv, Nat.add_sub_cancel_left, List.getElem?_append_left (by simp [k.pr, h]), ints_get (by rw [k.pr]; exact h)]
theorem rd_get_st {R : Rd} (k : RdOk R) (st : Int) : (rdC R st)[114]? = some (.int .i64 st) := by
  rw [show 114 = 112 + 1 + 1 from rfl]
  simp only [rdC, List.getElem?_cons_succ]
  simp [k.hd, k.tl, k.nx, k.pv, k.pr]
theorem rd_set_hd {R : Rd} (k : RdOk R) (st : Int) {i : Nat} (h : i < 32) (x : Int) : (rdC R st).toArray.setIfInBounds (2 + i) (.int .i64 x) = (rdC { R with hd := R.hd.set i x } st).toArray := by
  rw [List.setIfInBounds_toArray, show 2 + i = i + 1 + 1 by omega]
  simp only [rdC, List.set_cons_succ]
  rw [List.set_append_left _ _ (by simp [k.hd, h]), ints_set]
theorem rd_set_tl {R : Rd} (k : RdOk R) (st : Int) {i : Nat} (h : i < 32) (x : Int) : (rdC R st).toArray.setIfInBounds (34 + i) (.int .i64 x) = (rdC { R with tl := R.tl.set i x } st).toArray := by
  rw [List.setIfInBounds_toArray, show 34 + i = (32 + i) + 1 + 1 by omega]
  simp only [rdC, List.set_cons_succ]
  rw [List.set_append_right _ _ (by simp [k.hd]), ints_length, k.hd, Nat.add_sub_cancel_left, List.set_append_left _ _ (by simp [k.tl, h]), ints_set]
theorem rd_set_nx {R : Rd} (k : RdOk R) (st : Int) {i : Nat} (h : i < 16) (x : Int) : (rdC R st).toArray.setIfInBounds (66 + i) (.int .i64 x) = (rdC { R with nx := R.nx.set i x } st).toArray := by
  rw [List.setIfInBounds_toArray, show 66 + i = (32 + (32 + i)) + 1 + 1 by omega]
  simp only [rdC, List.set_cons_succ]
  rw [List.set_append_right _ _ (by simp [k.hd]), ints_length, k.hd, Nat.add_sub_cancel_left, List.set_append_right _ _ (by simp [k.tl]), ints_length, k.tl, Nat.add_sub_cancel_left, List.set_append_left _ _ (by simp [k.nx, h]), ints_set]
theorem rd_set_pv {R : Rd} (k : RdOk R) (st : Int) {i : Nat} (h : i < 16) (x : Int) : (rdC R st).toArray.setIfInBounds (82 + i) (.int .i64 x) = (rdC { R with pv := R.pv.set i x } st).toArray := by
  rw [List.setIfInBounds_toArray, show 82 + i = (32 + (32 + (16 + i))) + 1 + 1 by omega]
  simp only [rdC, List.set_cons_succ]
  rw [List.set_append_right _ _ (by simp [k.hd]), ints_length, k.hd, Nat.add_sub_cancel_left, List.set_append_right _ _ (by simp [k.tl]), ints_length, k.tl, Nat.add_sub_cancel_left, List.set_append_right _ _ (by simp [k.nx]), ints_length, k.nx, Nat.add_sub_cancel_left, List.set_append_left _ _ (by simp [k.pv, h]), ints_set]
theorem rd_set_pr {R : Rd} (k : RdOk R) (st : Int) {i : Nat} (h : i < 16) (x : Int) : (rdC R st).toArray.setIfInBounds (98 + i) (.int .i64 x) = (rdC { R with pr := R.pr.set i x } st).toArray := by
  rw [List.setIfInBounds_toArray, show 98 + i = (32 + (32 + (16 + (16 + i)))) + 1 + 1 by omega]
  simp only [rdC, List.set_cons_succ]
  rw [List.set_append_right _ _ (by simp [k.hd]), ints_length, k.hd, Nat.add_sub_cancel_left, List.set_append_right _ _ (by simp [k.tl]), ints_length, k.tl, Nat.add_sub_cancel_left, List.set_append_right _ _ (by simp [k.nx]), ints_length, k.nx, Nat.add_sub_cancel_left,
    List.set_append_right _ _ (by simp [k.pv]), ints_length, k.pv, Nat.add_sub_cancel_left, List.set_append_left _ _ (by simp [k.pr, h]), ints_set]
theorem rd_set_st {R : Rd} (k : RdOk R) (st : Int) (x : Int) : (rdC R st).toArray.setIfInBounds 114 (.int .i64 x) = (rdC R x).toArray := by
  rw [List.setIfInBounds_toArray, show 114 = 112 + 1 + 1 from rfl]
  simp only [rdC, List.set_cons_succ]
  simp [k.hd, k.tl, k.nx, k.pv, k.pr]
theorem rd_set_sm {R : Rd} (st : Int) (x : Nat) : (rdC R st).toArray.setIfInBounds 1 (.int .u32 x) = (rdC { R with sm := x } st).toArray := by
  rw [List.setIfInBounds_toArray]
  rfl
theorem RdOk.set_hd {R : Rd} (k : RdOk R) (i : Nat) (x : Int) : RdOk { R with hd := R.hd.set i x } := ⟨k.sm, by simp [k.hd], k.tl, k.nx, k.pv, k.pr⟩
theorem RdOk.set_tl {R : Rd} (k : RdOk R) (i : Nat) (x : Int) : RdOk { R with tl := R.tl.set i x } := ⟨k.sm, k.hd, by simp [k.tl], k.nx, k.pv, k.pr⟩
theorem RdOk.set_nx {R : Rd} (k : RdOk R) (i : Nat) (x : Int) : RdOk { R with nx := R.nx.set i x } := ⟨k.sm, k.hd, k.tl, by simp [k.nx], k.pv, k.pr⟩
theorem RdOk.set_pv {R : Rd} (k : RdOk R) (i : Nat) (x : Int) : RdOk { R with pv := R.pv.set i x } := ⟨k.sm, k.hd, k.tl, k.nx, by simp [k.pv], k.pr⟩
theorem RdOk.set_pr {R : Rd} (k : RdOk R) (i : Nat) (x : Int) : RdOk { R with pr := R.pr.set i x } := ⟨k.sm, k.hd, k.tl, k.nx, k.pv, by simp [k.pr]⟩
theorem RdOk.set_sm {R : Rd} (k : RdOk R) {x : Nat} (h : x < 4294967296) : RdOk { R with sm := x } := ⟨h, k.hd, k.tl, k.nx, k.pv, k.pr⟩
theorem RdOk.joinF {R : Rd} (k : RdOk R) (p : Nat) (a b : Int) : RdOk (R.joinF p a b) := by
  unfold Rd.joinF
  dsimp only
  have k1 : RdOk (if a = -1 then { R with hd := R.hd.set p b } else { R with nx := R.nx.set a.toNat b }) := by
    split
    · exact k.set_hd _ _
    · exact k.set_nx _ _
  split
  · exact k1.set_tl _ _
  · exact k1.set_pv _ _

theorem there_c (w : World) (b : Nat) (R : Rd) (st : Int) (h : w.heap[b]? = some (rdO R st)) : Calls Tryz.prog 169 #[.pointer (some ⟨b, 0, none⟩)] w fun e w' => e = .returned (.bool true) ∧ w = w' := by
  have c := has_cell 0 h rfl
  clear h
  go_enter Tryz.func169, Tryz.ntmps169
  go_wp2
  go_ret
  exact ⟨rfl, rfl⟩
theorem thread_c (w : World) (t : Int) (h0 : 0 ≤ t) (h1 : t < 16) : Calls Tryz.prog 452 #[.int .i64 t] w fun e w' => e = .returned (.bool true) ∧ w = w' := by
  go_enter Tryz.func452, Tryz.ntmps452
  go_wp2
  go_ret
  exact ⟨rfl, rfl⟩
theorem link_c (w : World) (b off : Nat) (cs : Array Value) (st y : Int) (v : Value) (h : w.heap[b]? = some (.cells cs 274 (0, 0))) (hs : cs[114]? = some (.int .i64 st)) (ho : cs[off]? = some v) (hne : off ≠ 114) (h0 : 0 ≤ st) (h1 : st ≤ 1000000000) :
    Calls Tryz.prog 564 #[.pointer (some ⟨b, 0, none⟩), .pointer (some ⟨b, off, none⟩), .int .i64 y] w fun e w' => e = .returned (.tuple #[]) ∧ Upd w b (.cells ((cs.setIfInBounds 114 (.int .i64 (st + 1))).setIfInBounds off (.int .i64 y)) 274 (0, 0)) w' := by
  have c := has_cell 114 h hs
  have c2 := has_cell off h ho
  have fz := has_free h
  go_enter Tryz.func564, Tryz.ntmps564
  go_wp2
  go_end0
  exact ⟨rfl, ((Upd.refl h).setCell _ _).setCell _ _⟩
end Go.Proofs.YtagmlijhgncklaaGreatDoor
namespace Go.Proofs.YtagmlijhgncklaaGreatDoor
open Go.RowKit

theorem link_hd (w : World) (b p : Nat) (R : Rd) (st y : Int) (h : w.heap[b]? = some (rdO R st)) (k : RdOk R) (hp : p < 32) (h0 : 0 ≤ st) (h1 : st ≤ 1000000000) :
    Calls Tryz.prog 564 #[.pointer (some ⟨b, 0, none⟩), .pointer (some ⟨b, 2 + p, none⟩), .int .i64 y] w fun e w' => e = .returned (.tuple #[]) ∧ Upd w b (rdO { R with hd := R.hd.set p y } (st + 1)) w' :=
  (link_c w b (2 + p) _ st y _ h (by rw [List.getElem?_toArray]; exact rd_get_st k st) (by rw [List.getElem?_toArray]; exact rd_get_hd k st hp) (by omega) h0 h1).mono fun _ _ ⟨he, u⟩ => ⟨he, u.to (by rw [rd_set_st k, rd_set_hd k _ hp]; rfl)⟩
theorem link_tl (w : World) (b p : Nat) (R : Rd) (st y : Int) (h : w.heap[b]? = some (rdO R st)) (k : RdOk R) (hp : p < 32) (h0 : 0 ≤ st) (h1 : st ≤ 1000000000) :
    Calls Tryz.prog 564 #[.pointer (some ⟨b, 0, none⟩), .pointer (some ⟨b, 34 + p, none⟩), .int .i64 y] w fun e w' => e = .returned (.tuple #[]) ∧ Upd w b (rdO { R with tl := R.tl.set p y } (st + 1)) w' :=
  (link_c w b (34 + p) _ st y _ h (by rw [List.getElem?_toArray]; exact rd_get_st k st) (by rw [List.getElem?_toArray]; exact rd_get_tl k st hp) (by omega) h0 h1).mono fun _ _ ⟨he, u⟩ => ⟨he, u.to (by rw [rd_set_st k, rd_set_tl k _ hp]; rfl)⟩
theorem link_nx (w : World) (b p : Nat) (R : Rd) (st y : Int) (h : w.heap[b]? = some (rdO R st)) (k : RdOk R) (hp : p < 16) (h0 : 0 ≤ st) (h1 : st ≤ 1000000000) :
    Calls Tryz.prog 564 #[.pointer (some ⟨b, 0, none⟩), .pointer (some ⟨b, 66 + p, none⟩), .int .i64 y] w fun e w' => e = .returned (.tuple #[]) ∧ Upd w b (rdO { R with nx := R.nx.set p y } (st + 1)) w' :=
  (link_c w b (66 + p) _ st y _ h (by rw [List.getElem?_toArray]; exact rd_get_st k st) (by rw [List.getElem?_toArray]; exact rd_get_nx k st hp) (by omega) h0 h1).mono fun _ _ ⟨he, u⟩ => ⟨he, u.to (by rw [rd_set_st k, rd_set_nx k _ hp]; rfl)⟩
theorem link_pv (w : World) (b p : Nat) (R : Rd) (st y : Int) (h : w.heap[b]? = some (rdO R st)) (k : RdOk R) (hp : p < 16) (h0 : 0 ≤ st) (h1 : st ≤ 1000000000) :
    Calls Tryz.prog 564 #[.pointer (some ⟨b, 0, none⟩), .pointer (some ⟨b, 82 + p, none⟩), .int .i64 y] w fun e w' => e = .returned (.tuple #[]) ∧ Upd w b (rdO { R with pv := R.pv.set p y } (st + 1)) w' :=
  (link_c w b (82 + p) _ st y _ h (by rw [List.getElem?_toArray]; exact rd_get_st k st) (by rw [List.getElem?_toArray]; exact rd_get_pv k st hp) (by omega) h0 h1).mono fun _ _ ⟨he, u⟩ => ⟨he, u.to (by rw [rd_set_st k, rd_set_pv k _ hp]; rfl)⟩

theorem join_nn (w : World) (b p : Nat) (R : Rd) (st : Int) (h : w.heap[b]? = some (rdO R st)) (k : RdOk R) (hp : p < 32) (h0 : 0 ≤ st) (h1 : st ≤ 900000000) :
    Calls Tryz.prog 453 #[.pointer (some ⟨b, 0, none⟩), .int .i64 p, .int .i64 (-1), .int .i64 (-1)] w fun e w' => e = .returned (.tuple #[]) ∧ Upd w b (rdO (R.joinF p (-1) (-1)) (st + 2)) w' := by
  have hpi : (p : Int) < 32 := by omega
  go_enter Tryz.func453, Tryz.ntmps453
  go_wp2_with fail
  refine (link_hd w b p R st (-1) h k hp h0 (by omega)).mono ?_; rintro e w1 ⟨rfl, u⟩
  go_wp2_with fail
  refine (link_tl w1 b p _ (st + 1) (-1) u.1 (k.set_hd _ _) hp (by omega) (by omega)).mono ?_; rintro e w2 ⟨rfl, u2⟩
  have U := Lib.hid (u.trans u2)
  clear u u2 h
  go_wp2_with fail
  go_end0
  exact ⟨rfl, U.out.to (by rw [show st + 1 + 1 = st + 2 by omega]; rfl)⟩
theorem join_nj (w : World) (b p j : Nat) (R : Rd) (st : Int) (h : w.heap[b]? = some (rdO R st)) (k : RdOk R) (hp : p < 32) (hj : j < 16) (h0 : 0 ≤ st) (h1 : st ≤ 900000000) :
    Calls Tryz.prog 453 #[.pointer (some ⟨b, 0, none⟩), .int .i64 p, .int .i64 (-1), .int .i64 j] w fun e w' => e = .returned (.tuple #[]) ∧ Upd w b (rdO (R.joinF p (-1) j) (st + 2)) w' := by
  have hpi : (p : Int) < 32 := by omega
  have hji : (j : Int) < 16 := by omega
  have hjn : ((j : Int) == -1) = false := by rw [beq_eq_false_iff_ne]; omega
  go_enter Tryz.func453, Tryz.ntmps453
  go_wp2_with fail
  refine (link_hd w b p R st j h k hp h0 (by omega)).mono ?_; rintro e w1 ⟨rfl, u⟩
  go_wp2_with fail
  refine (link_pv w1 b j _ (st + 1) (-1) u.1 (k.set_hd _ _) hj (by omega) (by omega)).mono ?_; rintro e w2 ⟨rfl, u2⟩
  have U := Lib.hid (u.trans u2)
  clear u u2 h
  go_wp2_with fail
  go_end0
  exact ⟨rfl, U.out.to (by rw [show st + 1 + 1 = st + 2 by omega]; simp [Rd.joinF, show ¬ (j : Int) = -1 by omega])⟩
theorem join_jn (w : World) (b p i : Nat) (R : Rd) (st : Int) (h : w.heap[b]? = some (rdO R st)) (k : RdOk R) (hp : p < 32) (hi : i < 16) (h0 : 0 ≤ st) (h1 : st ≤ 900000000) :
    Calls Tryz.prog 453 #[.pointer (some ⟨b, 0, none⟩), .int .i64 p, .int .i64 i, .int .i64 (-1)] w fun e w' => e = .returned (.tuple #[]) ∧ Upd w b (rdO (R.joinF p i (-1)) (st + 2)) w' := by
  have hpi : (p : Int) < 32 := by omega
  have hii : (i : Int) < 16 := by omega
  have hin : ((i : Int) == -1) = false := by rw [beq_eq_false_iff_ne]; omega
  go_enter Tryz.func453, Tryz.ntmps453
  go_wp2_with fail
  refine (link_nx w b i R st (-1) h k hi h0 (by omega)).mono ?_; rintro e w1 ⟨rfl, u⟩
  go_wp2_with fail
  refine (link_tl w1 b p _ (st + 1) i u.1 (k.set_nx _ _) hp (by omega) (by omega)).mono ?_; rintro e w2 ⟨rfl, u2⟩
  have U := Lib.hid (u.trans u2)
  clear u u2 h
  go_wp2_with fail
  go_end0
  exact ⟨rfl, U.out.to (by rw [show st + 1 + 1 = st + 2 by omega]; simp [Rd.joinF, show ¬ (i : Int) = -1 by omega])⟩
theorem join_jj (w : World) (b p i j : Nat) (R : Rd) (st : Int) (h : w.heap[b]? = some (rdO R st)) (k : RdOk R) (hi : i < 16) (hj : j < 16) (h0 : 0 ≤ st) (h1 : st ≤ 900000000) :
    Calls Tryz.prog 453 #[.pointer (some ⟨b, 0, none⟩), .int .i64 p, .int .i64 i, .int .i64 j] w fun e w' => e = .returned (.tuple #[]) ∧ Upd w b (rdO (R.joinF p i j) (st + 2)) w' := by
  have hji : (j : Int) < 16 := by omega
  have hjn : ((j : Int) == -1) = false := by rw [beq_eq_false_iff_ne]; omega
  have hii : (i : Int) < 16 := by omega
  have hin : ((i : Int) == -1) = false := by rw [beq_eq_false_iff_ne]; omega
  go_enter Tryz.func453, Tryz.ntmps453
  go_wp2_with fail
  refine (link_nx w b i R st j h k hi h0 (by omega)).mono ?_; rintro e w1 ⟨rfl, u⟩
  go_wp2_with fail
  refine (link_pv w1 b j _ (st + 1) i u.1 (k.set_nx _ _) hj (by omega) (by omega)).mono ?_; rintro e w2 ⟨rfl, u2⟩
  have U := Lib.hid (u.trans u2)
  clear u u2 h
  go_wp2_with fail
  go_end0
  exact ⟨rfl, U.out.to (by rw [show st + 1 + 1 = st + 2 by omega]; simp [Rd.joinF, show ¬ (i : Int) = -1 by omega, show ¬ (j : Int) = -1 by omega])⟩
/-- An end of a link: nobody, or a thread. -/
def Lk (a : Int) : Prop := a = -1 ∨ ∃ i : Nat, a = i ∧ i < 16
theorem join_c (w : World) (b p : Nat) (R : Rd) (st a y : Int) (h : w.heap[b]? = some (rdO R st)) (k : RdOk R) (hp : p < 32) (ha : Lk a) (hy : Lk y) (h0 : 0 ≤ st) (h1 : st ≤ 900000000) :
    Calls Tryz.prog 453 #[.pointer (some ⟨b, 0, none⟩), .int .i64 p, .int .i64 a, .int .i64 y] w fun e w' => e = .returned (.tuple #[]) ∧ Upd w b (rdO (R.joinF p a y) (st + 2)) w' := by
  rcases ha with rfl | ⟨i, rfl, hi⟩ <;> rcases hy with rfl | ⟨j, rfl, hj⟩
  · exact join_nn w b p R st h k hp h0 h1
  · exact join_nj w b p j R st h k hp hj h0 h1
  · exact join_jn w b p i R st h k hp hi h0 h1
  · exact join_jj w b p i j R st h k hi hj h0 h1
end Go.Proofs.YtagmlijhgncklaaGreatDoor
