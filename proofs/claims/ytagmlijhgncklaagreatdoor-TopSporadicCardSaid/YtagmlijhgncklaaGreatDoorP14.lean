/-
  The first one, a new one, over the translation of this seat. Conditions: the blocks that are named hold what is said.
  What the functions of package turns compute, over the translation of this seat. Conditions: the blocks that are named hold what is said.
  The turns' functions that write, over the translation of this seat. Conditions: the blocks that are named hold what is said.
  Leaving, who runs, a tick, over the translation of this seat. Conditions: the blocks that are named hold what is said.
  A tick of the turns, over the translation of this seat. Conditions: the blocks that are named hold what is said.
  The turns' Lift and Put, over the translation of this seat. Conditions: the blocks that are named hold what is said.
-/
import Derived.Test.YtagmlijhgncklaaGreatDoorP13
import Derived.Deep.LoopGhost
set_option linter.unusedVariables false
namespace Go.Proofs.YtagmlijhgncklaaGreatDoor
open Go.RowKit

set_option maxRecDepth 100000 in
set_option maxHeartbeats 400000 in
theorem first_c (w : World) (b : Nat) (R : Rd) (st : Int) (h : w.heap[b]? = some (rdO R st)) (k : RdOk R) (hb1 : 1 ≤ Lib.bitLen R.sm) (hb2 : Lib.bitLen R.sm ≤ 32) (hs : R.sm ≠ 0) (h0 : 0 ≤ st) (h1 : st ≤ 800000000) :
    Calls Tryz.prog 92 #[.pointer (some ⟨b, 0, none⟩)] w fun e w' => e = .returned (.tuple #[.int .i64 R.firstF, .bool true]) ∧ Upd w b (rdO R (st + 1)) w' := by
  obtain ⟨n, hn⟩ : ∃ n, Lib.bitLen R.sm = n + 1 := ⟨Lib.bitLen R.sm - 1, by omega⟩
  have hsb : ((R.sm : Int) == 0) = false := by rw [beq_eq_false_iff_ne]; omega
  have hsm := k.sm
  have T := there_c w b R st h
  have c1 : w.cell? ⟨b, 1, none⟩ = some (.int .u32 R.sm) := has_cell 1 h rfl
  have c2 := has_cell _ h (by rw [List.getElem?_toArray]; exact rd_get_st k st)
  have fz := has_free h
  have H := Lib.hid h
  have HN := Lib.hid hn
  have ef : R.firstF = R.hd.getD n 0 := by unfold Rd.firstF; rw [hn]; rfl
  rw [ef]
  have hn32 : n < 32 := by omega
  have hni : (n : Int) < 32 := by omega
  clear h hn hs ef hb1 hb2
  go_enter Tryz.func92, Tryz.ntmps92
  go_upto_region 4 with (go_at_call 169; refine T.mono ?_; rintro e w' ⟨rfl, rfl⟩)
  refine upd_wp (((Upd.refl H.out).setCell 114 (.int .i64 (st + 1))).to (o' := rdO R (st + 1)) (by rw [rd_set_st k]; rfl)) ?_
  clear T c1 c2 fz
  intro W U
  have c1 : W.cell? ⟨b, 1, none⟩ = some (.int .u32 R.sm) := has_cell 1 U.1 rfl
  have c2 := has_cell _ U.1 (by rw [List.getElem?_toArray]; exact rd_get_hd k (st + 1) hn32)
  have HU := Lib.hid U
  clear U
  go_quiet ((go_at_call 170; exact Calls.quiet_of_same ((Tryz.bits_Len32 _ _ (by omega) (by omega)).mono (by rintro e w' ⟨rfl, rfl⟩; exact ⟨by rw [Int.toNat_natCast, HN.out], rfl⟩))))
  go_wp2_with fail
  go_ret2
  exact ⟨rfl, HU.out.drewN _⟩
/-- Nobody is ready. -/
theorem first_none (w : World) (b : Nat) (R : Rd) (st : Int) (h : w.heap[b]? = some (rdO R st)) (hs : R.sm = 0) :
    Calls Tryz.prog 92 #[.pointer (some ⟨b, 0, none⟩)] w fun e w' => e = .returned (.tuple #[.int .i64 0, .bool false]) ∧ w = w' := by
  have T := there_c w b R st h
  have c1 : w.cell? ⟨b, 1, none⟩ = some (.int .u32 R.sm) := has_cell 1 h rfl
  rw [hs] at c1
  clear h
  go_enter Tryz.func92, Tryz.ntmps92
  go_wp2_with (go_at_call 169; refine T.mono ?_; rintro e w' ⟨rfl, rfl⟩)
  go_ret2
  exact ⟨rfl, rfl⟩
def newK (k : Nat) : Rd := ⟨0, List.replicate k (-1) ++ List.replicate (32 - k) 0, List.replicate k (-1) ++ List.replicate (32 - k) 0, List.replicate 16 0, List.replicate 16 0, List.replicate 16 0⟩
theorem newK_ok {k : Nat} (h : k ≤ 32) : RdOk (newK k) := ⟨by simp [newK], by simp [newK]; omega, by simp [newK]; omega, by simp [newK], by simp [newK], by simp [newK]⟩
theorem rep_set {k : Nat} (h : k < 32) : (List.replicate k (-1 : Int) ++ List.replicate (32 - k) 0).set k (-1) = List.replicate (k + 1) (-1) ++ List.replicate (32 - (k + 1)) 0 := by
  rw [List.set_append_right _ _ (by simp), List.length_replicate, Nat.sub_self, show 32 - k = (32 - (k + 1)) + 1 by omega, List.replicate_succ, List.set_cons_zero, List.replicate_succ', List.append_assoc]
  rfl
theorem newK_succ {k : Nat} (h : k < 32) : ({ ({ newK k with hd := (newK k).hd.set k (-1) } : Rd) with tl := (newK k).tl.set k (-1) } : Rd) = newK (k + 1) := by
  simp only [newK, rep_set h]
set_option maxHeartbeats 400000 in
theorem ready_new (w : World) : Calls Tryz.prog 60 #[] w fun e w' => e = .returned (.pointer (some ⟨w.heap.size, 0, none⟩)) ∧ w'.heap[w.heap.size]? = some (rdO Rd.new 0) ∧ Below w.heap.size w w' ∧ w.heap.size < w'.heap.size := by
  go_enter Tryz.func60, Tryz.ntmps60
  go_upto_region 2 with fail
  refine world_wp (fun W => W.heap[w.heap.size]? = some (rdO (newK 0) 0) ∧ Below w.heap.size w W ∧ w.heap.size < W.heap.size) ⟨heap_alloc_new w _, (Below.refl _ _).alloc (Nat.le_refl _) _, by simp⟩ ?_
  intro W S
  go_wp2_with fail
  go_loopw [5] (fun i wr => ∃ k : Nat, i = .int .i64 k ∧ k ≤ 32 ∧ wr.heap[w.heap.size]? = some (rdO (newK k) 0) ∧ Below w.heap.size w wr ∧ w.heap.size < wr.heap.size) (fun i _ => 32 - (intOf i).toNat)
  case atStart => exact ⟨0, rfl, by omega, S.1, S.2.1, S.2.2⟩
  case round =>
    clear S
    obtain ⟨k, rfl, hk, hc, hb, hz⟩ := hrel
    by_cases hlt : k < 32
    · have hki : (k : Int) < 32 := by omega
      have o := newK_ok hk
      have c1 := has_cell _ hc (by rw [List.getElem?_toArray]; exact rd_get_hd o 0 hlt)
      have c2 := has_cell _ hc (by rw [List.getElem?_toArray]; exact rd_get_tl o 0 hlt)
      have fz := has_free hc
      have HC := Lib.hid hc
      have HB := Lib.hid hb
      have HZ := Lib.hid hz
      clear hc hb hz
      go_wp2_with fail
      go_region
      go_wp2_with fail
      have u := ((((Upd.refl HC.out).setCell (2 + k) (.int .i64 (-1))).setCell (34 + k) (.int .i64 (-1))).drew).to (o' := rdO (newK (k + 1)) 0) (by rw [rd_set_hd o 0 hlt, rd_set_tl (o.set_hd _ _) 0 hlt, newK_succ hlt]; rfl)
      exact ⟨⟨k + 1, by go_num, by omega, u.1, HB.out.trans (u.below (Nat.le_refl _) (Nat.le_of_lt HZ.out)), Nat.lt_of_lt_of_le HZ.out u.size⟩, by simp [intOf]; omega⟩
    · obtain rfl : k = 32 := by omega
      go_wp2_with fail
      go_ret
      exact ⟨rfl, hc, hb, hz⟩
end Go.Proofs.YtagmlijhgncklaaGreatDoor
namespace Go.Proofs.YtagmlijhgncklaaGreatDoor
open Go.RowKit

/-- What a thread has: is it in a sequence, a robin; its priority; what is left. -/
structure Hs where
  isIn : Bool
  rob : Bool
  pr : Int
  lf : Int
deriving DecidableEq
def Hs.no : Hs := ⟨false, false, 0, 0⟩
def hsC (h : Hs) : List Value := [.bool h.isIn, .bool h.rob, .int .i64 h.pr, .int .i64 h.lf]
def hssC (L : List Hs) : List Value := L.flatMap hsC
def tnC (rb : Nat) (q : Int) (L : List Hs) : List Value := .pointer (some ⟨rb, 0, none⟩) :: .int .i64 q :: hssC L
def tnO (rb : Nat) (q : Int) (L : List Hs) : Obj := .cells (tnC rb q L).toArray 164 (0, 0)
theorem hssC_length (L : List Hs) : (hssC L).length = L.length * 4 := by
  induction L with
  | nil => rfl
  | cons p L ih => simp [hssC, hsC] at ih ⊢; omega
theorem hssC_get : ∀ (L : List Hs) (i : Nat), i < L.length → (hssC L)[i * 4]? = some (.bool (L.getD i Hs.no).isIn) ∧ (hssC L)[i * 4 + 1]? = some (.bool (L.getD i Hs.no).rob) ∧ (hssC L)[i * 4 + 2]? = some (.int .i64 (L.getD i Hs.no).pr) ∧ (hssC L)[i * 4 + 3]? = some (.int .i64 (L.getD i Hs.no).lf)
  | p :: L, 0, _ => by simp [hssC, hsC]
  | p :: L, i + 1, h => by
    have := hssC_get L i (by simpa using h)
    have e : hssC (p :: L) = .bool p.isIn :: .bool p.rob :: .int .i64 p.pr :: .int .i64 p.lf :: hssC L := rfl
    rw [e, show (i + 1) * 4 = i * 4 + 1 + 1 + 1 + 1 by omega]
    simpa using this
theorem hssC_set : ∀ (L : List Hs) (i : Nat) (p : Hs), i < L.length → hssC (L.set i p) = ((((hssC L).set (i * 4) (.bool p.isIn)).set (i * 4 + 1) (.bool p.rob)).set (i * 4 + 2) (.int .i64 p.pr)).set (i * 4 + 3) (.int .i64 p.lf)
  | q :: L, 0, p, _ => by simp [hssC, hsC]
  | q :: L, i + 1, p, h => by
    have e : ∀ (q : Hs) (M : List Hs), hssC (q :: M) = .bool q.isIn :: .bool q.rob :: .int .i64 q.pr :: .int .i64 q.lf :: hssC M := fun _ _ => rfl
    rw [List.set_cons_succ, e, e, hssC_set L i p (by simpa using h), show (i + 1) * 4 = i * 4 + 1 + 1 + 1 + 1 by omega]
    rfl
theorem tn_cells {w : World} {tb rb : Nat} {q : Int} {L : List Hs} (h : w.heap[tb]? = some (tnO rb q L)) (i : Nat) (hi : i < L.length) :
    w.cell? ⟨tb, 2 + i * 4, none⟩ = some (.bool (L.getD i Hs.no).isIn) ∧ w.cell? ⟨tb, 2 + i * 4 + 1, none⟩ = some (.bool (L.getD i Hs.no).rob) ∧ w.cell? ⟨tb, 2 + i * 4 + 2, none⟩ = some (.int .i64 (L.getD i Hs.no).pr) ∧ w.cell? ⟨tb, 2 + i * 4 + 3, none⟩ = some (.int .i64 (L.getD i Hs.no).lf) := by
  obtain ⟨g1, g2, g3, g4⟩ := hssC_get L i hi
  refine ⟨has_cell _ h ?_, has_cell _ h ?_, has_cell _ h ?_, has_cell _ h ?_⟩
  · rw [List.getElem?_toArray, show 2 + i * 4 = i * 4 + 1 + 1 by omega]; exact g1
  · rw [List.getElem?_toArray, show 2 + i * 4 + 1 = i * 4 + 1 + 1 + 1 by omega]; exact g2
  · rw [List.getElem?_toArray, show 2 + i * 4 + 2 = i * 4 + 2 + 1 + 1 by omega]; exact g3
  · rw [List.getElem?_toArray, show 2 + i * 4 + 3 = i * 4 + 3 + 1 + 1 by omega]; exact g4
theorem hs_eta (L : List Hs) (i : Nat) : L.getD i Hs.no = ⟨(L.getD i Hs.no).isIn, (L.getD i Hs.no).rob, (L.getD i Hs.no).pr, (L.getD i Hs.no).lf⟩ := rfl
/-- The four cells of a thread, stored. -/
theorem tn_set {rb : Nat} {q : Int} {L : List Hs} {i : Nat} (p : Hs) (h : i < L.length) :
    ((((tnC rb q L).toArray.setIfInBounds (2 + i * 4) (.bool p.isIn)).setIfInBounds (2 + i * 4 + 1) (.bool p.rob)).setIfInBounds (2 + i * 4 + 2) (.int .i64 p.pr)).setIfInBounds (2 + i * 4 + 3) (.int .i64 p.lf) = (tnC rb q (L.set i p)).toArray := by
  simp only [List.setIfInBounds_toArray, tnC]
  rw [show 2 + i * 4 = i * 4 + 1 + 1 by omega, show i * 4 + 1 + 1 + 1 = i * 4 + 1 + 1 + 1 by rfl, show i * 4 + 1 + 1 + 2 = i * 4 + 2 + 1 + 1 by omega, show i * 4 + 1 + 1 + 3 = i * 4 + 3 + 1 + 1 by omega]
  simp only [List.set_cons_succ]
  rw [hssC_set _ _ _ h]
theorem set_same {l : List Value} {i : Nat} {v : Value} (h : l[i]? = some v) : l.set i v = l := by
  apply List.ext_getElem?
  intro k
  by_cases e : i = k
  · subst e
    rw [List.getElem?_set_self (by rcases Nat.lt_or_ge i l.length with h' | h'; exact h'; rw [List.getElem?_eq_none h'] at h; cases h), h]
  · rw [List.getElem?_set_ne e]
theorem set_past {l : List Value} {i j : Nat} {v x : Value} (h : l[j]? = some v) (hne : i ≠ j) : (l.set i x).set j v = l.set i x := by
  rw [List.set_comm _ _ hne, set_same h]
theorem tn_set_pr {rb : Nat} {q : Int} {L : List Hs} {i : Nat} (x : Int) (h : i < L.length) : (tnC rb q L).toArray.setIfInBounds (2 + i * 4 + 2) (.int .i64 x) = (tnC rb q (L.set i { L.getD i Hs.no with pr := x })).toArray := by
  obtain ⟨g1, g2, g3, g4⟩ := hssC_get L i h
  simp only [List.setIfInBounds_toArray, tnC]
  rw [show 2 + i * 4 + 2 = i * 4 + 2 + 1 + 1 by omega]
  simp only [List.set_cons_succ]
  rw [hssC_set _ _ _ h]
  dsimp only
  rw [set_same g1, set_same g2, set_past g4 (by omega)]
theorem tn_set_lf {rb : Nat} {q : Int} {L : List Hs} {i : Nat} (x : Int) (h : i < L.length) : (tnC rb q L).toArray.setIfInBounds (2 + i * 4 + 3) (.int .i64 x) = (tnC rb q (L.set i { L.getD i Hs.no with lf := x })).toArray := by
  obtain ⟨g1, g2, g3, g4⟩ := hssC_get L i h
  simp only [List.setIfInBounds_toArray, tnC]
  rw [show 2 + i * 4 + 3 = i * 4 + 3 + 1 + 1 by omega]
  simp only [List.set_cons_succ]
  rw [hssC_set _ _ _ h]
  dsimp only
  rw [set_same g1, set_same g2, set_same g3]
theorem tn_set_rob {rb : Nat} {q : Int} {L : List Hs} {i : Nat} (x : Bool) (h : i < L.length) : (tnC rb q L).toArray.setIfInBounds (2 + i * 4 + 1) (.bool x) = (tnC rb q (L.set i { L.getD i Hs.no with rob := x })).toArray := by
  obtain ⟨g1, g2, g3, g4⟩ := hssC_get L i h
  simp only [List.setIfInBounds_toArray, tnC]
  rw [show 2 + i * 4 + 1 = i * 4 + 1 + 1 + 1 by omega]
  simp only [List.set_cons_succ]
  rw [hssC_set _ _ _ h]
  dsimp only
  rw [set_same g1, set_past g3 (by omega), set_past g4 (by omega)]
/-- The turns and their sequences, as they lie. -/
structure Tn (w : World) (tb rb : Nat) (q : Int) (L : List Hs) (R : Rd) (st : Int) : Prop where
  t : w.heap[tb]? = some (tnO rb q L)
  r : w.heap[rb]? = some (rdO R st)
  ne : tb ≠ rb
  len : L.length = 16
  ok : RdOk R

set_option maxRecDepth 100000 in
theorem is_c (w : World) (tb rb : Nat) (q : Int) (L : List Hs) (h : w.heap[tb]? = some (tnO rb q L)) : Calls Tryz.prog 91 #[.pointer (some ⟨tb, 0, none⟩)] w fun e w' => e = .returned (.bool true) ∧ w = w' := by
  have c : w.cell? ⟨tb, 0, none⟩ = some (.pointer (some ⟨rb, 0, none⟩)) := has_cell 0 h rfl
  clear h
  go_enter Tryz.func91, Tryz.ntmps91
  go_wp2
  go_ret
  exact ⟨rfl, rfl⟩
set_option maxRecDepth 100000 in
theorem thread2_c (w : World) (t : Int) (h0 : 0 ≤ t) (h1 : t < 16) : Calls Tryz.prog 180 #[.int .i64 t] w fun e w' => e = .returned (.bool true) ∧ w = w' := by
  go_enter Tryz.func180, Tryz.ntmps180
  go_wp2
  go_ret
  exact ⟨rfl, rfl⟩
set_option maxRecDepth 100000 in
theorem prio_c (w : World) (t : Int) (h0 : 1 ≤ t) (h1 : t < 32) : Calls Tryz.prog 181 #[.int .i64 t] w fun e w' => e = .returned (.bool true) ∧ w = w' := by
  have h2 : t ≤ 31 := by omega
  go_enter Tryz.func181, Tryz.ntmps181
  go_wp2
  go_ret
  exact ⟨rfl, rfl⟩
set_option maxRecDepth 100000 in
theorem turns_new (w : World) (q : Int) (h0 : 1 ≤ q) (h1 : q ≤ 100) : Calls Tryz.prog 24 #[.int .i64 q] w fun e w' => ∃ tb rb, e = .returned (.tuple #[.pointer (some ⟨tb, 0, none⟩), .int .i64 0]) ∧ Tn w' tb rb q (List.replicate 16 Hs.no) Rd.new 0 ∧ Below w.heap.size w w' ∧ w.heap.size ≤ rb ∧ w.heap.size ≤ tb ∧ tb < w'.heap.size ∧ rb < w'.heap.size := by
  go_enter Tryz.func24, Tryz.ntmps24
  go_wp2_with fail
  refine (ready_new w).mono ?_; rintro e w1 ⟨rfl, hr, hb, hz⟩
  have HR := Lib.hid hr
  have HB := Lib.hid hb
  have HZ := Lib.hid hz
  clear hr hb hz
  go_wp2_with fail
  go_ret2
  exact ⟨_, _, rfl, ⟨heap_alloc_new w1 _, below_alloc_has HR.out, Nat.ne_of_gt HZ.out, rfl, newK_ok (Nat.le_refl 32)⟩, HB.out.alloc HB.out.size _, Nat.le_refl _, HB.out.size, by simp, by have := HZ.out; simp; omega⟩
end Go.Proofs.YtagmlijhgncklaaGreatDoor
namespace Go.Proofs.YtagmlijhgncklaaGreatDoor
open Go.RowKit

theorem RdOk.putF {R : Rd} (k : RdOk R) {p : Nat} (hp : p < 32) (t : Nat) (a b : Int) : RdOk (R.putF p t a b) := (((k.set_pr t p).set_sm (or_lt k.sm hp)).joinF _ _ _).joinF _ _ _
theorem RdOk.tailF {R : Rd} (k : RdOk R) {p : Nat} (hp : p < 32) (t : Nat) : RdOk (R.tailF p t) := k.putF hp _ _ _
theorem RdOk.headF {R : Rd} (k : RdOk R) {p : Nat} (hp : p < 32) (t : Nat) : RdOk (R.headF p t) := k.putF hp _ _ _
theorem RdOk.remF {R : Rd} (k : RdOk R) (t : Nat) : RdOk (R.remF t) := by
  unfold Rd.remF
  dsimp only
  have k1 := (k.joinF (R.pr.getD t 0).toNat (R.pv.getD t 0) (R.nx.getD t 0)).set_pr t 0
  split
  · exact k1.set_sm (and_lt k1.sm)
  · exact k1
theorem Tn.heap {w w' : World} {tb rb : Nat} {q : Int} {L : List Hs} {R : Rd} {st : Int} (T : Tn w tb rb q L R st) (h : ∀ k, k < w.heap.size → w'.heap[k]? = w.heap[k]?) : Tn w' tb rb q L R st :=
  ⟨(h tb (has_lt T.t)).trans T.t, (h rb (has_lt T.r)).trans T.r, T.ne, T.len, T.ok⟩

set_option maxRecDepth 100000 in
set_option maxHeartbeats 400000 in
theorem turns_add (w : World) (tb rb : Nat) (q : Int) (L : List Hs) (R : Rd) (st : Int) (t p : Nat) (rob : Bool) (T : Tn w tb rb q L R st) (ht : t < 16) (hp1 : 1 ≤ p) (hp : p < 32) (hin : (L.getD t Hs.no).isIn = false) (hz : R.pr.getD t 0 = 0) (hl : Lk (R.tl.getD p 0)) (h0 : 0 ≤ st) (h1 : st ≤ 800000000) :
    Calls Tryz.prog 110 #[.pointer (some ⟨tb, 0, none⟩), .int .i64 t, .int .i64 p, .bool rob] w fun e w' => e = .returned (.int .i64 0) ∧ Tn w' tb rb q (L.set t ⟨true, rob, p, q⟩) (R.tailF p t) (st + 4) ∧ Upd2 w tb rb w' := by
  have hpi : (p : Int) < 32 := by omega
  have hp1i : 1 ≤ (p : Int) := by omega
  have hti : (t : Int) < 16 := by omega
  have htl : t < L.length := by rw [T.len]; exact ht
  have c0 : w.cell? ⟨tb, 0, none⟩ = some (.pointer (some ⟨rb, 0, none⟩)) := has_cell 0 T.t rfl
  have c2 := (tn_cells T.t t htl).1
  rw [hin] at c2
  have I := is_c w tb rb q L T.t
  have A := tailF_c w rb p t R st T.r T.ok hp1 hp ht hz hl h0 h1
  have HT := Lib.hid T
  have HI := Lib.hid hin
  clear T hin hz hl
  go_enter Tryz.func110, Tryz.ntmps110
  go_wp2_with (first | (go_at_call 91; refine I.mono ?_; rintro e w' ⟨rfl, rfl⟩) | (go_at_call 180; refine (thread2_c _ _ (by omega) (by omega)).mono ?_; rintro e w' ⟨rfl, rfl⟩) | (go_at_call 181; refine (prio_c _ _ (by omega) (by omega)).mono ?_; rintro e w' ⟨rfl, rfl⟩) | (go_at_call 182; refine A.mono ?_; rintro e w1 ⟨rfl, u⟩))
  clear I A c0 c2
  have t1 := u.other HT.out.t HT.out.ne
  have c1 : w1.cell? ⟨tb, 1, none⟩ = some (.int .i64 q) := has_cell 1 t1 rfl
  obtain ⟨d0, d1, d2, d3⟩ := tn_cells t1 t htl
  have fz := has_free t1
  have HU := Lib.hid u
  have HT1 := Lib.hid t1
  clear u t1
  go_region
  go_wp2_with fail
  go_ret
  have v := (((((Upd.refl HT1.out).setCell (2 + t * 4) (.bool true)).setCell (2 + t * 4 + 1) (.bool rob)).setCell (2 + t * 4 + 2) (.int .i64 p)).setCell (2 + t * 4 + 3) (.int .i64 q)).drew.to (o' := tnO rb q (L.set t ⟨true, rob, p, q⟩)) (by have := tn_set (rb := rb) (q := q) (L := L) ⟨true, rob, p, q⟩ htl; dsimp only at this; rw [this]; rfl)
  exact ⟨rfl, ⟨v.1, v.other HU.out.1 (Ne.symm HT.out.ne), HT.out.ne, by simp [HT.out.len], HT.out.ok.tailF hp t⟩, ((Upd2.refl w tb rb).right HU.out).left v⟩

theorem remF_pr {R : Rd} (k : RdOk R) {t : Nat} (ht : t < 16) : (R.remF t).pr.getD t 0 = 0 := by
  have e : (R.remF t).pr = ((R.joinF (R.pr.getD t 0).toNat (R.pv.getD t 0) (R.nx.getD t 0)).pr).set t 0 := by
    unfold Rd.remF
    dsimp only
    split <;> rfl
  rw [e]
  have := (k.joinF (R.pr.getD t 0).toNat (R.pv.getD t 0) (R.nx.getD t 0)).pr
  rw [List.getD_eq_getElem?_getD, List.getElem?_set_self (by rw [this]; exact ht)]
  rfl

set_option maxRecDepth 100000 in
set_option maxHeartbeats 400000 in
theorem goes_tail (w : World) (tb rb : Nat) (q : Int) (L : List Hs) (R : Rd) (st : Int) (t p p0 : Nat) (T : Tn w tb rb q L R st) (ht : t < 16) (hp1 : 1 ≤ p) (hp : p < 32) (hq1 : 1 ≤ p0) (hq : p0 < 32) (hz : R.pr.getD t 0 = p0) (hv : Lk (R.pv.getD t 0)) (hn : Lk (R.nx.getD t 0)) (hl : Lk ((R.remF t).tl.getD p 0)) (h0 : 0 ≤ st) (h1 : st ≤ 700000000) :
    Calls Tryz.prog 153 #[.pointer (some ⟨tb, 0, none⟩), .int .i64 t, .int .i64 p, .bool false] w fun e w' => e = .returned (.tuple #[]) ∧ Tn w' tb rb q (L.set t { L.getD t Hs.no with pr := p }) ((R.remF t).tailF p t) (st + 6) ∧ Upd2 w tb rb w' := by
  have hti : (t : Int) < 16 := by omega
  have htl : t < L.length := by rw [T.len]; exact ht
  have c0 : w.cell? ⟨tb, 0, none⟩ = some (.pointer (some ⟨rb, 0, none⟩)) := has_cell 0 T.t rfl
  have A := remove_c w rb p0 t R st T.r T.ok hq1 hq ht hz hv hn h0 (by omega)
  have HT := Lib.hid T
  have HL := Lib.hid hl
  clear T hz hv hn hl
  go_enter Tryz.func153, Tryz.ntmps153
  go_wp2_with fail
  refine A.mono ?_; rintro e w1 ⟨rfl, u⟩
  clear A c0
  have t1 := u.other HT.out.t HT.out.ne
  have c0 : w1.cell? ⟨tb, 0, none⟩ = some (.pointer (some ⟨rb, 0, none⟩)) := has_cell 0 t1 rfl
  have A := tailF_c w1 rb p t _ (st + 2) u.1 (HT.out.ok.remF t) hp1 hp ht (remF_pr HT.out.ok ht) HL.out (by omega) (by omega)
  have HU := Lib.hid u
  have HT1 := Lib.hid t1
  clear u t1
  go_wp2_with fail
  refine A.mono ?_; rintro e w2 ⟨rfl, u⟩
  clear A c0
  have t2 := u.other HT1.out HT.out.ne
  obtain ⟨d0, d1, d2, d3⟩ := tn_cells t2 t htl
  have fz := has_free t2
  have HU2 := Lib.hid u
  have HT2 := Lib.hid t2
  clear u t2
  go_wp2_with fail
  go_end0
  have v := ((Upd.refl HT2.out).setCell (2 + t * 4 + 2) (.int .i64 p)).to (o' := tnO rb q (L.set t { L.getD t Hs.no with pr := p })) (by rw [tn_set_pr _ htl]; rfl)
  exact ⟨rfl, ⟨v.1, (v.other HU2.out.1 (Ne.symm HT.out.ne)).trans (by rw [show st + 2 + 4 = st + 6 by omega]), HT.out.ne, by simp [HT.out.len], (HT.out.ok.remF t).tailF hp t⟩, (((Upd2.refl w tb rb).right HU.out).right HU2.out).left v⟩

set_option maxRecDepth 100000 in
set_option maxHeartbeats 400000 in
theorem goes_head (w : World) (tb rb : Nat) (q : Int) (L : List Hs) (R : Rd) (st : Int) (t p p0 : Nat) (T : Tn w tb rb q L R st) (ht : t < 16) (hp1 : 1 ≤ p) (hp : p < 32) (hq1 : 1 ≤ p0) (hq : p0 < 32) (hz : R.pr.getD t 0 = p0) (hv : Lk (R.pv.getD t 0)) (hn : Lk (R.nx.getD t 0)) (hl : Lk ((R.remF t).hd.getD p 0)) (h0 : 0 ≤ st) (h1 : st ≤ 700000000) :
    Calls Tryz.prog 153 #[.pointer (some ⟨tb, 0, none⟩), .int .i64 t, .int .i64 p, .bool true] w fun e w' => e = .returned (.tuple #[]) ∧ Tn w' tb rb q (L.set t { L.getD t Hs.no with pr := p }) ((R.remF t).headF p t) (st + 6) ∧ Upd2 w tb rb w' := by
  have hti : (t : Int) < 16 := by omega
  have htl : t < L.length := by rw [T.len]; exact ht
  have c0 : w.cell? ⟨tb, 0, none⟩ = some (.pointer (some ⟨rb, 0, none⟩)) := has_cell 0 T.t rfl
  have A := remove_c w rb p0 t R st T.r T.ok hq1 hq ht hz hv hn h0 (by omega)
  have HT := Lib.hid T
  have HL := Lib.hid hl
  clear T hz hv hn hl
  go_enter Tryz.func153, Tryz.ntmps153
  go_wp2_with fail
  refine A.mono ?_; rintro e w1 ⟨rfl, u⟩
  clear A c0
  have t1 := u.other HT.out.t HT.out.ne
  have c0 : w1.cell? ⟨tb, 0, none⟩ = some (.pointer (some ⟨rb, 0, none⟩)) := has_cell 0 t1 rfl
  have A := headF_c w1 rb p t _ (st + 2) u.1 (HT.out.ok.remF t) hp1 hp ht (remF_pr HT.out.ok ht) HL.out (by omega) (by omega)
  have HU := Lib.hid u
  have HT1 := Lib.hid t1
  clear u t1
  go_wp2_with fail
  refine A.mono ?_; rintro e w2 ⟨rfl, u⟩
  clear A c0
  have t2 := u.other HT1.out HT.out.ne
  obtain ⟨d0, d1, d2, d3⟩ := tn_cells t2 t htl
  have fz := has_free t2
  have HU2 := Lib.hid u
  have HT2 := Lib.hid t2
  clear u t2
  go_wp2_with fail
  go_end0
  have v := ((Upd.refl HT2.out).setCell (2 + t * 4 + 2) (.int .i64 p)).to (o' := tnO rb q (L.set t { L.getD t Hs.no with pr := p })) (by rw [tn_set_pr _ htl]; rfl)
  exact ⟨rfl, ⟨v.1, (v.other HU2.out.1 (Ne.symm HT.out.ne)).trans (by rw [show st + 2 + 4 = st + 6 by omega]), HT.out.ne, by simp [HT.out.len], (HT.out.ok.remF t).headF hp t⟩, (((Upd2.refl w tb rb).right HU.out).right HU2.out).left v⟩

set_option maxRecDepth 100000 in
theorem in_484 (w : World) (tb rb : Nat) (q : Int) (L : List Hs) (t p x y : Nat) (Q : World → Prop) (T : w.heap[tb]? = some (tnO rb q L)) (hlen : L.length = 16) (ht : t < 16) (hp1 : 1 ≤ p) (hp : p < 32) (hin : (L.getD t Hs.no).isIn = true)
    (hF : Calls Tryz.prog 484 #[.pointer (some ⟨tb, 2 + t * 4, none⟩), .pointer (some ⟨x, 0, none⟩), .pointer (some ⟨y, 0, none⟩)] w fun e w' => e = .returned (.tuple #[]) ∧ Q w') :
    Calls Tryz.prog 187 #[.pointer (some ⟨tb, 0, none⟩), .int .i64 t, .int .i64 p, .func (.func 484) #[] #[.pointer (some ⟨x, 0, none⟩), .pointer (some ⟨y, 0, none⟩)]] w fun e w' => e = .returned (.int .i64 0) ∧ Q w' := by
  have hpi : (p : Int) < 32 := by omega
  have hp1i : 1 ≤ (p : Int) := by omega
  have hti : (t : Int) < 16 := by omega
  have htl : t < L.length := by rw [hlen]; exact ht
  have c2 := (tn_cells T t htl).1
  rw [hin] at c2
  have I := is_c w tb rb q L T
  clear T hin
  go_enter Tryz.func187, Tryz.ntmps187
  go_wp2_with (first | (go_at_call 91; refine I.mono ?_; rintro e w' ⟨rfl, rfl⟩) | (go_at_call 180; refine (thread2_c _ _ (by omega) (by omega)).mono ?_; rintro e w' ⟨rfl, rfl⟩) | (go_at_call 181; refine (prio_c _ _ (by omega) (by omega)).mono ?_; rintro e w' ⟨rfl, rfl⟩) | (go_at_call 484; refine hF.mono ?_; rintro e w1 ⟨rfl, hq⟩))
  have HQ := Lib.hid hq
  clear hq hF I
  go_ret
  exact ⟨rfl, HQ.out⟩

set_option maxRecDepth 100000 in
theorem in_489 (w : World) (tb rb : Nat) (q : Int) (L : List Hs) (t p x y : Nat) (Q : World → Prop) (T : w.heap[tb]? = some (tnO rb q L)) (hlen : L.length = 16) (ht : t < 16) (hp1 : 1 ≤ p) (hp : p < 32) (hin : (L.getD t Hs.no).isIn = true)
    (hF : Calls Tryz.prog 489 #[.pointer (some ⟨tb, 2 + t * 4, none⟩), .pointer (some ⟨x, 0, none⟩), .pointer (some ⟨y, 0, none⟩)] w fun e w' => e = .returned (.tuple #[]) ∧ Q w') :
    Calls Tryz.prog 187 #[.pointer (some ⟨tb, 0, none⟩), .int .i64 t, .int .i64 p, .func (.func 489) #[] #[.pointer (some ⟨x, 0, none⟩), .pointer (some ⟨y, 0, none⟩)]] w fun e w' => e = .returned (.int .i64 0) ∧ Q w' := by
  have hpi : (p : Int) < 32 := by omega
  have hp1i : 1 ≤ (p : Int) := by omega
  have hti : (t : Int) < 16 := by omega
  have htl : t < L.length := by rw [hlen]; exact ht
  have c2 := (tn_cells T t htl).1
  rw [hin] at c2
  have I := is_c w tb rb q L T
  clear T hin
  go_enter Tryz.func187, Tryz.ntmps187
  go_wp2_with (first | (go_at_call 91; refine I.mono ?_; rintro e w' ⟨rfl, rfl⟩) | (go_at_call 180; refine (thread2_c _ _ (by omega) (by omega)).mono ?_; rintro e w' ⟨rfl, rfl⟩) | (go_at_call 181; refine (prio_c _ _ (by omega) (by omega)).mono ?_; rintro e w' ⟨rfl, rfl⟩) | (go_at_call 489; refine hF.mono ?_; rintro e w1 ⟨rfl, hq⟩))
  have HQ := Lib.hid hq
  clear hq hF I
  go_ret
  exact ⟨rfl, HQ.out⟩

set_option maxRecDepth 100000 in
theorem in_574 (w : World) (tb rb : Nat) (q : Int) (L : List Hs) (t p x y z v : Nat) (Q : World → Prop) (T : w.heap[tb]? = some (tnO rb q L)) (hlen : L.length = 16) (ht : t < 16) (hp1 : 1 ≤ p) (hp : p < 32) (hin : (L.getD t Hs.no).isIn = true)
    (hF : Calls Tryz.prog 574 #[.pointer (some ⟨tb, 2 + t * 4, none⟩), .pointer (some ⟨x, 0, none⟩), .pointer (some ⟨y, 0, none⟩), .pointer (some ⟨z, 0, none⟩), .pointer (some ⟨v, 0, none⟩)] w fun e w' => e = .returned (.tuple #[]) ∧ Q w') :
    Calls Tryz.prog 187 #[.pointer (some ⟨tb, 0, none⟩), .int .i64 t, .int .i64 p, .func (.func 574) #[] #[.pointer (some ⟨x, 0, none⟩), .pointer (some ⟨y, 0, none⟩), .pointer (some ⟨z, 0, none⟩), .pointer (some ⟨v, 0, none⟩)]] w fun e w' => e = .returned (.int .i64 0) ∧ Q w' := by
  have hpi : (p : Int) < 32 := by omega
  have hp1i : 1 ≤ (p : Int) := by omega
  have hti : (t : Int) < 16 := by omega
  have htl : t < L.length := by rw [hlen]; exact ht
  have c2 := (tn_cells T t htl).1
  rw [hin] at c2
  have I := is_c w tb rb q L T
  clear T hin
  go_enter Tryz.func187, Tryz.ntmps187
  go_wp2_with (first | (go_at_call 91; refine I.mono ?_; rintro e w' ⟨rfl, rfl⟩) | (go_at_call 180; refine (thread2_c _ _ (by omega) (by omega)).mono ?_; rintro e w' ⟨rfl, rfl⟩) | (go_at_call 181; refine (prio_c _ _ (by omega) (by omega)).mono ?_; rintro e w' ⟨rfl, rfl⟩) | (go_at_call 574; refine hF.mono ?_; rintro e w1 ⟨rfl, hq⟩))
  have HQ := Lib.hid hq
  clear hq hF I
  go_ret
  exact ⟨rfl, HQ.out⟩

set_option maxRecDepth 100000 in
theorem in_490 (w : World) (tb rb : Nat) (q : Int) (L : List Hs) (t p x y z : Nat) (Q : World → Prop) (T : w.heap[tb]? = some (tnO rb q L)) (hlen : L.length = 16) (ht : t < 16) (hp1 : 1 ≤ p) (hp : p < 32) (hin : (L.getD t Hs.no).isIn = true)
    (hF : Calls Tryz.prog 490 #[.pointer (some ⟨tb, 2 + t * 4, none⟩), .pointer (some ⟨x, 0, none⟩), .pointer (some ⟨y, 0, none⟩), .pointer (some ⟨z, 0, none⟩)] w fun e w' => e = .returned (.tuple #[]) ∧ Q w') :
    Calls Tryz.prog 187 #[.pointer (some ⟨tb, 0, none⟩), .int .i64 t, .int .i64 p, .func (.func 490) #[] #[.pointer (some ⟨x, 0, none⟩), .pointer (some ⟨y, 0, none⟩), .pointer (some ⟨z, 0, none⟩)]] w fun e w' => e = .returned (.int .i64 0) ∧ Q w' := by
  have hpi : (p : Int) < 32 := by omega
  have hp1i : 1 ≤ (p : Int) := by omega
  have hti : (t : Int) < 16 := by omega
  have htl : t < L.length := by rw [hlen]; exact ht
  have c2 := (tn_cells T t htl).1
  rw [hin] at c2
  have I := is_c w tb rb q L T
  clear T hin
  go_enter Tryz.func187, Tryz.ntmps187
  go_wp2_with (first | (go_at_call 91; refine I.mono ?_; rintro e w' ⟨rfl, rfl⟩) | (go_at_call 180; refine (thread2_c _ _ (by omega) (by omega)).mono ?_; rintro e w' ⟨rfl, rfl⟩) | (go_at_call 181; refine (prio_c _ _ (by omega) (by omega)).mono ?_; rintro e w' ⟨rfl, rfl⟩) | (go_at_call 490; refine hF.mono ?_; rintro e w1 ⟨rfl, hq⟩))
  have HQ := Lib.hid hq
  clear hq hF I
  go_ret
  exact ⟨rfl, HQ.out⟩

set_option maxRecDepth 100000 in
theorem in_188 (w : World) (tb rb : Nat) (q : Int) (L : List Hs) (t p x y z : Nat) (Q : World → Prop) (T : w.heap[tb]? = some (tnO rb q L)) (hlen : L.length = 16) (ht : t < 16) (hp1 : 1 ≤ p) (hp : p < 32) (hin : (L.getD t Hs.no).isIn = true)
    (hF : Calls Tryz.prog 188 #[.pointer (some ⟨tb, 2 + t * 4, none⟩), .pointer (some ⟨x, 0, none⟩), .pointer (some ⟨y, 0, none⟩), .pointer (some ⟨z, 0, none⟩)] w fun e w' => e = .returned (.tuple #[]) ∧ Q w') :
    Calls Tryz.prog 187 #[.pointer (some ⟨tb, 0, none⟩), .int .i64 t, .int .i64 p, .func (.func 188) #[] #[.pointer (some ⟨x, 0, none⟩), .pointer (some ⟨y, 0, none⟩), .pointer (some ⟨z, 0, none⟩)]] w fun e w' => e = .returned (.int .i64 0) ∧ Q w' := by
  have hpi : (p : Int) < 32 := by omega
  have hp1i : 1 ≤ (p : Int) := by omega
  have hti : (t : Int) < 16 := by omega
  have htl : t < L.length := by rw [hlen]; exact ht
  have c2 := (tn_cells T t htl).1
  rw [hin] at c2
  have I := is_c w tb rb q L T
  clear T hin
  go_enter Tryz.func187, Tryz.ntmps187
  go_wp2_with (first | (go_at_call 91; refine I.mono ?_; rintro e w' ⟨rfl, rfl⟩) | (go_at_call 180; refine (thread2_c _ _ (by omega) (by omega)).mono ?_; rintro e w' ⟨rfl, rfl⟩) | (go_at_call 181; refine (prio_c _ _ (by omega) (by omega)).mono ?_; rintro e w' ⟨rfl, rfl⟩) | (go_at_call 188; refine hF.mono ?_; rintro e w1 ⟨rfl, hq⟩))
  have HQ := Lib.hid hq
  clear hq hF I
  go_ret
  exact ⟨rfl, HQ.out⟩
end Go.Proofs.YtagmlijhgncklaaGreatDoor
namespace Go.Proofs.YtagmlijhgncklaaGreatDoor
open Go.RowKit

set_option maxRecDepth 100000 in
set_option maxHeartbeats 400000 in
theorem leave1_c (w : World) (tb rb x y : Nat) (q : Int) (L : List Hs) (R : Rd) (st : Int) (t p0 : Nat) (T : Tn w tb rb q L R st) (ht : t < 16) (hq1 : 1 ≤ p0) (hq : p0 < 32) (hz : R.pr.getD t 0 = p0) (hv : Lk (R.pv.getD t 0)) (hn : Lk (R.nx.getD t 0)) (h0 : 0 ≤ st) (h1 : st ≤ 700000000)
    (hx : w.heap[x]? = some (.cells #[.pointer (some ⟨tb, 0, none⟩)] 73 (0, 0))) (hy : w.heap[y]? = some (.cells #[.int .i64 t] 3 (0, 0))) :
    Calls Tryz.prog 484 #[.pointer (some ⟨tb, 2 + t * 4, none⟩), .pointer (some ⟨x, 0, none⟩), .pointer (some ⟨y, 0, none⟩)] w fun e w' => e = .returned (.tuple #[]) ∧ (Tn w' tb rb q (L.set t Hs.no) (R.remF t) (st + 2) ∧ Upd2 w tb rb w') := by
  have hti : (t : Int) < 16 := by omega
  have htl : t < L.length := by rw [T.len]; exact ht
  have c0 : w.cell? ⟨tb, 0, none⟩ = some (.pointer (some ⟨rb, 0, none⟩)) := has_cell 0 T.t rfl
  have cx := has_cell 0 hx rfl
  have cy := has_cell 0 hy rfl
  have A := remove_c w.drew rb p0 t R st T.r T.ok hq1 hq ht hz hv hn h0 (by omega)
  have HT := Lib.hid T
  clear T hz hv hn hx hy
  go_enter Tryz.func484, Tryz.ntmps484
  go_wp2_with fail
  refine still_tail 5 (by kernel_rfl) (by kernel_rfl) ?_
  simp only [List.take_succ_cons, List.take_zero, List.drop_succ_cons, List.drop_zero]
  repeat still_step
  refine wpStill_nil ?_
  go_wp2_with fail
  refine A.mono ?_; rintro e w1 ⟨rfl, u0⟩
  have u := u0.drew0
  clear A c0 cx cy u0
  have t1 := u.other HT.out.t HT.out.ne
  obtain ⟨d0, d1, d2, d3⟩ := tn_cells t1 t htl
  have fz := has_free t1
  have HU := Lib.hid u
  have HT1 := Lib.hid t1
  clear u t1
  go_wp2_with fail
  go_end0
  have v := (((((Upd.refl HT1.out).setCell (2 + t * 4) (.bool false)).setCell (2 + t * 4 + 1) (.bool false)).setCell (2 + t * 4 + 2) (.int .i64 0)).setCell (2 + t * 4 + 3) (.int .i64 0)).to (o' := tnO rb q (L.set t Hs.no)) (by have := tn_set (rb := rb) (q := q) (L := L) Hs.no htl; simp only [Hs.no] at this ⊢; rw [this]; rfl)
  exact ⟨rfl, ⟨v.1, v.other HU.out.1 (Ne.symm HT.out.ne), HT.out.ne, by simp [HT.out.len], HT.out.ok.remF t⟩, ((Upd2.refl w tb rb).right HU.out).left v⟩
set_option maxRecDepth 100000 in
theorem turns_leave (w : World) (tb rb : Nat) (q : Int) (L : List Hs) (R : Rd) (st : Int) (t p0 : Nat) (T : Tn w tb rb q L R st) (ht : t < 16) (hin : (L.getD t Hs.no).isIn = true) (hq1 : 1 ≤ p0) (hq : p0 < 32) (hz : R.pr.getD t 0 = p0) (hv : Lk (R.pv.getD t 0)) (hn : Lk (R.nx.getD t 0)) (h0 : 0 ≤ st) (h1 : st ≤ 700000000) :
    Calls Tryz.prog 340 #[.pointer (some ⟨tb, 0, none⟩), .int .i64 t] w fun e w' => e = .returned (.int .i64 0) ∧ (Tn w' tb rb q (L.set t Hs.no) (R.remF t) (st + 2) ∧ Upd2 w tb rb w') := by
  go_enter Tryz.func340, Tryz.ntmps340
  have x1 := heap_alloc_new w (.cells #[.pointer (some ⟨tb, 0, none⟩)] 73)
  have B1 := (Below.refl w.heap.size w).alloc (Nat.le_refl _) (.cells #[.pointer (some ⟨tb, 0, none⟩)] 73)
  have B2 := B1.alloc (by simp) (.cells #[.int .i64 t] 3)
  have x2 := heap_alloc_new (w.alloc (.cells #[.pointer (some ⟨tb, 0, none⟩)] 73)) (.cells #[.int .i64 t] 3)
  have x1' := below_alloc_has (o := .cells #[.int .i64 t] 3) x1
  go_wp2_with fail
  refine calls_world (fun W => W.heap[w.heap.size]? = some (.cells #[.pointer (some ⟨tb, 0, none⟩)] 73 (0, 0)) ∧ W.heap[w.heap.size + 1]? = some (.cells #[.int .i64 t] 3 (0, 0)) ∧ Below w.heap.size w W) ⟨x1', by simpa using x2, B2⟩ ?_
  clear x1 x2 B1 B2 x1'
  rintro W ⟨x1, x2, B⟩
  have TW := T.heap B.block
  refine (in_484 W tb rb q L t 1 _ _ _ TW.t T.len ht (by omega) (by omega) hin (leave1_c W tb rb _ _ q L R st t p0 TW ht hq1 hq hz hv hn h0 h1 x1 x2)).mono ?_; rintro e w1 ⟨rfl, T1, u⟩
  have HT1 := Lib.hid T1
  have HU := Lib.hid u
  have HB := Lib.hid B
  clear x1 x2 B u T1 TW T hin hz hv hn
  go_wp2_with fail
  go_ret
  exact ⟨rfl, HT1.out, ⟨HU.out.os.trans HB.out.os, HU.out.tape.trans HB.out.tape, HU.out.output.trans HB.out.output, Nat.le_trans HB.out.size HU.out.size, fun i hi h1 h2 => (HU.out.block i (Nat.lt_of_lt_of_le hi HB.out.size) h1 h2).trans (HB.out.block i hi)⟩⟩
set_option maxRecDepth 100000 in
theorem turns_runs (w : World) (tb rb : Nat) (q : Int) (L : List Hs) (R : Rd) (st : Int) (T : Tn w tb rb q L R st) (hb1 : 1 ≤ Lib.bitLen R.sm) (hb2 : Lib.bitLen R.sm ≤ 32) (hs : R.sm ≠ 0) (h0 : 0 ≤ st) (h1 : st ≤ 800000000) :
    Calls Tryz.prog 48 #[.pointer (some ⟨tb, 0, none⟩)] w fun e w' => e = .returned (.tuple #[.int .i64 R.firstF, .bool true]) ∧ Tn w' tb rb q L R (st + 1) ∧ Upd w rb (rdO R (st + 1)) w' := by
  have c0 : w.cell? ⟨tb, 0, none⟩ = some (.pointer (some ⟨rb, 0, none⟩)) := has_cell 0 T.t rfl
  have A := first_c w rb R st T.r T.ok hb1 hb2 hs h0 h1
  have I := is_c w tb rb q L T.t
  have HT := Lib.hid T
  clear T hb1 hb2 hs
  go_enter Tryz.func48, Tryz.ntmps48
  go_wp2_with (first | (go_at_call 91; refine I.mono ?_; rintro e w' ⟨rfl, rfl⟩) | (go_at_call 92; refine A.mono ?_; rintro e w1 ⟨rfl, u⟩))
  have HU := Lib.hid u
  clear u A I
  go_ret2
  exact ⟨rfl, ⟨HU.out.other HT.out.t HT.out.ne, HU.out.1, HT.out.ne, HT.out.len, HT.out.ok⟩, HU.out⟩
set_option maxRecDepth 100000 in
theorem turns_nobody (w : World) (tb rb : Nat) (q : Int) (L : List Hs) (R : Rd) (st : Int) (T : Tn w tb rb q L R st) (hs : R.sm = 0) :
    Calls Tryz.prog 48 #[.pointer (some ⟨tb, 0, none⟩)] w fun e w' => e = .returned (.tuple #[.int .i64 0, .bool false]) ∧ w = w' := by
  have c0 : w.cell? ⟨tb, 0, none⟩ = some (.pointer (some ⟨rb, 0, none⟩)) := has_cell 0 T.t rfl
  have A := first_none w rb R st T.r hs
  have I := is_c w tb rb q L T.t
  clear T hs
  go_enter Tryz.func48, Tryz.ntmps48
  go_wp2_with (first | (go_at_call 91; refine I.mono ?_; rintro e w' ⟨rfl, rfl⟩) | (go_at_call 92; refine A.mono ?_; rintro e w1 ⟨rfl, rfl⟩))
  go_ret2
  exact ⟨rfl, rfl⟩
end Go.Proofs.YtagmlijhgncklaaGreatDoor
namespace Go.Proofs.YtagmlijhgncklaaGreatDoor
open Go.RowKit

set_option maxRecDepth 100000 in
set_option maxHeartbeats 400000 in
/-- Who runs is no robin: a tick does nothing. -/
theorem tick_fifo (w : World) (tb rb : Nat) (q : Int) (L : List Hs) (R : Rd) (st : Int) (t : Nat) (T : Tn w tb rb q L R st) (hf : R.firstF = t) (ht : t < 16) (hr : (L.getD t Hs.no).rob = false) (hb1 : 1 ≤ Lib.bitLen R.sm) (hb2 : Lib.bitLen R.sm ≤ 32) (hs : R.sm ≠ 0) (h0 : 0 ≤ st) (h1 : st ≤ 700000000) :
    Calls Tryz.prog 83 #[.pointer (some ⟨tb, 0, none⟩)] w fun e w' => e = .returned (.tuple #[.int .i64 0, .bool false]) ∧ Tn w' tb rb q L R (st + 1) ∧ Upd2 w tb rb w' := by
  have hti : (t : Int) < 16 := by omega
  have htl : t < L.length := by rw [T.len]; exact ht
  have A := turns_runs w tb rb q L R st T hb1 hb2 hs h0 (by omega)
  rw [hf] at A
  have HR := Lib.hid hr
  clear T hb1 hb2 hs hf hr
  go_enter Tryz.func83, Tryz.ntmps83
  go_wp2_with fail
  refine A.mono ?_; rintro e w1 ⟨rfl, T, u⟩
  clear A
  obtain ⟨d0, d1, d2, d3⟩ := tn_cells T.t t htl
  rw [HR.out] at d1
  have HT := Lib.hid T
  have HU := Lib.hid u
  clear T u
  go_wp2_with fail
  go_ret2
  exact ⟨rfl, HT.out, (Upd2.refl w tb rb).right HU.out⟩
set_option maxRecDepth 100000 in
set_option maxHeartbeats 400000 in
/-- A robin has some of its quantum left. -/
theorem tick_less (w : World) (tb rb : Nat) (q : Int) (L : List Hs) (R : Rd) (st : Int) (t : Nat) (T : Tn w tb rb q L R st) (hf : R.firstF = t) (ht : t < 16) (hr : (L.getD t Hs.no).rob = true) (hl : 1 < (L.getD t Hs.no).lf) (hl2 : (L.getD t Hs.no).lf ≤ 100) (hb1 : 1 ≤ Lib.bitLen R.sm) (hb2 : Lib.bitLen R.sm ≤ 32) (hs : R.sm ≠ 0) (h0 : 0 ≤ st) (h1 : st ≤ 700000000) :
    Calls Tryz.prog 83 #[.pointer (some ⟨tb, 0, none⟩)] w fun e w' => e = .returned (.tuple #[.int .i64 0, .bool false]) ∧ Tn w' tb rb q (L.set t { L.getD t Hs.no with lf := (L.getD t Hs.no).lf - 1 }) R (st + 1) ∧ Upd2 w tb rb w' := by
  have hti : (t : Int) < 16 := by omega
  have htl : t < L.length := by rw [T.len]; exact ht
  have A := turns_runs w tb rb q L R st T hb1 hb2 hs h0 (by omega)
  rw [hf] at A
  have HR := Lib.hid hr
  have HL := Lib.hid hl
  have HL2 := Lib.hid hl2
  have HS := Lib.hid (tn_set_lf (rb := rb) (q := q) ((L.getD t Hs.no).lf - 1) htl)
  clear T hb1 hb2 hs hf hr hl hl2
  go_enter Tryz.func83, Tryz.ntmps83
  go_wp2_with fail
  refine A.mono ?_; rintro e w1 ⟨rfl, T, u⟩
  clear A
  obtain ⟨d0, d1, d2, d3⟩ := tn_cells T.t t htl
  rw [HR.out] at d1
  have fz := has_free T.t
  have HT := Lib.hid T
  have HU := Lib.hid u
  have hl := HL.out
  have hl2 := HL2.out
  clear T u HR HL HL2
  obtain ⟨x, hx⟩ : ∃ x, (L.getD t Hs.no).lf = x := ⟨_, rfl⟩
  rw [hx] at d3 hl hl2
  have HX := Lib.hid hx
  clear hx
  go_wp2_with fail
  go_region
  go_wp2_with fail
  go_ret2
  have v := (((Upd.refl HT.out.t).setCell (2 + t * 4 + 3) (.int .i64 (x - 1)))).drew.to (o' := tnO rb q (L.set t { L.getD t Hs.no with lf := (L.getD t Hs.no).lf - 1 })) (by rw [← HX.out, HS.out]; rfl)
  exact ⟨rfl, ⟨v.1, v.other HT.out.r (Ne.symm HT.out.ne), HT.out.ne, by simp [HT.out.len], HT.out.ok⟩, ((Upd2.refl w tb rb).right HU.out).left v⟩
set_option maxRecDepth 100000 in
set_option maxHeartbeats 400000 in
/-- A robin's quantum is gone: it goes to the tail, and has a new one. -/
theorem tick_last (w : World) (tb rb : Nat) (q : Int) (L : List Hs) (R : Rd) (st : Int) (t p : Nat) (T : Tn w tb rb q L R st) (hf : R.firstF = t) (ht : t < 16) (hr : (L.getD t Hs.no).rob = true) (hl : (L.getD t Hs.no).lf ≤ 1) (hp : (L.getD t Hs.no).pr = p) (hp1 : 1 ≤ p) (hp2 : p < 32) (hz : R.pr.getD t 0 = p) (hv : Lk (R.pv.getD t 0)) (hn : Lk (R.nx.getD t 0)) (hlk : Lk ((R.remF t).tl.getD p 0)) (hb1 : 1 ≤ Lib.bitLen R.sm) (hb2 : Lib.bitLen R.sm ≤ 32) (hs : R.sm ≠ 0) (h0 : 0 ≤ st) (h1 : st ≤ 600000000) :
    Calls Tryz.prog 83 #[.pointer (some ⟨tb, 0, none⟩)] w fun e w' => e = .returned (.tuple #[.int .i64 t, .bool true]) ∧ Tn w' tb rb q (L.set t { L.getD t Hs.no with lf := q }) ((R.remF t).tailF p t) (st + 7) ∧ Upd2 w tb rb w' := by
  have hti : (t : Int) < 16 := by omega
  have htl : t < L.length := by rw [T.len]; exact ht
  have hpi : (p : Int) < 32 := by omega
  have A := turns_runs w tb rb q L R st T hb1 hb2 hs h0 (by omega)
  rw [hf] at A
  have HR := Lib.hid hr
  have HL := Lib.hid hl
  have HP := Lib.hid hp
  have HZ := Lib.hid hz
  have HV := Lib.hid hv
  have HN := Lib.hid hn
  have HK := Lib.hid hlk
  have elt : L.set t { L.getD t Hs.no with pr := p } = L := by
    apply List.ext_getElem?
    intro k
    by_cases e : t = k
    · subst e
      rw [List.getElem?_set_self htl, ← hp, List.getElem?_eq_getElem htl]
      simp [List.getD_eq_getElem?_getD, List.getElem?_eq_getElem htl]
    · rw [List.getElem?_set_ne e]
  have HE := Lib.hid elt
  have HS := Lib.hid (tn_set_lf (rb := rb) (q := q) (L := L) q htl)
  clear T hb1 hb2 hs hf hr hl hp hz hv hn hlk elt
  go_enter Tryz.func83, Tryz.ntmps83
  go_wp2_with fail
  refine A.mono ?_; rintro e w1 ⟨rfl, T, u⟩
  clear A
  obtain ⟨d0, d1, d2, d3⟩ := tn_cells T.t t htl
  rw [HR.out] at d1
  rw [HP.out] at d2
  have hl := HL.out
  have G := goes_tail w1 tb rb q L R (st + 1) t p p T ht hp1 hp2 hp1 hp2 HZ.out HV.out HN.out HK.out (by omega) (by omega)
  rw [HE.out] at G
  have HT := Lib.hid T
  have HU := Lib.hid u
  clear T u HR HL
  generalize (L.getD t Hs.no).lf = x at *
  go_wp2_with (go_at_call 153; refine G.mono ?_; rintro e w2 ⟨rfl, T2, u2⟩)
  clear G d0 d1 d2 d3
  have c1 : w2.cell? ⟨tb, 1, none⟩ = some (.int .i64 q) := has_cell 1 T2.t rfl
  obtain ⟨d0, d1, d2, d3⟩ := tn_cells T2.t t htl
  have fz := has_free T2.t
  have HT2 := Lib.hid T2
  have HU2 := Lib.hid u2
  clear T2 u2
  go_region
  go_wp2_with fail
  go_ret2
  have v := (((Upd.refl HT2.out.t).setCell (2 + t * 4 + 3) (.int .i64 q))).drew.to (o' := tnO rb q (L.set t { L.getD t Hs.no with lf := q })) (by rw [HS.out]; rfl)
  exact ⟨rfl, ⟨v.1, (v.other HT2.out.r (Ne.symm HT.out.ne)).trans (by rw [show st + 1 + 6 = st + 7 by omega]), HT.out.ne, by simp [HT.out.len], HT2.out.ok⟩, (((Upd2.refl w tb rb).right HU.out).trans HU2.out).left v⟩
end Go.Proofs.YtagmlijhgncklaaGreatDoor
namespace Go.Proofs.YtagmlijhgncklaaGreatDoor
open Go.RowKit

set_option maxRecDepth 100000 in
/-- What Lift does to who is in: another priority: to the head of its sequence. -/
theorem lift1_c (w : World) (tb rb x y z : Nat) (q : Int) (L : List Hs) (R : Rd) (st : Int) (t p p0 : Nat) (T : Tn w tb rb q L R st) (ht : t < 16) (hp1 : 1 ≤ p) (hp : p < 32) (hq1 : 1 ≤ p0) (hq : p0 < 32) (hne : p ≠ p0) (hpr : (L.getD t Hs.no).pr = p0) (hz : R.pr.getD t 0 = p0) (hv : Lk (R.pv.getD t 0)) (hn : Lk (R.nx.getD t 0)) (hl : Lk ((R.remF t).hd.getD p 0)) (h0 : 0 ≤ st) (h1 : st ≤ 700000000)
    (hx : w.heap[x]? = some (.cells #[.int .i64 p] 3 (0, 0))) (hy : w.heap[y]? = some (.cells #[.pointer (some ⟨tb, 0, none⟩)] 73 (0, 0))) (hzz : w.heap[z]? = some (.cells #[.int .i64 t] 3 (0, 0))) :
    Calls Tryz.prog 188 #[.pointer (some ⟨tb, 2 + t * 4, none⟩), .pointer (some ⟨x, 0, none⟩), .pointer (some ⟨y, 0, none⟩), .pointer (some ⟨z, 0, none⟩)] w fun e w' => e = .returned (.tuple #[]) ∧ (Tn w' tb rb q (L.set t { L.getD t Hs.no with pr := p }) ((R.remF t).headF p t) (st + 6) ∧ Upd2 w tb rb w') := by
  have htl : t < L.length := by rw [T.len]; exact ht
  obtain ⟨d0, d1, d2, d3⟩ := tn_cells T.t t htl
  rw [hpr] at d2
  have A := goes_head w.drew tb rb q L R st t p p0 (T.heap (fun _ _ => rfl)) ht hp1 hp hq1 hq hz hv hn hl h0 h1
  have cx : w.cell? ⟨x, 0, none⟩ = some (.int .i64 p) := has_cell 0 hx rfl
  have cy : w.cell? ⟨y, 0, none⟩ = some (.pointer (some ⟨tb, 0, none⟩)) := has_cell 0 hy rfl
  have cz : w.cell? ⟨z, 0, none⟩ = some (.int .i64 t) := has_cell 0 hzz rfl
  have hni : (p : Int) ≠ p0 := by omega
  clear T hpr hz hv hn hl hx hy hzz
  go_enter Tryz.func188, Tryz.ntmps188
  go_wp2_with fail
  go_region
  go_wp2_with (go_at_call 153; refine A.mono ?_; rintro e w1 ⟨rfl, T1, u⟩)
  exact bodyPost_end (results_none rfl _ _ _) rfl ⟨rfl, T1, ⟨u.os, u.tape, u.output, u.size, u.block⟩⟩
set_option maxRecDepth 100000 in
theorem turns_lift (w : World) (tb rb : Nat) (q : Int) (L : List Hs) (R : Rd) (st : Int) (t p p0 : Nat) (T : Tn w tb rb q L R st) (ht : t < 16) (hin : (L.getD t Hs.no).isIn = true) (hp1 : 1 ≤ p) (hp : p < 32) (hq1 : 1 ≤ p0) (hq : p0 < 32) (hne : p ≠ p0) (hpr : (L.getD t Hs.no).pr = p0) (hz : R.pr.getD t 0 = p0) (hv : Lk (R.pv.getD t 0)) (hn : Lk (R.nx.getD t 0)) (hl : Lk ((R.remF t).hd.getD p 0)) (h0 : 0 ≤ st) (h1 : st ≤ 700000000) :
    Calls Tryz.prog 121 #[.pointer (some ⟨tb, 0, none⟩), .int .i64 t, .int .i64 p] w fun e w' => e = .returned (.int .i64 0) ∧ (Tn w' tb rb q (L.set t { L.getD t Hs.no with pr := p }) ((R.remF t).headF p t) (st + 6) ∧ Upd2 w tb rb w') := by
  go_enter Tryz.func121, Tryz.ntmps121
  have x1 := heap_alloc_new w (.cells #[.pointer (some ⟨tb, 0, none⟩)] 73)
  have B1 := (Below.refl w.heap.size w).alloc (Nat.le_refl _) (.cells #[.pointer (some ⟨tb, 0, none⟩)] 73)
  have x2 := heap_alloc_new (w.alloc (.cells #[.pointer (some ⟨tb, 0, none⟩)] 73)) (.cells #[.int .i64 t] 3)
  have B2 := B1.alloc (by simp) (.cells #[.int .i64 t] 3)
  have x3 := heap_alloc_new ((w.alloc (.cells #[.pointer (some ⟨tb, 0, none⟩)] 73)).alloc (.cells #[.int .i64 t] 3)) (.cells #[.int .i64 p] 3)
  have B3 := B2.alloc (by simp; omega) (.cells #[.int .i64 p] 3)
  have x1' := below_alloc_has (o := .cells #[.int .i64 p] 3) (below_alloc_has (o := .cells #[.int .i64 t] 3) x1)
  have x2' := below_alloc_has (o := .cells #[.int .i64 p] 3) x2
  go_wp2_with fail
  refine calls_world (fun W => W.heap[w.heap.size]? = some (.cells #[.pointer (some ⟨tb, 0, none⟩)] 73 (0, 0)) ∧ W.heap[w.heap.size + 1]? = some (.cells #[.int .i64 t] 3 (0, 0)) ∧ W.heap[w.heap.size + 1 + 1]? = some (.cells #[.int .i64 p] 3 (0, 0)) ∧ Below w.heap.size w W) ⟨x1', by simpa using x2', by simpa using x3, B3⟩ ?_
  clear x1 x2 x3 B1 B2 B3 x1' x2'
  rintro W ⟨x1, x2, x3, B⟩
  have TW := T.heap B.block
  refine (in_188 W tb rb q L t p _ _ _ _ TW.t T.len ht hp1 hp hin (lift1_c W tb rb _ _ _ q L R st t p p0 TW ht hp1 hp hq1 hq hne hpr hz hv hn hl h0 h1 x3 x1 x2)).mono ?_; rintro e w1 ⟨rfl, T1, u⟩
  have HT1 := Lib.hid T1
  have HU := Lib.hid u
  have HB := Lib.hid B
  clear x1 x2 x3 B u T1 TW T hin hz hv hn hl hpr
  go_wp2_with fail
  go_ret
  exact ⟨rfl, HT1.out, ⟨HU.out.os.trans HB.out.os, HU.out.tape.trans HB.out.tape, HU.out.output.trans HB.out.output, Nat.le_trans HB.out.size HU.out.size, fun i hi h1 h2 => (HU.out.block i (Nat.lt_of_lt_of_le hi HB.out.size) h1 h2).trans (HB.out.block i hi)⟩⟩
theorem set_set_hs (L : List Hs) (t : Nat) (a b : Hs) : (L.set t a).set t b = L.set t b := by simp
set_option maxRecDepth 100000 in
set_option maxHeartbeats 1000000 in
/-- What Put does to who is in. -/
theorem put1_c (w : World) (tb rb x y z v : Nat) (q : Int) (L : List Hs) (R : Rd) (st : Int) (t p p0 : Nat) (rob : Bool) (T : Tn w tb rb q L R st) (ht : t < 16) (hp1 : 1 ≤ p) (hp : p < 32) (hq1 : 1 ≤ p0) (hq : p0 < 32) (hz : R.pr.getD t 0 = p0) (hv : Lk (R.pv.getD t 0)) (hn : Lk (R.nx.getD t 0)) (hl : Lk ((R.remF t).tl.getD p 0)) (h0 : 0 ≤ st) (h1 : st ≤ 700000000)
    (hx : w.heap[x]? = some (.cells #[.pointer (some ⟨tb, 0, none⟩)] 73 (0, 0))) (hy : w.heap[y]? = some (.cells #[.int .i64 t] 3 (0, 0))) (hzz : w.heap[z]? = some (.cells #[.int .i64 p] 3 (0, 0))) (hvv : w.heap[v]? = some (.cells #[.bool rob] 4 (0, 0))) (xd : x ≠ tb ∧ x ≠ rb ∧ v ≠ tb ∧ v ≠ rb) :
    Calls Tryz.prog 574 #[.pointer (some ⟨tb, 2 + t * 4, none⟩), .pointer (some ⟨x, 0, none⟩), .pointer (some ⟨y, 0, none⟩), .pointer (some ⟨z, 0, none⟩), .pointer (some ⟨v, 0, none⟩)] w fun e w' => e = .returned (.tuple #[]) ∧ (Tn w' tb rb q (L.set t ⟨(L.getD t Hs.no).isIn, rob, p, q⟩) ((R.remF t).tailF p t) (st + 6) ∧ Upd2 w tb rb w') := by
  have htl : t < L.length := by rw [T.len]; exact ht
  have A := goes_tail w tb rb q L R st t p p0 T ht hp1 hp hq1 hq hz hv hn hl h0 h1
  have cx : w.cell? ⟨x, 0, none⟩ = some (.pointer (some ⟨tb, 0, none⟩)) := has_cell 0 hx rfl
  have cy : w.cell? ⟨y, 0, none⟩ = some (.int .i64 t) := has_cell 0 hy rfl
  have cz : w.cell? ⟨z, 0, none⟩ = some (.int .i64 p) := has_cell 0 hzz rfl
  have HX := Lib.hid hx
  have HV := Lib.hid hvv
  have HD := Lib.hid xd
  clear T hz hv hn hl hx hy hzz hvv xd
  go_enter Tryz.func574, Tryz.ntmps574
  go_wp2_with fail
  refine A.mono ?_; rintro e w1 ⟨rfl, T1, u1⟩
  clear A cx cy cz
  have htl1 : t < (L.set t { L.getD t Hs.no with pr := (p : Int) }).length := by rw [List.length_set]; exact htl
  obtain ⟨d0, d1, d2, d3⟩ := tn_cells T1.t t htl1
  have cx : w1.cell? ⟨x, 0, none⟩ = some (.pointer (some ⟨tb, 0, none⟩)) := has_cell 0 (u1.other HX.out HD.out.1 HD.out.2.1) rfl
  have cv : w1.cell? ⟨v, 0, none⟩ = some (.bool rob) := has_cell 0 (u1.other HV.out HD.out.2.2.1 HD.out.2.2.2) rfl
  have cq : w1.cell? ⟨tb, 1, none⟩ = some (.int .i64 q) := has_cell 1 T1.t rfl
  have fz := has_free T1.t
  have HT1 := Lib.hid T1
  have HU1 := Lib.hid u1
  clear T1 u1
  go_wp2_with fail
  go_region
  go_end0
  have h1 : (L.set t { L.getD t Hs.no with pr := (p : Int) }).getD t Hs.no = { L.getD t Hs.no with pr := (p : Int) } := by
    rw [List.getD_eq_getElem?_getD, List.getElem?_set_self htl]; rfl
  have htl2 : t < ((L.set t { L.getD t Hs.no with pr := (p : Int) }).set t { L.getD t Hs.no with pr := (p : Int), rob := rob }).length := by rw [List.length_set]; exact htl1
  have h2 : ((L.set t { L.getD t Hs.no with pr := (p : Int) }).set t { L.getD t Hs.no with pr := (p : Int), rob := rob }).getD t Hs.no = { L.getD t Hs.no with pr := (p : Int), rob := rob } := by
    rw [List.getD_eq_getElem?_getD, List.getElem?_set_self htl1]; rfl
  have a1 := tn_set_rob (rb := rb) (q := q) (L := L.set t { L.getD t Hs.no with pr := (p : Int) }) rob htl1
  rw [h1] at a1
  have a2 := tn_set_lf (rb := rb) (q := q) (L := (L.set t { L.getD t Hs.no with pr := (p : Int) }).set t { L.getD t Hs.no with pr := (p : Int), rob := rob }) q htl2
  rw [h2, set_set_hs, set_set_hs] at a2
  have U := (((Upd.refl HT1.out.t).setCell (2 + t * 4 + 1) (.bool rob)).setCell (2 + t * 4 + 3) (.int .i64 q)).drew
  have V := U.to (o' := tnO rb q (L.set t ⟨(L.getD t Hs.no).isIn, rob, p, q⟩)) (by rw [a1, set_set_hs, a2]; rfl)
  exact ⟨rfl, ⟨V.1, V.other HT1.out.r (Ne.symm HT1.out.ne), HT1.out.ne, (by have := HT1.out.len; simpa using this), HT1.out.ok⟩, HU1.out.left V⟩
set_option maxRecDepth 100000 in
theorem turns_put (w : World) (tb rb : Nat) (q : Int) (L : List Hs) (R : Rd) (st : Int) (t p p0 : Nat) (rob : Bool) (T : Tn w tb rb q L R st) (ht : t < 16) (hin : (L.getD t Hs.no).isIn = true) (hp1 : 1 ≤ p) (hp : p < 32) (hq1 : 1 ≤ p0) (hq : p0 < 32) (hz : R.pr.getD t 0 = p0) (hv : Lk (R.pv.getD t 0)) (hn : Lk (R.nx.getD t 0)) (hl : Lk ((R.remF t).tl.getD p 0)) (h0 : 0 ≤ st) (h1 : st ≤ 700000000) :
    Calls Tryz.prog 491 #[.pointer (some ⟨tb, 0, none⟩), .int .i64 t, .int .i64 p, .bool rob] w fun e w' => e = .returned (.int .i64 0) ∧ (Tn w' tb rb q (L.set t ⟨(L.getD t Hs.no).isIn, rob, p, q⟩) ((R.remF t).tailF p t) (st + 6) ∧ Upd2 w tb rb w') := by
  go_enter Tryz.func491, Tryz.ntmps491
  have x1 := heap_alloc_new w (.cells #[.pointer (some ⟨tb, 0, none⟩)] 73)
  have B1 := (Below.refl w.heap.size w).alloc (Nat.le_refl _) (.cells #[.pointer (some ⟨tb, 0, none⟩)] 73)
  have x2 := heap_alloc_new (w.alloc (.cells #[.pointer (some ⟨tb, 0, none⟩)] 73)) (.cells #[.int .i64 t] 3)
  have B2 := B1.alloc (by simp) (.cells #[.int .i64 t] 3)
  have x3 := heap_alloc_new ((w.alloc (.cells #[.pointer (some ⟨tb, 0, none⟩)] 73)).alloc (.cells #[.int .i64 t] 3)) (.cells #[.int .i64 p] 3)
  have B3 := B2.alloc (by simp; omega) (.cells #[.int .i64 p] 3)
  have x4 := heap_alloc_new (((w.alloc (.cells #[.pointer (some ⟨tb, 0, none⟩)] 73)).alloc (.cells #[.int .i64 t] 3)).alloc (.cells #[.int .i64 p] 3)) (.cells #[.bool rob] 4)
  have B4 := B3.alloc (by simp; omega) (.cells #[.bool rob] 4)
  have x1' := below_alloc_has (o := .cells #[.bool rob] 4) (below_alloc_has (o := .cells #[.int .i64 p] 3) (below_alloc_has (o := .cells #[.int .i64 t] 3) x1))
  have x2' := below_alloc_has (o := .cells #[.bool rob] 4) (below_alloc_has (o := .cells #[.int .i64 p] 3) x2)
  have x3' := below_alloc_has (o := .cells #[.bool rob] 4) x3
  go_wp2_with fail
  refine calls_world (fun W => W.heap[w.heap.size]? = some (.cells #[.pointer (some ⟨tb, 0, none⟩)] 73 (0, 0)) ∧ W.heap[w.heap.size + 1]? = some (.cells #[.int .i64 t] 3 (0, 0)) ∧ W.heap[w.heap.size + 1 + 1]? = some (.cells #[.int .i64 p] 3 (0, 0)) ∧ W.heap[w.heap.size + 1 + 1 + 1]? = some (.cells #[.bool rob] 4 (0, 0)) ∧ Below w.heap.size w W) ⟨x1', by simpa using x2', by simpa using x3', by simpa using x4, B4⟩ ?_
  clear x1 x2 x3 x4 B1 B2 B3 B4 x1' x2' x3'
  rintro W ⟨x1, x2, x3, x4, B⟩
  have TW := T.heap B.block
  have tl := has_lt T.t
  have rl := has_lt T.r
  refine (in_574 W tb rb q L t p _ _ _ _ _ TW.t T.len ht hp1 hp hin (put1_c W tb rb _ _ _ _ q L R st t p p0 rob TW ht hp1 hp hq1 hq hz hv hn hl h0 h1 x1 x2 x3 x4 ⟨by omega, by omega, by omega, by omega⟩)).mono ?_; rintro e w1 ⟨rfl, T1, u⟩
  have HT1 := Lib.hid T1
  have HU := Lib.hid u
  have HB := Lib.hid B
  clear x1 x2 x3 x4 B u T1 TW T hin hz hv hn hl
  go_wp2_with fail
  go_ret
  exact ⟨rfl, HT1.out, ⟨HU.out.os.trans HB.out.os, HU.out.tape.trans HB.out.tape, HU.out.output.trans HB.out.output, Nat.le_trans HB.out.size HU.out.size, fun i hi h1 h2 => (HU.out.block i (Nat.lt_of_lt_of_le hi HB.out.size) h1 h2).trans (HB.out.block i hi)⟩⟩
end Go.Proofs.YtagmlijhgncklaaGreatDoor
