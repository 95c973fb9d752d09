/-
  The first one, a new one, over the translation of this seat. Conditions: the blocks that are named hold what is said.
  What the functions of package turns compute, over the translation of this seat. Conditions: the blocks that are named hold what is said.
  The turns' functions that write, over the translation of this seat. Conditions: the blocks that are named hold what is said.
  Leaving, who runs, a tick, over the translation of this seat. Conditions: the blocks that are named hold what is said.
  The turns' Yield and Move, over the translation of this seat. Conditions: the blocks that are named hold what is said.
  Plain: who is ready, as sequences of numbers: what a making, a leaving, a placing at the head make of them. There are no conditions but those said.
  Plain: who is ready, as one list in the order of turns. There are no conditions but those said.
-/
import Derived.Test.YtagmlijhgncklaaGreatDoorW13
import Derived.Deep.LoopGhost
set_option linter.unusedVariables false
namespace Go.Proofs.YtagmlijhgncklaaGreatDoor
open Go.RowKit

set_option maxRecDepth 100000 in
set_option maxHeartbeats 400000 in
theorem first_c (w : World) (b : Nat) (R : Rd) (st : Int) (h : w.heap[b]? = some (rdO R st)) (k : RdOk R) (hb1 : 1 ≤ Lib.bitLen R.sm) (hb2 : Lib.bitLen R.sm ≤ 32) (hs : R.sm ≠ 0) (h0 : 0 ≤ st) (h1 : st ≤ 800000000) :
    Calls Tryz.prog 92 #[.pointer (some ⟨b, 0, none⟩)] w fun e w' => e = .returned (.tuple #[.int .i64 R.firstF, .bool true]) ∧ Upd w b (rdO R (st + 1)) w' := by
  obtain ⟨n, hn⟩ : ∃ n, Lib.bitLen R.sm = n + 1 := ⟨Lib.bitLen R.sm - 1, by omega⟩
  have hsb : ((R.sm : Int) == 0) = false := by rw [beq_eq_false_iff_ne]; omega
  have hsm := k.sm
  have T := there_c w b R st h
  have c1 : w.cell? ⟨b, 1, none⟩ = some (.int .u32 R.sm) := has_cell 1 h rfl
  have c2 := has_cell _ h (by rw [List.getElem?_toArray]; exact rd_get_st k st)
  have fz := has_free h
  have H := Lib.hid h
  have HN := Lib.hid hn
  have ef : R.firstF = R.hd.getD n 0 := by unfold Rd.firstF; rw [hn]; rfl
  rw [ef]
  have hn32 : n < 32 := by omega
  have hni : (n : Int) < 32 := by omega
  clear h hn hs ef hb1 hb2
  go_enter Tryz.func92, Tryz.ntmps92
  go_upto_region 4 with (go_at_call 169; refine T.mono ?_; rintro e w' ⟨rfl, rfl⟩)
  refine upd_wp (((Upd.refl H.out).setCell 114 (.int .i64 (st + 1))).to (o' := rdO R (st + 1)) (by rw [rd_set_st k]; rfl)) ?_
  clear T c1 c2 fz
  intro W U
  have c1 : W.cell? ⟨b, 1, none⟩ = some (.int .u32 R.sm) := has_cell 1 U.1 rfl
  have c2 := has_cell _ U.1 (by rw [List.getElem?_toArray]; exact rd_get_hd k (st + 1) hn32)
  have HU := Lib.hid U
  clear U
  go_quiet ((go_at_call 170; exact Calls.quiet_of_same ((Tryz.bits_Len32 _ _ (by omega) (by omega)).mono (by rintro e w' ⟨rfl, rfl⟩; exact ⟨by rw [Int.toNat_natCast, HN.out], rfl⟩))))
  go_wp2_with fail
  go_ret2
  exact ⟨rfl, HU.out.drewN _⟩
/-- Nobody is ready. -/
theorem first_none (w : World) (b : Nat) (R : Rd) (st : Int) (h : w.heap[b]? = some (rdO R st)) (hs : R.sm = 0) :
    Calls Tryz.prog 92 #[.pointer (some ⟨b, 0, none⟩)] w fun e w' => e = .returned (.tuple #[.int .i64 0, .bool false]) ∧ w = w' := by
  have T := there_c w b R st h
  have c1 : w.cell? ⟨b, 1, none⟩ = some (.int .u32 R.sm) := has_cell 1 h rfl
  rw [hs] at c1
  clear h
  go_enter Tryz.func92, Tryz.ntmps92
  go_wp2_with (go_at_call 169; refine T.mono ?_; rintro e w' ⟨rfl, rfl⟩)
  go_ret2
  exact ⟨rfl, rfl⟩
def newK (k : Nat) : Rd := ⟨0, List.replicate k (-1) ++ List.replicate (32 - k) 0, List.replicate k (-1) ++ List.replicate (32 - k) 0, List.replicate 16 0, List.replicate 16 0, List.replicate 16 0⟩
theorem newK_ok {k : Nat} (h : k ≤ 32) : RdOk (newK k) := ⟨by simp [newK], by simp [newK]; omega, by simp [newK]; omega, by simp [newK], by simp [newK], by simp [newK]⟩
theorem rep_set {k : Nat} (h : k < 32) : (List.replicate k (-1 : Int) ++ List.replicate (32 - k) 0).set k (-1) = List.replicate (k + 1) (-1) ++ List.replicate (32 - (k + 1)) 0 := by
  rw [List.set_append_right _ _ (by simp), List.length_replicate, Nat.sub_self, show 32 - k = (32 - (k + 1)) + 1 by omega, List.replicate_succ, List.set_cons_zero, List.replicate_succ', List.append_assoc]
  rfl
theorem newK_succ {k : Nat} (h : k < 32) : ({ ({ newK k with hd := (newK k).hd.set k (-1) } : Rd) with tl := (newK k).tl.set k (-1) } : Rd) = newK (k + 1) := by
  simp only [newK, rep_set h]
set_option maxHeartbeats 400000 in
theorem ready_new (w : World) : Calls Tryz.prog 60 #[] w fun e w' => e = .returned (.pointer (some ⟨w.heap.size, 0, none⟩)) ∧ w'.heap[w.heap.size]? = some (rdO Rd.new 0) ∧ Below w.heap.size w w' ∧ w.heap.size < w'.heap.size := by
  go_enter Tryz.func60, Tryz.ntmps60
  go_upto_region 2 with fail
  refine world_wp (fun W => W.heap[w.heap.size]? = some (rdO (newK 0) 0) ∧ Below w.heap.size w W ∧ w.heap.size < W.heap.size) ⟨heap_alloc_new w _, (Below.refl _ _).alloc (Nat.le_refl _) _, by simp⟩ ?_
  intro W S
  go_wp2_with fail
  go_loopw [5] (fun i wr => ∃ k : Nat, i = .int .i64 k ∧ k ≤ 32 ∧ wr.heap[w.heap.size]? = some (rdO (newK k) 0) ∧ Below w.heap.size w wr ∧ w.heap.size < wr.heap.size) (fun i _ => 32 - (intOf i).toNat)
  case atStart => exact ⟨0, rfl, by omega, S.1, S.2.1, S.2.2⟩
  case round =>
    clear S
    obtain ⟨k, rfl, hk, hc, hb, hz⟩ := hrel
    by_cases hlt : k < 32
    · have hki : (k : Int) < 32 := by omega
      have o := newK_ok hk
      have c1 := has_cell _ hc (by rw [List.getElem?_toArray]; exact rd_get_hd o 0 hlt)
      have c2 := has_cell _ hc (by rw [List.getElem?_toArray]; exact rd_get_tl o 0 hlt)
      have fz := has_free hc
      have HC := Lib.hid hc
      have HB := Lib.hid hb
      have HZ := Lib.hid hz
      clear hc hb hz
      go_wp2_with fail
      go_region
      go_wp2_with fail
      have u := ((((Upd.refl HC.out).setCell (2 + k) (.int .i64 (-1))).setCell (34 + k) (.int .i64 (-1))).drew).to (o' := rdO (newK (k + 1)) 0) (by rw [rd_set_hd o 0 hlt, rd_set_tl (o.set_hd _ _) 0 hlt, newK_succ hlt]; rfl)
      exact ⟨⟨k + 1, by go_num, by omega, u.1, HB.out.trans (u.below (Nat.le_refl _) (Nat.le_of_lt HZ.out)), Nat.lt_of_lt_of_le HZ.out u.size⟩, by simp [intOf]; omega⟩
    · obtain rfl : k = 32 := by omega
      go_wp2_with fail
      go_ret
      exact ⟨rfl, hc, hb, hz⟩
end Go.Proofs.YtagmlijhgncklaaGreatDoor
namespace Go.Proofs.YtagmlijhgncklaaGreatDoor
open Go.RowKit

/-- What a thread has: is it in a sequence, a robin; its priority; what is left. -/
structure Hs where
  isIn : Bool
  rob : Bool
  pr : Int
  lf : Int
deriving DecidableEq
def Hs.no : Hs := ⟨false, false, 0, 0⟩
def hsC (h : Hs) : List Value := [.bool h.isIn, .bool h.rob, .int .i64 h.pr, .int .i64 h.lf]
def hssC (L : List Hs) : List Value := L.flatMap hsC
def tnC (rb : Nat) (q : Int) (L : List Hs) : List Value := .pointer (some ⟨rb, 0, none⟩) :: .int .i64 q :: hssC L
def tnO (rb : Nat) (q : Int) (L : List Hs) : Obj := .cells (tnC rb q L).toArray 164 (0, 0)
theorem hssC_get : ∀ (L : List Hs) (i : Nat), i < L.length → (hssC L)[i * 4]? = some (.bool (L.getD i Hs.no).isIn) ∧ (hssC L)[i * 4 + 1]? = some (.bool (L.getD i Hs.no).rob) ∧ (hssC L)[i * 4 + 2]? = some (.int .i64 (L.getD i Hs.no).pr) ∧ (hssC L)[i * 4 + 3]? = some (.int .i64 (L.getD i Hs.no).lf)
  | p :: L, 0, _ => by simp [hssC, hsC]
  | p :: L, i + 1, h => by
    have := hssC_get L i (by simpa using h)
    have e : hssC (p :: L) = .bool p.isIn :: .bool p.rob :: .int .i64 p.pr :: .int .i64 p.lf :: hssC L := rfl
    rw [e, show (i + 1) * 4 = i * 4 + 1 + 1 + 1 + 1 by omega]
    simpa using this
theorem hssC_set : ∀ (L : List Hs) (i : Nat) (p : Hs), i < L.length → hssC (L.set i p) = ((((hssC L).set (i * 4) (.bool p.isIn)).set (i * 4 + 1) (.bool p.rob)).set (i * 4 + 2) (.int .i64 p.pr)).set (i * 4 + 3) (.int .i64 p.lf)
  | q :: L, 0, p, _ => by simp [hssC, hsC]
  | q :: L, i + 1, p, h => by
    have e : ∀ (q : Hs) (M : List Hs), hssC (q :: M) = .bool q.isIn :: .bool q.rob :: .int .i64 q.pr :: .int .i64 q.lf :: hssC M := fun _ _ => rfl
    rw [List.set_cons_succ, e, e, hssC_set L i p (by simpa using h), show (i + 1) * 4 = i * 4 + 1 + 1 + 1 + 1 by omega]
    rfl
theorem tn_cells {w : World} {tb rb : Nat} {q : Int} {L : List Hs} (h : w.heap[tb]? = some (tnO rb q L)) (i : Nat) (hi : i < L.length) :
    w.cell? ⟨tb, 2 + i * 4, none⟩ = some (.bool (L.getD i Hs.no).isIn) ∧ w.cell? ⟨tb, 2 + i * 4 + 1, none⟩ = some (.bool (L.getD i Hs.no).rob) ∧ w.cell? ⟨tb, 2 + i * 4 + 2, none⟩ = some (.int .i64 (L.getD i Hs.no).pr) ∧ w.cell? ⟨tb, 2 + i * 4 + 3, none⟩ = some (.int .i64 (L.getD i Hs.no).lf) := by
  obtain ⟨g1, g2, g3, g4⟩ := hssC_get L i hi
  refine ⟨has_cell _ h ?_, has_cell _ h ?_, has_cell _ h ?_, has_cell _ h ?_⟩
  · rw [List.getElem?_toArray, show 2 + i * 4 = i * 4 + 1 + 1 by omega]; exact g1
  · rw [List.getElem?_toArray, show 2 + i * 4 + 1 = i * 4 + 1 + 1 + 1 by omega]; exact g2
  · rw [List.getElem?_toArray, show 2 + i * 4 + 2 = i * 4 + 2 + 1 + 1 by omega]; exact g3
  · rw [List.getElem?_toArray, show 2 + i * 4 + 3 = i * 4 + 3 + 1 + 1 by omega]; exact g4
/-- The four cells of a thread, stored. -/
theorem tn_set {rb : Nat} {q : Int} {L : List Hs} {i : Nat} (p : Hs) (h : i < L.length) :
    ((((tnC rb q L).toArray.setIfInBounds (2 + i * 4) (.bool p.isIn)).setIfInBounds (2 + i * 4 + 1) (.bool p.rob)).setIfInBounds (2 + i * 4 + 2) (.int .i64 p.pr)).setIfInBounds (2 + i * 4 + 3) (.int .i64 p.lf) = (tnC rb q (L.set i p)).toArray := by
  simp only [List.setIfInBounds_toArray, tnC]
  rw [show 2 + i * 4 = i * 4 + 1 + 1 by omega, show i * 4 + 1 + 1 + 1 = i * 4 + 1 + 1 + 1 by rfl, show i * 4 + 1 + 1 + 2 = i * 4 + 2 + 1 + 1 by omega, show i * 4 + 1 + 1 + 3 = i * 4 + 3 + 1 + 1 by omega]
  simp only [List.set_cons_succ]
  rw [hssC_set _ _ _ h]
theorem set_same {l : List Value} {i : Nat} {v : Value} (h : l[i]? = some v) : l.set i v = l := by
  apply List.ext_getElem?
  intro k
  by_cases e : i = k
  · subst e
    rw [List.getElem?_set_self (by rcases Nat.lt_or_ge i l.length with h' | h'; exact h'; rw [List.getElem?_eq_none h'] at h; cases h), h]
  · rw [List.getElem?_set_ne e]
theorem set_past {l : List Value} {i j : Nat} {v x : Value} (h : l[j]? = some v) (hne : i ≠ j) : (l.set i x).set j v = l.set i x := by
  rw [List.set_comm _ _ hne, set_same h]
theorem tn_set_pr {rb : Nat} {q : Int} {L : List Hs} {i : Nat} (x : Int) (h : i < L.length) : (tnC rb q L).toArray.setIfInBounds (2 + i * 4 + 2) (.int .i64 x) = (tnC rb q (L.set i { L.getD i Hs.no with pr := x })).toArray := by
  obtain ⟨g1, g2, g3, g4⟩ := hssC_get L i h
  simp only [List.setIfInBounds_toArray, tnC]
  rw [show 2 + i * 4 + 2 = i * 4 + 2 + 1 + 1 by omega]
  simp only [List.set_cons_succ]
  rw [hssC_set _ _ _ h]
  dsimp only
  rw [set_same g1, set_same g2, set_past g4 (by omega)]
/-- The turns and their sequences, as they lie. -/
structure Tn (w : World) (tb rb : Nat) (q : Int) (L : List Hs) (R : Rd) (st : Int) : Prop where
  t : w.heap[tb]? = some (tnO rb q L)
  r : w.heap[rb]? = some (rdO R st)
  ne : tb ≠ rb
  len : L.length = 16
  ok : RdOk R

set_option maxRecDepth 100000 in
theorem is_c (w : World) (tb rb : Nat) (q : Int) (L : List Hs) (h : w.heap[tb]? = some (tnO rb q L)) : Calls Tryz.prog 91 #[.pointer (some ⟨tb, 0, none⟩)] w fun e w' => e = .returned (.bool true) ∧ w = w' := by
  have c : w.cell? ⟨tb, 0, none⟩ = some (.pointer (some ⟨rb, 0, none⟩)) := has_cell 0 h rfl
  clear h
  go_enter Tryz.func91, Tryz.ntmps91
  go_wp2
  go_ret
  exact ⟨rfl, rfl⟩
set_option maxRecDepth 100000 in
theorem thread2_c (w : World) (t : Int) (h0 : 0 ≤ t) (h1 : t < 16) : Calls Tryz.prog 180 #[.int .i64 t] w fun e w' => e = .returned (.bool true) ∧ w = w' := by
  go_enter Tryz.func180, Tryz.ntmps180
  go_wp2
  go_ret
  exact ⟨rfl, rfl⟩
set_option maxRecDepth 100000 in
theorem prio_c (w : World) (t : Int) (h0 : 1 ≤ t) (h1 : t < 32) : Calls Tryz.prog 181 #[.int .i64 t] w fun e w' => e = .returned (.bool true) ∧ w = w' := by
  have h2 : t ≤ 31 := by omega
  go_enter Tryz.func181, Tryz.ntmps181
  go_wp2
  go_ret
  exact ⟨rfl, rfl⟩
set_option maxRecDepth 100000 in
theorem turns_new (w : World) (q : Int) (h0 : 1 ≤ q) (h1 : q ≤ 100) : Calls Tryz.prog 24 #[.int .i64 q] w fun e w' => ∃ tb rb, e = .returned (.tuple #[.pointer (some ⟨tb, 0, none⟩), .int .i64 0]) ∧ Tn w' tb rb q (List.replicate 16 Hs.no) Rd.new 0 ∧ Below w.heap.size w w' ∧ w.heap.size ≤ rb ∧ w.heap.size ≤ tb ∧ tb < w'.heap.size ∧ rb < w'.heap.size := by
  go_enter Tryz.func24, Tryz.ntmps24
  go_wp2_with fail
  refine (ready_new w).mono ?_; rintro e w1 ⟨rfl, hr, hb, hz⟩
  have HR := Lib.hid hr
  have HB := Lib.hid hb
  have HZ := Lib.hid hz
  clear hr hb hz
  go_wp2_with fail
  go_ret2
  exact ⟨_, _, rfl, ⟨heap_alloc_new w1 _, below_alloc_has HR.out, Nat.ne_of_gt HZ.out, rfl, newK_ok (Nat.le_refl 32)⟩, HB.out.alloc HB.out.size _, Nat.le_refl _, HB.out.size, by simp, by have := HZ.out; simp; omega⟩
end Go.Proofs.YtagmlijhgncklaaGreatDoor
namespace Go.Proofs.YtagmlijhgncklaaGreatDoor
open Go.RowKit

theorem RdOk.putF {R : Rd} (k : RdOk R) {p : Nat} (hp : p < 32) (t : Nat) (a b : Int) : RdOk (R.putF p t a b) := (((k.set_pr t p).set_sm (or_lt k.sm hp)).joinF _ _ _).joinF _ _ _
theorem RdOk.tailF {R : Rd} (k : RdOk R) {p : Nat} (hp : p < 32) (t : Nat) : RdOk (R.tailF p t) := k.putF hp _ _ _
theorem RdOk.headF {R : Rd} (k : RdOk R) {p : Nat} (hp : p < 32) (t : Nat) : RdOk (R.headF p t) := k.putF hp _ _ _
theorem RdOk.remF {R : Rd} (k : RdOk R) (t : Nat) : RdOk (R.remF t) := by
  unfold Rd.remF
  dsimp only
  have k1 := (k.joinF (R.pr.getD t 0).toNat (R.pv.getD t 0) (R.nx.getD t 0)).set_pr t 0
  split
  · exact k1.set_sm (and_lt k1.sm)
  · exact k1
theorem Tn.heap {w w' : World} {tb rb : Nat} {q : Int} {L : List Hs} {R : Rd} {st : Int} (T : Tn w tb rb q L R st) (h : ∀ k, k < w.heap.size → w'.heap[k]? = w.heap[k]?) : Tn w' tb rb q L R st :=
  ⟨(h tb (has_lt T.t)).trans T.t, (h rb (has_lt T.r)).trans T.r, T.ne, T.len, T.ok⟩

set_option maxRecDepth 100000 in
set_option maxHeartbeats 400000 in
theorem turns_add (w : World) (tb rb : Nat) (q : Int) (L : List Hs) (R : Rd) (st : Int) (t p : Nat) (rob : Bool) (T : Tn w tb rb q L R st) (ht : t < 16) (hp1 : 1 ≤ p) (hp : p < 32) (hin : (L.getD t Hs.no).isIn = false) (hz : R.pr.getD t 0 = 0) (hl : Lk (R.tl.getD p 0)) (h0 : 0 ≤ st) (h1 : st ≤ 800000000) :
    Calls Tryz.prog 110 #[.pointer (some ⟨tb, 0, none⟩), .int .i64 t, .int .i64 p, .bool rob] w fun e w' => e = .returned (.int .i64 0) ∧ Tn w' tb rb q (L.set t ⟨true, rob, p, q⟩) (R.tailF p t) (st + 4) ∧ Upd2 w tb rb w' := by
  have hpi : (p : Int) < 32 := by omega
  have hp1i : 1 ≤ (p : Int) := by omega
  have hti : (t : Int) < 16 := by omega
  have htl : t < L.length := by rw [T.len]; exact ht
  have c0 : w.cell? ⟨tb, 0, none⟩ = some (.pointer (some ⟨rb, 0, none⟩)) := has_cell 0 T.t rfl
  have c2 := (tn_cells T.t t htl).1
  rw [hin] at c2
  have I := is_c w tb rb q L T.t
  have A := tailF_c w rb p t R st T.r T.ok hp1 hp ht hz hl h0 h1
  have HT := Lib.hid T
  have HI := Lib.hid hin
  clear T hin hz hl
  go_enter Tryz.func110, Tryz.ntmps110
  go_wp2_with (first | (go_at_call 91; refine I.mono ?_; rintro e w' ⟨rfl, rfl⟩) | (go_at_call 180; refine (thread2_c _ _ (by omega) (by omega)).mono ?_; rintro e w' ⟨rfl, rfl⟩) | (go_at_call 181; refine (prio_c _ _ (by omega) (by omega)).mono ?_; rintro e w' ⟨rfl, rfl⟩) | (go_at_call 182; refine A.mono ?_; rintro e w1 ⟨rfl, u⟩))
  clear I A c0 c2
  have t1 := u.other HT.out.t HT.out.ne
  have c1 : w1.cell? ⟨tb, 1, none⟩ = some (.int .i64 q) := has_cell 1 t1 rfl
  obtain ⟨d0, d1, d2, d3⟩ := tn_cells t1 t htl
  have fz := has_free t1
  have HU := Lib.hid u
  have HT1 := Lib.hid t1
  clear u t1
  go_region
  go_wp2_with fail
  go_ret
  have v := (((((Upd.refl HT1.out).setCell (2 + t * 4) (.bool true)).setCell (2 + t * 4 + 1) (.bool rob)).setCell (2 + t * 4 + 2) (.int .i64 p)).setCell (2 + t * 4 + 3) (.int .i64 q)).drew.to (o' := tnO rb q (L.set t ⟨true, rob, p, q⟩)) (by have := tn_set (rb := rb) (q := q) (L := L) ⟨true, rob, p, q⟩ htl; dsimp only at this; rw [this]; rfl)
  exact ⟨rfl, ⟨v.1, v.other HU.out.1 (Ne.symm HT.out.ne), HT.out.ne, by simp [HT.out.len], HT.out.ok.tailF hp t⟩, ((Upd2.refl w tb rb).right HU.out).left v⟩

theorem remF_pr {R : Rd} (k : RdOk R) {t : Nat} (ht : t < 16) : (R.remF t).pr.getD t 0 = 0 := by
  have e : (R.remF t).pr = ((R.joinF (R.pr.getD t 0).toNat (R.pv.getD t 0) (R.nx.getD t 0)).pr).set t 0 := by
    unfold Rd.remF
    dsimp only
    split <;> rfl
  rw [e]
  have := (k.joinF (R.pr.getD t 0).toNat (R.pv.getD t 0) (R.nx.getD t 0)).pr
  rw [List.getD_eq_getElem?_getD, List.getElem?_set_self (by rw [this]; exact ht)]
  rfl

set_option maxRecDepth 100000 in
set_option maxHeartbeats 400000 in
theorem goes_tail (w : World) (tb rb : Nat) (q : Int) (L : List Hs) (R : Rd) (st : Int) (t p p0 : Nat) (T : Tn w tb rb q L R st) (ht : t < 16) (hp1 : 1 ≤ p) (hp : p < 32) (hq1 : 1 ≤ p0) (hq : p0 < 32) (hz : R.pr.getD t 0 = p0) (hv : Lk (R.pv.getD t 0)) (hn : Lk (R.nx.getD t 0)) (hl : Lk ((R.remF t).tl.getD p 0)) (h0 : 0 ≤ st) (h1 : st ≤ 700000000) :
    Calls Tryz.prog 153 #[.pointer (some ⟨tb, 0, none⟩), .int .i64 t, .int .i64 p, .bool false] w fun e w' => e = .returned (.tuple #[]) ∧ Tn w' tb rb q (L.set t { L.getD t Hs.no with pr := p }) ((R.remF t).tailF p t) (st + 6) ∧ Upd2 w tb rb w' := by
  have hti : (t : Int) < 16 := by omega
  have htl : t < L.length := by rw [T.len]; exact ht
  have c0 : w.cell? ⟨tb, 0, none⟩ = some (.pointer (some ⟨rb, 0, none⟩)) := has_cell 0 T.t rfl
  have A := remove_c w rb p0 t R st T.r T.ok hq1 hq ht hz hv hn h0 (by omega)
  have HT := Lib.hid T
  have HL := Lib.hid hl
  clear T hz hv hn hl
  go_enter Tryz.func153, Tryz.ntmps153
  go_wp2_with fail
  refine A.mono ?_; rintro e w1 ⟨rfl, u⟩
  clear A c0
  have t1 := u.other HT.out.t HT.out.ne
  have c0 : w1.cell? ⟨tb, 0, none⟩ = some (.pointer (some ⟨rb, 0, none⟩)) := has_cell 0 t1 rfl
  have A := tailF_c w1 rb p t _ (st + 2) u.1 (HT.out.ok.remF t) hp1 hp ht (remF_pr HT.out.ok ht) HL.out (by omega) (by omega)
  have HU := Lib.hid u
  have HT1 := Lib.hid t1
  clear u t1
  go_wp2_with fail
  refine A.mono ?_; rintro e w2 ⟨rfl, u⟩
  clear A c0
  have t2 := u.other HT1.out HT.out.ne
  obtain ⟨d0, d1, d2, d3⟩ := tn_cells t2 t htl
  have fz := has_free t2
  have HU2 := Lib.hid u
  have HT2 := Lib.hid t2
  clear u t2
  go_wp2_with fail
  go_end0
  have v := ((Upd.refl HT2.out).setCell (2 + t * 4 + 2) (.int .i64 p)).to (o' := tnO rb q (L.set t { L.getD t Hs.no with pr := p })) (by rw [tn_set_pr _ htl]; rfl)
  exact ⟨rfl, ⟨v.1, (v.other HU2.out.1 (Ne.symm HT.out.ne)).trans (by rw [show st + 2 + 4 = st + 6 by omega]), HT.out.ne, by simp [HT.out.len], (HT.out.ok.remF t).tailF hp t⟩, (((Upd2.refl w tb rb).right HU.out).right HU2.out).left v⟩

set_option maxRecDepth 100000 in
set_option maxHeartbeats 400000 in
theorem goes_head (w : World) (tb rb : Nat) (q : Int) (L : List Hs) (R : Rd) (st : Int) (t p p0 : Nat) (T : Tn w tb rb q L R st) (ht : t < 16) (hp1 : 1 ≤ p) (hp : p < 32) (hq1 : 1 ≤ p0) (hq : p0 < 32) (hz : R.pr.getD t 0 = p0) (hv : Lk (R.pv.getD t 0)) (hn : Lk (R.nx.getD t 0)) (hl : Lk ((R.remF t).hd.getD p 0)) (h0 : 0 ≤ st) (h1 : st ≤ 700000000) :
    Calls Tryz.prog 153 #[.pointer (some ⟨tb, 0, none⟩), .int .i64 t, .int .i64 p, .bool true] w fun e w' => e = .returned (.tuple #[]) ∧ Tn w' tb rb q (L.set t { L.getD t Hs.no with pr := p }) ((R.remF t).headF p t) (st + 6) ∧ Upd2 w tb rb w' := by
  have hti : (t : Int) < 16 := by omega
  have htl : t < L.length := by rw [T.len]; exact ht
  have c0 : w.cell? ⟨tb, 0, none⟩ = some (.pointer (some ⟨rb, 0, none⟩)) := has_cell 0 T.t rfl
  have A := remove_c w rb p0 t R st T.r T.ok hq1 hq ht hz hv hn h0 (by omega)
  have HT := Lib.hid T
  have HL := Lib.hid hl
  clear T hz hv hn hl
  go_enter Tryz.func153, Tryz.ntmps153
  go_wp2_with fail
  refine A.mono ?_; rintro e w1 ⟨rfl, u⟩
  clear A c0
  have t1 := u.other HT.out.t HT.out.ne
  have c0 : w1.cell? ⟨tb, 0, none⟩ = some (.pointer (some ⟨rb, 0, none⟩)) := has_cell 0 t1 rfl
  have A := headF_c w1 rb p t _ (st + 2) u.1 (HT.out.ok.remF t) hp1 hp ht (remF_pr HT.out.ok ht) HL.out (by omega) (by omega)
  have HU := Lib.hid u
  have HT1 := Lib.hid t1
  clear u t1
  go_wp2_with fail
  refine A.mono ?_; rintro e w2 ⟨rfl, u⟩
  clear A c0
  have t2 := u.other HT1.out HT.out.ne
  obtain ⟨d0, d1, d2, d3⟩ := tn_cells t2 t htl
  have fz := has_free t2
  have HU2 := Lib.hid u
  have HT2 := Lib.hid t2
  clear u t2
  go_wp2_with fail
  go_end0
  have v := ((Upd.refl HT2.out).setCell (2 + t * 4 + 2) (.int .i64 p)).to (o' := tnO rb q (L.set t { L.getD t Hs.no with pr := p })) (by rw [tn_set_pr _ htl]; rfl)
  exact ⟨rfl, ⟨v.1, (v.other HU2.out.1 (Ne.symm HT.out.ne)).trans (by rw [show st + 2 + 4 = st + 6 by omega]), HT.out.ne, by simp [HT.out.len], (HT.out.ok.remF t).headF hp t⟩, (((Upd2.refl w tb rb).right HU.out).right HU2.out).left v⟩

set_option maxRecDepth 100000 in
theorem in_484 (w : World) (tb rb : Nat) (q : Int) (L : List Hs) (t p x y : Nat) (Q : World → Prop) (T : w.heap[tb]? = some (tnO rb q L)) (hlen : L.length = 16) (ht : t < 16) (hp1 : 1 ≤ p) (hp : p < 32) (hin : (L.getD t Hs.no).isIn = true)
    (hF : Calls Tryz.prog 484 #[.pointer (some ⟨tb, 2 + t * 4, none⟩), .pointer (some ⟨x, 0, none⟩), .pointer (some ⟨y, 0, none⟩)] w fun e w' => e = .returned (.tuple #[]) ∧ Q w') :
    Calls Tryz.prog 187 #[.pointer (some ⟨tb, 0, none⟩), .int .i64 t, .int .i64 p, .func (.func 484) #[] #[.pointer (some ⟨x, 0, none⟩), .pointer (some ⟨y, 0, none⟩)]] w fun e w' => e = .returned (.int .i64 0) ∧ Q w' := by
  have hpi : (p : Int) < 32 := by omega
  have hp1i : 1 ≤ (p : Int) := by omega
  have hti : (t : Int) < 16 := by omega
  have htl : t < L.length := by rw [hlen]; exact ht
  have c2 := (tn_cells T t htl).1
  rw [hin] at c2
  have I := is_c w tb rb q L T
  clear T hin
  go_enter Tryz.func187, Tryz.ntmps187
  go_wp2_with (first | (go_at_call 91; refine I.mono ?_; rintro e w' ⟨rfl, rfl⟩) | (go_at_call 180; refine (thread2_c _ _ (by omega) (by omega)).mono ?_; rintro e w' ⟨rfl, rfl⟩) | (go_at_call 181; refine (prio_c _ _ (by omega) (by omega)).mono ?_; rintro e w' ⟨rfl, rfl⟩) | (go_at_call 484; refine hF.mono ?_; rintro e w1 ⟨rfl, hq⟩))
  have HQ := Lib.hid hq
  clear hq hF I
  go_ret
  exact ⟨rfl, HQ.out⟩

set_option maxRecDepth 100000 in
theorem in_489 (w : World) (tb rb : Nat) (q : Int) (L : List Hs) (t p x y : Nat) (Q : World → Prop) (T : w.heap[tb]? = some (tnO rb q L)) (hlen : L.length = 16) (ht : t < 16) (hp1 : 1 ≤ p) (hp : p < 32) (hin : (L.getD t Hs.no).isIn = true)
    (hF : Calls Tryz.prog 489 #[.pointer (some ⟨tb, 2 + t * 4, none⟩), .pointer (some ⟨x, 0, none⟩), .pointer (some ⟨y, 0, none⟩)] w fun e w' => e = .returned (.tuple #[]) ∧ Q w') :
    Calls Tryz.prog 187 #[.pointer (some ⟨tb, 0, none⟩), .int .i64 t, .int .i64 p, .func (.func 489) #[] #[.pointer (some ⟨x, 0, none⟩), .pointer (some ⟨y, 0, none⟩)]] w fun e w' => e = .returned (.int .i64 0) ∧ Q w' := by
  have hpi : (p : Int) < 32 := by omega
  have hp1i : 1 ≤ (p : Int) := by omega
  have hti : (t : Int) < 16 := by omega
  have htl : t < L.length := by rw [hlen]; exact ht
  have c2 := (tn_cells T t htl).1
  rw [hin] at c2
  have I := is_c w tb rb q L T
  clear T hin
  go_enter Tryz.func187, Tryz.ntmps187
  go_wp2_with (first | (go_at_call 91; refine I.mono ?_; rintro e w' ⟨rfl, rfl⟩) | (go_at_call 180; refine (thread2_c _ _ (by omega) (by omega)).mono ?_; rintro e w' ⟨rfl, rfl⟩) | (go_at_call 181; refine (prio_c _ _ (by omega) (by omega)).mono ?_; rintro e w' ⟨rfl, rfl⟩) | (go_at_call 489; refine hF.mono ?_; rintro e w1 ⟨rfl, hq⟩))
  have HQ := Lib.hid hq
  clear hq hF I
  go_ret
  exact ⟨rfl, HQ.out⟩

set_option maxRecDepth 100000 in
theorem in_490 (w : World) (tb rb : Nat) (q : Int) (L : List Hs) (t p x y z : Nat) (Q : World → Prop) (T : w.heap[tb]? = some (tnO rb q L)) (hlen : L.length = 16) (ht : t < 16) (hp1 : 1 ≤ p) (hp : p < 32) (hin : (L.getD t Hs.no).isIn = true)
    (hF : Calls Tryz.prog 490 #[.pointer (some ⟨tb, 2 + t * 4, none⟩), .pointer (some ⟨x, 0, none⟩), .pointer (some ⟨y, 0, none⟩), .pointer (some ⟨z, 0, none⟩)] w fun e w' => e = .returned (.tuple #[]) ∧ Q w') :
    Calls Tryz.prog 187 #[.pointer (some ⟨tb, 0, none⟩), .int .i64 t, .int .i64 p, .func (.func 490) #[] #[.pointer (some ⟨x, 0, none⟩), .pointer (some ⟨y, 0, none⟩), .pointer (some ⟨z, 0, none⟩)]] w fun e w' => e = .returned (.int .i64 0) ∧ Q w' := by
  have hpi : (p : Int) < 32 := by omega
  have hp1i : 1 ≤ (p : Int) := by omega
  have hti : (t : Int) < 16 := by omega
  have htl : t < L.length := by rw [hlen]; exact ht
  have c2 := (tn_cells T t htl).1
  rw [hin] at c2
  have I := is_c w tb rb q L T
  clear T hin
  go_enter Tryz.func187, Tryz.ntmps187
  go_wp2_with (first | (go_at_call 91; refine I.mono ?_; rintro e w' ⟨rfl, rfl⟩) | (go_at_call 180; refine (thread2_c _ _ (by omega) (by omega)).mono ?_; rintro e w' ⟨rfl, rfl⟩) | (go_at_call 181; refine (prio_c _ _ (by omega) (by omega)).mono ?_; rintro e w' ⟨rfl, rfl⟩) | (go_at_call 490; refine hF.mono ?_; rintro e w1 ⟨rfl, hq⟩))
  have HQ := Lib.hid hq
  clear hq hF I
  go_ret
  exact ⟨rfl, HQ.out⟩

end Go.Proofs.YtagmlijhgncklaaGreatDoor
namespace Go.Proofs.YtagmlijhgncklaaGreatDoor
open Go.RowKit

set_option maxRecDepth 100000 in
set_option maxHeartbeats 400000 in
theorem leave1_c (w : World) (tb rb x y : Nat) (q : Int) (L : List Hs) (R : Rd) (st : Int) (t p0 : Nat) (T : Tn w tb rb q L R st) (ht : t < 16) (hq1 : 1 ≤ p0) (hq : p0 < 32) (hz : R.pr.getD t 0 = p0) (hv : Lk (R.pv.getD t 0)) (hn : Lk (R.nx.getD t 0)) (h0 : 0 ≤ st) (h1 : st ≤ 700000000)
    (hx : w.heap[x]? = some (.cells #[.pointer (some ⟨tb, 0, none⟩)] 73 (0, 0))) (hy : w.heap[y]? = some (.cells #[.int .i64 t] 3 (0, 0))) :
    Calls Tryz.prog 484 #[.pointer (some ⟨tb, 2 + t * 4, none⟩), .pointer (some ⟨x, 0, none⟩), .pointer (some ⟨y, 0, none⟩)] w fun e w' => e = .returned (.tuple #[]) ∧ (Tn w' tb rb q (L.set t Hs.no) (R.remF t) (st + 2) ∧ Upd2 w tb rb w') := by
  have hti : (t : Int) < 16 := by omega
  have htl : t < L.length := by rw [T.len]; exact ht
  have c0 : w.cell? ⟨tb, 0, none⟩ = some (.pointer (some ⟨rb, 0, none⟩)) := has_cell 0 T.t rfl
  have cx := has_cell 0 hx rfl
  have cy := has_cell 0 hy rfl
  have A := remove_c w.drew rb p0 t R st T.r T.ok hq1 hq ht hz hv hn h0 (by omega)
  have HT := Lib.hid T
  clear T hz hv hn hx hy
  go_enter Tryz.func484, Tryz.ntmps484
  go_wp2_with fail
  refine still_tail 5 (by kernel_rfl) (by kernel_rfl) ?_
  simp only [List.take_succ_cons, List.take_zero, List.drop_succ_cons, List.drop_zero]
  repeat still_step
  refine wpStill_nil ?_
  go_wp2_with fail
  refine A.mono ?_; rintro e w1 ⟨rfl, u0⟩
  have u := u0.drew0
  clear A c0 cx cy u0
  have t1 := u.other HT.out.t HT.out.ne
  obtain ⟨d0, d1, d2, d3⟩ := tn_cells t1 t htl
  have fz := has_free t1
  have HU := Lib.hid u
  have HT1 := Lib.hid t1
  clear u t1
  go_wp2_with fail
  go_end0
  have v := (((((Upd.refl HT1.out).setCell (2 + t * 4) (.bool false)).setCell (2 + t * 4 + 1) (.bool false)).setCell (2 + t * 4 + 2) (.int .i64 0)).setCell (2 + t * 4 + 3) (.int .i64 0)).to (o' := tnO rb q (L.set t Hs.no)) (by have := tn_set (rb := rb) (q := q) (L := L) Hs.no htl; simp only [Hs.no] at this ⊢; rw [this]; rfl)
  exact ⟨rfl, ⟨v.1, v.other HU.out.1 (Ne.symm HT.out.ne), HT.out.ne, by simp [HT.out.len], HT.out.ok.remF t⟩, ((Upd2.refl w tb rb).right HU.out).left v⟩
set_option maxRecDepth 100000 in
theorem turns_leave (w : World) (tb rb : Nat) (q : Int) (L : List Hs) (R : Rd) (st : Int) (t p0 : Nat) (T : Tn w tb rb q L R st) (ht : t < 16) (hin : (L.getD t Hs.no).isIn = true) (hq1 : 1 ≤ p0) (hq : p0 < 32) (hz : R.pr.getD t 0 = p0) (hv : Lk (R.pv.getD t 0)) (hn : Lk (R.nx.getD t 0)) (h0 : 0 ≤ st) (h1 : st ≤ 700000000) :
    Calls Tryz.prog 340 #[.pointer (some ⟨tb, 0, none⟩), .int .i64 t] w fun e w' => e = .returned (.int .i64 0) ∧ (Tn w' tb rb q (L.set t Hs.no) (R.remF t) (st + 2) ∧ Upd2 w tb rb w') := by
  go_enter Tryz.func340, Tryz.ntmps340
  have x1 := heap_alloc_new w (.cells #[.pointer (some ⟨tb, 0, none⟩)] 73)
  have B1 := (Below.refl w.heap.size w).alloc (Nat.le_refl _) (.cells #[.pointer (some ⟨tb, 0, none⟩)] 73)
  have B2 := B1.alloc (by simp) (.cells #[.int .i64 t] 3)
  have x2 := heap_alloc_new (w.alloc (.cells #[.pointer (some ⟨tb, 0, none⟩)] 73)) (.cells #[.int .i64 t] 3)
  have x1' := below_alloc_has (o := .cells #[.int .i64 t] 3) x1
  go_wp2_with fail
  refine calls_world (fun W => W.heap[w.heap.size]? = some (.cells #[.pointer (some ⟨tb, 0, none⟩)] 73 (0, 0)) ∧ W.heap[w.heap.size + 1]? = some (.cells #[.int .i64 t] 3 (0, 0)) ∧ Below w.heap.size w W) ⟨x1', by simpa using x2, B2⟩ ?_
  clear x1 x2 B1 B2 x1'
  rintro W ⟨x1, x2, B⟩
  have TW := T.heap B.block
  refine (in_484 W tb rb q L t 1 _ _ _ TW.t T.len ht (by omega) (by omega) hin (leave1_c W tb rb _ _ q L R st t p0 TW ht hq1 hq hz hv hn h0 h1 x1 x2)).mono ?_; rintro e w1 ⟨rfl, T1, u⟩
  have HT1 := Lib.hid T1
  have HU := Lib.hid u
  have HB := Lib.hid B
  clear x1 x2 B u T1 TW T hin hz hv hn
  go_wp2_with fail
  go_ret
  exact ⟨rfl, HT1.out, ⟨HU.out.os.trans HB.out.os, HU.out.tape.trans HB.out.tape, HU.out.output.trans HB.out.output, Nat.le_trans HB.out.size HU.out.size, fun i hi h1 h2 => (HU.out.block i (Nat.lt_of_lt_of_le hi HB.out.size) h1 h2).trans (HB.out.block i hi)⟩⟩
set_option maxRecDepth 100000 in
theorem turns_runs (w : World) (tb rb : Nat) (q : Int) (L : List Hs) (R : Rd) (st : Int) (T : Tn w tb rb q L R st) (hb1 : 1 ≤ Lib.bitLen R.sm) (hb2 : Lib.bitLen R.sm ≤ 32) (hs : R.sm ≠ 0) (h0 : 0 ≤ st) (h1 : st ≤ 800000000) :
    Calls Tryz.prog 48 #[.pointer (some ⟨tb, 0, none⟩)] w fun e w' => e = .returned (.tuple #[.int .i64 R.firstF, .bool true]) ∧ Tn w' tb rb q L R (st + 1) ∧ Upd w rb (rdO R (st + 1)) w' := by
  have c0 : w.cell? ⟨tb, 0, none⟩ = some (.pointer (some ⟨rb, 0, none⟩)) := has_cell 0 T.t rfl
  have A := first_c w rb R st T.r T.ok hb1 hb2 hs h0 h1
  have I := is_c w tb rb q L T.t
  have HT := Lib.hid T
  clear T hb1 hb2 hs
  go_enter Tryz.func48, Tryz.ntmps48
  go_wp2_with (first | (go_at_call 91; refine I.mono ?_; rintro e w' ⟨rfl, rfl⟩) | (go_at_call 92; refine A.mono ?_; rintro e w1 ⟨rfl, u⟩))
  have HU := Lib.hid u
  clear u A I
  go_ret2
  exact ⟨rfl, ⟨HU.out.other HT.out.t HT.out.ne, HU.out.1, HT.out.ne, HT.out.len, HT.out.ok⟩, HU.out⟩
set_option maxRecDepth 100000 in
theorem turns_nobody (w : World) (tb rb : Nat) (q : Int) (L : List Hs) (R : Rd) (st : Int) (T : Tn w tb rb q L R st) (hs : R.sm = 0) :
    Calls Tryz.prog 48 #[.pointer (some ⟨tb, 0, none⟩)] w fun e w' => e = .returned (.tuple #[.int .i64 0, .bool false]) ∧ w = w' := by
  have c0 : w.cell? ⟨tb, 0, none⟩ = some (.pointer (some ⟨rb, 0, none⟩)) := has_cell 0 T.t rfl
  have A := first_none w rb R st T.r hs
  have I := is_c w tb rb q L T.t
  clear T hs
  go_enter Tryz.func48, Tryz.ntmps48
  go_wp2_with (first | (go_at_call 91; refine I.mono ?_; rintro e w' ⟨rfl, rfl⟩) | (go_at_call 92; refine A.mono ?_; rintro e w1 ⟨rfl, rfl⟩))
  go_ret2
  exact ⟨rfl, rfl⟩
end Go.Proofs.YtagmlijhgncklaaGreatDoor
namespace Go.Proofs.YtagmlijhgncklaaGreatDoor
open Go.RowKit

set_option maxRecDepth 100000 in
/-- Who yields goes to the tail of its own sequence. -/
theorem yield1_c (w : World) (tb rb y z : Nat) (q : Int) (L : List Hs) (R : Rd) (st : Int) (t p0 : Nat) (T : Tn w tb rb q L R st) (ht : t < 16) (hq1 : 1 ≤ p0) (hq : p0 < 32) (hpr : (L.getD t Hs.no).pr = p0) (hz : R.pr.getD t 0 = p0) (hv : Lk (R.pv.getD t 0)) (hn : Lk (R.nx.getD t 0)) (hl : Lk ((R.remF t).tl.getD p0 0)) (h0 : 0 ≤ st) (h1 : st ≤ 700000000)
    (hy : w.heap[y]? = some (.cells #[.pointer (some ⟨tb, 0, none⟩)] 73 (0, 0))) (hzz : w.heap[z]? = some (.cells #[.int .i64 t] 3 (0, 0))) :
    Calls Tryz.prog 489 #[.pointer (some ⟨tb, 2 + t * 4, none⟩), .pointer (some ⟨y, 0, none⟩), .pointer (some ⟨z, 0, none⟩)] w fun e w' => e = .returned (.tuple #[]) ∧ (Tn w' tb rb q (L.set t { L.getD t Hs.no with pr := p0 }) ((R.remF t).tailF p0 t) (st + 6) ∧ Upd2 w tb rb w') := by
  have htl : t < L.length := by rw [T.len]; exact ht
  obtain ⟨d0, d1, d2, d3⟩ := tn_cells T.t t htl
  rw [hpr] at d2
  have A := goes_tail w.drew tb rb q L R st t p0 p0 (T.heap (fun _ _ => rfl)) ht hq1 hq hq1 hq hz hv hn hl h0 h1
  have cy : w.cell? ⟨y, 0, none⟩ = some (.pointer (some ⟨tb, 0, none⟩)) := has_cell 0 hy rfl
  have cz : w.cell? ⟨z, 0, none⟩ = some (.int .i64 t) := has_cell 0 hzz rfl
  clear T hpr hz hv hn hl hy hzz
  go_enter Tryz.func489, Tryz.ntmps489
  go_wp2_with fail
  go_region_law (first | (go_simp; go_at_call 153; refine A.mono ?_; rintro e w1 ⟨rfl, T1, u⟩))
  all_goals exact bodyPost_end (results_none rfl _ _ _) rfl ⟨rfl, T1, ⟨u.os, u.tape, u.output, u.size, u.block⟩⟩
set_option maxRecDepth 100000 in
theorem turns_yield (w : World) (tb rb : Nat) (q : Int) (L : List Hs) (R : Rd) (st : Int) (t p0 : Nat) (T : Tn w tb rb q L R st) (ht : t < 16) (hin : (L.getD t Hs.no).isIn = true) (hq1 : 1 ≤ p0) (hq : p0 < 32) (hpr : (L.getD t Hs.no).pr = p0) (hz : R.pr.getD t 0 = p0) (hv : Lk (R.pv.getD t 0)) (hn : Lk (R.nx.getD t 0)) (hl : Lk ((R.remF t).tl.getD p0 0)) (h0 : 0 ≤ st) (h1 : st ≤ 700000000) :
    Calls Tryz.prog 353 #[.pointer (some ⟨tb, 0, none⟩), .int .i64 t] w fun e w' => e = .returned (.int .i64 0) ∧ (Tn w' tb rb q (L.set t { L.getD t Hs.no with pr := p0 }) ((R.remF t).tailF p0 t) (st + 6) ∧ Upd2 w tb rb w') := by
  go_enter Tryz.func353, Tryz.ntmps353
  have x1 := heap_alloc_new w (.cells #[.pointer (some ⟨tb, 0, none⟩)] 73)
  have B1 := (Below.refl w.heap.size w).alloc (Nat.le_refl _) (.cells #[.pointer (some ⟨tb, 0, none⟩)] 73)
  have x2 := heap_alloc_new (w.alloc (.cells #[.pointer (some ⟨tb, 0, none⟩)] 73)) (.cells #[.int .i64 t] 3)
  have B2 := B1.alloc (by simp) (.cells #[.int .i64 t] 3)
  have x1' := below_alloc_has (o := .cells #[.int .i64 t] 3) x1
  go_wp2_with fail
  refine calls_world (fun W => W.heap[w.heap.size]? = some (.cells #[.pointer (some ⟨tb, 0, none⟩)] 73 (0, 0)) ∧ W.heap[w.heap.size + 1]? = some (.cells #[.int .i64 t] 3 (0, 0)) ∧ Below w.heap.size w W) ⟨x1', by simpa using x2, B2⟩ ?_
  clear x1 x2 B1 B2 x1'
  rintro W ⟨x1, x2, B⟩
  have TW := T.heap B.block
  refine (in_489 W tb rb q L t 1 _ _ _ TW.t T.len ht (Nat.le_refl _) (by decide) hin (yield1_c W tb rb _ _ q L R st t p0 TW ht hq1 hq hpr hz hv hn hl h0 h1 x1 x2)).mono ?_; rintro e w1 ⟨rfl, T1, u⟩
  have HT1 := Lib.hid T1
  have HU := Lib.hid u
  have HB := Lib.hid B
  clear x1 x2 B u T1 TW T hin hz hv hn hl hpr
  go_wp2_with fail
  go_ret
  exact ⟨rfl, HT1.out, ⟨HU.out.os.trans HB.out.os, HU.out.tape.trans HB.out.tape, HU.out.output.trans HB.out.output, Nat.le_trans HB.out.size HU.out.size, fun i hi h1 h2 => (HU.out.block i (Nat.lt_of_lt_of_le hi HB.out.size) h1 h2).trans (HB.out.block i hi)⟩⟩
set_option maxHeartbeats 4000000 in
set_option maxRecDepth 100000 in
/-- What Move does to who is in, at a lesser priority: to the head of its sequence. -/
theorem move1_c (w : World) (tb rb x y z : Nat) (q : Int) (L : List Hs) (R : Rd) (st : Int) (t p p0 : Nat) (T : Tn w tb rb q L R st) (ht : t < 16) (hp1 : 1 ≤ p) (hp : p < 32) (hq1 : 1 ≤ p0) (hq : p0 < 32) (hlt : p < p0) (hpr : (L.getD t Hs.no).pr = p0) (hz : R.pr.getD t 0 = p0) (hv : Lk (R.pv.getD t 0)) (hn : Lk (R.nx.getD t 0)) (hl : Lk ((R.remF t).hd.getD p 0)) (h0 : 0 ≤ st) (h1 : st ≤ 700000000)
    (hx : w.heap[x]? = some (.cells #[.int .i64 p] 3 (0, 0))) (hy : w.heap[y]? = some (.cells #[.pointer (some ⟨tb, 0, none⟩)] 73 (0, 0))) (hzz : w.heap[z]? = some (.cells #[.int .i64 t] 3 (0, 0))) :
    Calls Tryz.prog 490 #[.pointer (some ⟨tb, 2 + t * 4, none⟩), .pointer (some ⟨x, 0, none⟩), .pointer (some ⟨y, 0, none⟩), .pointer (some ⟨z, 0, none⟩)] w fun e w' => e = .returned (.tuple #[]) ∧ (Tn w' tb rb q (L.set t { L.getD t Hs.no with pr := p }) ((R.remF t).headF p t) (st + 6) ∧ Upd2 w tb rb w') := by
  have htl : t < L.length := by rw [T.len]; exact ht
  obtain ⟨d0, d1, d2, d3⟩ := tn_cells T.t t htl
  rw [hpr] at d2
  have A := fun n => goes_head (w.drewN n) tb rb q L R st t p p0 (T.heap (fun _ _ => rfl)) ht hp1 hp hq1 hq hz hv hn hl h0 h1
  have A1 := A 1
  have A2 := goes_head w.drew.drew tb rb q L R st t p p0 (T.heap (fun _ _ => rfl)) ht hp1 hp hq1 hq hz hv hn hl h0 h1
  have cx : w.cell? ⟨x, 0, none⟩ = some (.int .i64 p) := has_cell 0 hx rfl
  have cy : w.cell? ⟨y, 0, none⟩ = some (.pointer (some ⟨tb, 0, none⟩)) := has_cell 0 hy rfl
  have cz : w.cell? ⟨z, 0, none⟩ = some (.int .i64 t) := has_cell 0 hzz rfl
  have hni : (p : Int) ≠ p0 := by omega
  have hli : (p : Int) < p0 := by omega
  clear T hpr hz hv hn hl hx hy hzz
  go_enter Tryz.func490, Tryz.ntmps490
  go_wp2_with fail
  go_region
  go_wp2_with fail
  go_region_law (first | (go_simp; go_at_call 153; refine A2.mono ?_; rintro e w1 ⟨rfl, T1, u⟩))
  all_goals exact bodyPost_end (results_none rfl _ _ _) rfl ⟨rfl, T1, ⟨u.os, u.tape, u.output, u.size, u.block⟩⟩
set_option maxRecDepth 100000 in
theorem turns_move (w : World) (tb rb : Nat) (q : Int) (L : List Hs) (R : Rd) (st : Int) (t p p0 : Nat) (T : Tn w tb rb q L R st) (ht : t < 16) (hin : (L.getD t Hs.no).isIn = true) (hp1 : 1 ≤ p) (hp : p < 32) (hq1 : 1 ≤ p0) (hq : p0 < 32) (hlt : p < p0) (hpr : (L.getD t Hs.no).pr = p0) (hz : R.pr.getD t 0 = p0) (hv : Lk (R.pv.getD t 0)) (hn : Lk (R.nx.getD t 0)) (hl : Lk ((R.remF t).hd.getD p 0)) (h0 : 0 ≤ st) (h1 : st ≤ 700000000) :
    Calls Tryz.prog 356 #[.pointer (some ⟨tb, 0, none⟩), .int .i64 t, .int .i64 p] w fun e w' => e = .returned (.int .i64 0) ∧ (Tn w' tb rb q (L.set t { L.getD t Hs.no with pr := p }) ((R.remF t).headF p t) (st + 6) ∧ Upd2 w tb rb w') := by
  go_enter Tryz.func356, Tryz.ntmps356
  have x1 := heap_alloc_new w (.cells #[.pointer (some ⟨tb, 0, none⟩)] 73)
  have B1 := (Below.refl w.heap.size w).alloc (Nat.le_refl _) (.cells #[.pointer (some ⟨tb, 0, none⟩)] 73)
  have x2 := heap_alloc_new (w.alloc (.cells #[.pointer (some ⟨tb, 0, none⟩)] 73)) (.cells #[.int .i64 t] 3)
  have B2 := B1.alloc (by simp) (.cells #[.int .i64 t] 3)
  have x3 := heap_alloc_new ((w.alloc (.cells #[.pointer (some ⟨tb, 0, none⟩)] 73)).alloc (.cells #[.int .i64 t] 3)) (.cells #[.int .i64 p] 3)
  have B3 := B2.alloc (by simp; omega) (.cells #[.int .i64 p] 3)
  have x1' := below_alloc_has (o := .cells #[.int .i64 p] 3) (below_alloc_has (o := .cells #[.int .i64 t] 3) x1)
  have x2' := below_alloc_has (o := .cells #[.int .i64 p] 3) x2
  go_wp2_with fail
  refine calls_world (fun W => W.heap[w.heap.size]? = some (.cells #[.pointer (some ⟨tb, 0, none⟩)] 73 (0, 0)) ∧ W.heap[w.heap.size + 1]? = some (.cells #[.int .i64 t] 3 (0, 0)) ∧ W.heap[w.heap.size + 1 + 1]? = some (.cells #[.int .i64 p] 3 (0, 0)) ∧ Below w.heap.size w W) ⟨x1', by simpa using x2', by simpa using x3, B3⟩ ?_
  clear x1 x2 x3 B1 B2 B3 x1' x2'
  rintro W ⟨x1, x2, x3, B⟩
  have TW := T.heap B.block
  refine (in_490 W tb rb q L t p _ _ _ _ TW.t T.len ht hp1 hp hin (move1_c W tb rb _ _ _ q L R st t p p0 TW ht hp1 hp hq1 hq hlt hpr hz hv hn hl h0 h1 x3 x1 x2)).mono ?_; rintro e w1 ⟨rfl, T1, u⟩
  have HT1 := Lib.hid T1
  have HU := Lib.hid u
  have HB := Lib.hid B
  clear x1 x2 x3 B u T1 TW T hin hz hv hn hl hpr
  go_wp2_with fail
  go_ret
  exact ⟨rfl, HT1.out, ⟨HU.out.os.trans HB.out.os, HU.out.tape.trans HB.out.tape, HU.out.output.trans HB.out.output, Nat.le_trans HB.out.size HU.out.size, fun i hi h1 h2 => (HU.out.block i (Nat.lt_of_lt_of_le hi HB.out.size) h1 h2).trans (HB.out.block i hi)⟩⟩
end Go.Proofs.YtagmlijhgncklaaGreatDoor
namespace Go.Proofs.YtagmlijhgncklaaGreatDoor
namespace Vq

def put {α : Type} (f : Nat → α) (i : Nat) (x : α) : Nat → α := fun j => if j = i then x else f j
theorem put_self {α : Type} (f : Nat → α) (i : Nat) (x : α) : put f i x i = x := by simp [put]
theorem put_ne {α : Type} (f : Nat → α) {i j : Nat} (x : α) (h : j ≠ i) : put f i x j = f j := by simp [put, h]

/-- The first one of a sequence, or nobody. -/
def hdI : List Nat → Int
  | [] => -1
  | t :: _ => t
/-- The last one of a sequence, or nobody. -/
def tlI : List Nat → Int
  | [] => -1
  | [t] => t
  | _ :: u :: l => tlI (u :: l)
theorem tlI_snoc (l : List Nat) (t : Nat) : tlI (l ++ [t]) = t := by
  induction l with
  | nil => rfl
  | cons x l ih =>
    cases l with
    | nil => rfl
    | cons y l => exact ih
theorem tlI_split : ∀ (l : List Nat), l ≠ [] → ∃ (l' : List Nat) (z : Nat), l = l' ++ [z] ∧ tlI l = z
  | [], h => absurd rfl h
  | [t], _ => ⟨[], t, rfl, rfl⟩
  | x :: y :: l, _ => by
    obtain ⟨l', z, e, h⟩ := tlI_split (y :: l) (by simp)
    exact ⟨x :: l', z, by rw [e]; rfl, h⟩
theorem hdI_snoc (l : List Nat) (t : Nat) (h : l ≠ []) : hdI (l ++ [t]) = hdI l := by
  cases l with
  | nil => exact absurd rfl h
  | cons x l => rfl
/-- The links of a sequence. -/
def Seg (nx pv : List Int) : Int → List Nat → Prop
  | _, [] => True
  | p, t :: l => pv.getD t 0 = p ∧ nx.getD t 0 = hdI l ∧ Seg nx pv t l
theorem Seg.congr {nx pv nx' pv' : List Int} : ∀ {l : List Nat} {p : Int}, Seg nx pv p l → (∀ t ∈ l, nx'.getD t 0 = nx.getD t 0 ∧ pv'.getD t 0 = pv.getD t 0) → Seg nx' pv' p l
  | [], _, _, _ => trivial
  | t :: l, p, ⟨h1, h2, h3⟩, k => ⟨(k t (by simp)).2.trans h1, (k t (by simp)).1.trans h2, h3.congr fun u hu => k u (by simp [hu])⟩
theorem getD_set (l : List Int) (i j : Nat) (x : Int) (hi : i < l.length) : (l.set i x).getD j 0 = if j = i then x else l.getD j 0 := by
  rw [List.getD_eq_getElem?_getD, List.getD_eq_getElem?_getD, List.getElem?_set]
  by_cases h : i = j
  · subst h
    rw [if_pos rfl, if_pos rfl, if_pos hi]
    rfl
  · rw [if_neg h, if_neg (Ne.symm h)]
/-- One more at the tail. -/
theorem Seg.snoc {nx pv nx' pv' : List Int} {t : Nat} : ∀ {l : List Nat} {p : Int}, Seg nx pv p l → l ≠ [] → l.Nodup → t ∉ l → (∀ u, u ≠ t → (u : Int) ≠ tlI l → nx'.getD u 0 = nx.getD u 0) → (∀ u, u ≠ t → pv'.getD u 0 = pv.getD u 0) → (∀ z : Nat, tlI l = z → nx'.getD z 0 = t) → nx'.getD t 0 = -1 → pv'.getD t 0 = tlI l → Seg nx' pv' p (l ++ [t])
  | [], _, _, h, _, _, _, _, _, _, _ => absurd rfl h
  | [z], p, ⟨h1, h2, h3⟩, _, _, ht, k1, k2, k3, k4, k5 => by
    have hz : z ≠ t := fun e => ht (by simp [e])
    exact ⟨(k2 z hz).trans h1, k3 z rfl, k5, k4, trivial⟩
  | x :: y :: l, p, ⟨h1, h2, h3⟩, _, hn, ht, k1, k2, k3, k4, k5 => by
    have hx : x ≠ t := fun e => ht (by simp [e])
    have hl : (x : Int) ≠ tlI (x :: y :: l) := by
      obtain ⟨l', z, e, hz⟩ := tlI_split (y :: l) (by simp)
      intro q
      have : tlI (x :: y :: l) = z := hz
      rw [this] at q
      have hzm : z ∈ y :: l := by rw [e]; simp
      have : x = z := by omega
      exact (List.nodup_cons.1 hn).1 (this ▸ hzm)
    refine ⟨(k2 x hx).trans h1, (k1 x hx hl).trans h2, ?_⟩
    exact Seg.snoc (l := y :: l) h3 (by simp) (List.nodup_cons.1 hn).2 (fun h => ht (by simp [h])) k1 k2 k3 k4 k5
/-- The sequences as they lie. -/
structure Rep (R : Rd) (q : Nat → List Nat) : Prop where
  ok : RdOk R
  hd : ∀ p, p < 32 → R.hd.getD p 0 = hdI (q p)
  tl : ∀ p, p < 32 → R.tl.getD p 0 = tlI (q p)
  sg : ∀ p, p < 32 → Seg R.nx R.pv (-1) (q p)
  pr : ∀ p, p < 32 → ∀ t ∈ q p, t < 16 ∧ R.pr.getD t 0 = p ∧ 1 ≤ p
  out : ∀ t, t < 16 → (∀ p, p < 32 → t ∉ q p) → R.pr.getD t 0 = 0
  nd : ∀ p, p < 32 → (q p).Nodup
  sm : ∀ p, p < 32 → R.sm.testBit p = !(q p).isEmpty
theorem Rep.one {R : Rd} {q : Nat → List Nat} (h : Rep R q) {t p p' : Nat} (hp : p < 32) (hp' : p' < 32) (h1 : t ∈ q p) (h2 : t ∈ q p') : p = p' := by
  have a := (h.pr p hp t h1).2.1
  have b := (h.pr p' hp' t h2).2.1
  omega
theorem Rep.new : Rep Rd.new fun _ => [] := by
  have e1 : ∀ p, p < 32 → Rd.new.hd.getD p 0 = -1 := by decide
  have e2 : ∀ p, p < 32 → Rd.new.tl.getD p 0 = -1 := by decide
  have e3 : ∀ t, t < 16 → Rd.new.pr.getD t 0 = 0 := by decide
  exact { ok := ⟨by decide, rfl, rfl, rfl, rfl, rfl⟩, hd := e1, tl := e2, sg := fun _ _ => trivial, pr := fun _ _ _ h => (by cases h), out := fun t ht _ => e3 t ht, nd := fun _ _ => List.nodup_nil, sm := fun _ _ => Nat.zero_testBit _ }
theorem Rep.congr {R : Rd} {q q' : Nat → List Nat} (h : Rep R q) (e : ∀ p, p < 32 → q' p = q p) : Rep R q' :=
  ⟨h.ok, fun p hp => by rw [e p hp]; exact h.hd p hp, fun p hp => by rw [e p hp]; exact h.tl p hp, fun p hp => by rw [e p hp]; exact h.sg p hp, fun p hp => by rw [e p hp]; exact h.pr p hp, fun t ht k => h.out t ht fun p hp => by rw [← e p hp]; exact k p hp, fun p hp => by rw [e p hp]; exact h.nd p hp, fun p hp => by rw [e p hp]; exact h.sm p hp⟩
theorem tlI_lt {R : Rd} {q : Nat → List Nat} (h : Rep R q) {p : Nat} (hp : p < 32) : tlI (q p) = -1 ∨ ∃ z : Nat, tlI (q p) = z ∧ z ∈ q p ∧ z < 16 := by
  by_cases e : q p = []
  · rw [e]; exact .inl rfl
  · obtain ⟨l', z, e1, e2⟩ := tlI_split (q p) e
    have hz : z ∈ q p := by rw [e1]; simp
    exact .inr ⟨z, e2, hz, (h.pr p hp z hz).1⟩
theorem hdI_lt {R : Rd} {q : Nat → List Nat} (h : Rep R q) {p : Nat} (hp : p < 32) : hdI (q p) = -1 ∨ ∃ z : Nat, hdI (q p) = z ∧ z ∈ q p ∧ z < 16 := by
  cases e : q p with
  | nil => exact .inl rfl
  | cons z l =>
    have hz : z ∈ q p := by rw [e]; simp
    exact .inr ⟨z, rfl, by simp, (h.pr p hp z hz).1⟩
theorem lk_tl {R : Rd} {q : Nat → List Nat} (h : Rep R q) {p : Nat} (hp : p < 32) : Lk (R.tl.getD p 0) := by
  rw [h.tl p hp]
  rcases tlI_lt h hp with e | ⟨z, e, _, hz⟩
  · exact .inl e
  · exact .inr ⟨z, e, hz⟩
theorem lk_hd {R : Rd} {q : Nat → List Nat} (h : Rep R q) {p : Nat} (hp : p < 32) : Lk (R.hd.getD p 0) := by
  rw [h.hd p hp]
  rcases hdI_lt h hp with e | ⟨z, e, _, hz⟩
  · exact .inl e
  · exact .inr ⟨z, e, hz⟩
theorem bit_or (a p j : Nat) : (a ||| (1 <<< p)).testBit j = (a.testBit j || decide (p = j)) := by
  rw [Nat.testBit_or, Nat.one_shiftLeft, Nat.testBit_two_pow]
theorem bit_mask : ∀ p, p < 32 → ∀ j, j < 32 → (4294967295 - (1 <<< p)).testBit j = decide (p ≠ j) := by decide +kernel
/-- Behind all of its priority. -/
theorem Rep.tail {R : Rd} {q : Nat → List Nat} (h : Rep R q) {p t : Nat} (hp1 : 1 ≤ p) (hp : p < 32) (ht : t < 16) (hout : ∀ p', p' < 32 → t ∉ q p') : Rep (R.tailF p t) (put q p (q p ++ [t])) := by
  have ok := h.ok
  have hht : R.tl.getD p 0 = tlI (q p) := h.tl p hp
  obtain ⟨R', hR'⟩ : ∃ R', R' = R.tailF p t := ⟨_, rfl⟩
  have okR := ok.tailF hp t
  rw [← hR'] at okR ⊢
  have f : R'.hd = (if q p = [] then R.hd.set p t else R.hd) ∧ R'.tl = R.tl.set p t ∧ R'.nx = (if q p = [] then R.nx else R.nx.set (tlI (q p)).toNat t).set t (-1) ∧ R'.pv = R.pv.set t (tlI (q p)) ∧ R'.pr = R.pr.set t p ∧ R'.sm = R.sm ||| (1 <<< p) := by
    have t1 : ((t : Nat) : Int) ≠ -1 := by omega
    rw [hR']
    unfold Rd.tailF Rd.putF
    rw [hht]
    by_cases e : q p = []
    · rw [e]
      simp [tlI, Rd.joinF, if_neg t1]
    · have hz : tlI (q p) ≠ -1 := by
        obtain ⟨l', z, _, e2⟩ := tlI_split (q p) e
        rw [e2]; omega
      simp [Rd.joinF, if_neg t1, if_neg hz, if_neg e]
  obtain ⟨f1, f2, f3, f4, f5, f6⟩ := f
  have ne : ∀ p', p' < 32 → ∀ u ∈ q p', u ≠ t := fun p' hp' u hu e => hout p' hp' (e ▸ hu)
  have zlen : q p ≠ [] → (tlI (q p)).toNat < R.nx.length := fun e => by
    rcases tlI_lt h hp with e' | ⟨z, e', _, hz⟩
    · obtain ⟨l', z, _, e2⟩ := tlI_split (q p) e
      exact absurd (e2.symm.trans e') (by omega)
    · rw [e', ok.nx]; simpa using hz
  have nxo : ∀ u : Nat, u ≠ t → (u : Int) ≠ tlI (q p) → R'.nx.getD u 0 = R.nx.getD u 0 := by
    intro u h1 h2
    rw [f3, getD_set _ _ _ _ (by split <;> simp [ok.nx, ht]), if_neg h1]
    split
    · rfl
    · rename_i e
      have h0 : 0 ≤ tlI (q p) := by
        obtain ⟨l', z, _, e2⟩ := tlI_split (q p) e
        rw [e2]; omega
      rw [getD_set _ _ _ _ (zlen e), if_neg (by omega)]
  have pvo : ∀ u : Nat, u ≠ t → R'.pv.getD u 0 = R.pv.getD u 0 := by
    intro u h1
    rw [f4, getD_set _ _ _ _ (by rw [ok.pv]; exact ht), if_neg h1]
  have prt : ∀ u, R'.pr.getD u 0 = if u = t then (p : Int) else R.pr.getD u 0 := by
    intro u
    rw [f5, getD_set _ _ _ _ (by rw [ok.pr]; exact ht)]
  refine ⟨okR, ?_, ?_, ?_, ?_, ?_, ?_, ?_⟩
  · intro p' hp'
    rw [f1]
    by_cases e : p' = p
    · subst e
      rw [put_self]
      split
      · rename_i e
        rw [getD_set _ _ _ _ (by rw [ok.hd]; exact hp'), if_pos rfl, e]
        rfl
      · rename_i e
        rw [h.hd p' hp', hdI_snoc _ _ e]
    · rw [put_ne _ _ e]
      split
      · rw [getD_set _ _ _ _ (by rw [ok.hd]; exact hp), if_neg e]
        exact h.hd p' hp'
      · exact h.hd p' hp'
  · intro p' hp'
    rw [f2, getD_set _ _ _ _ (by rw [ok.tl]; exact hp)]
    by_cases e : p' = p
    · subst e
      rw [if_pos rfl, put_self, tlI_snoc]
    · rw [if_neg e, put_ne _ _ e]
      exact h.tl p' hp'
  · intro p' hp'
    by_cases e : p' = p
    · subst e
      rw [put_self]
      by_cases e0 : q p' = []
      · rw [e0]
        refine ⟨?_, ?_, trivial⟩
        · rw [f4, getD_set _ _ _ _ (by rw [ok.pv]; exact ht), if_pos rfl, e0]
          rfl
        · rw [f3, getD_set _ _ _ _ (by split <;> simp [ok.nx, ht]), if_pos rfl]
          rfl
      · refine (h.sg p' hp').snoc e0 (h.nd p' hp') (hout p' hp') nxo pvo ?_ ?_ ?_
        · intro z hz
          obtain ⟨l', z', e1, e2⟩ := tlI_split (q p') e0
          have : z' = z := by omega
          subst this
          have hzm : z' ∈ q p' := by rw [e1]; simp
          rw [f3, getD_set _ _ _ _ (by split <;> simp [ok.nx, ht]), if_neg (ne p' hp' z' hzm), if_neg e0, getD_set _ _ _ _ (zlen e0), if_pos (by rw [hz]; simp)]
        · rw [f3, getD_set _ _ _ _ (by split <;> simp [ok.nx, ht]), if_pos rfl]
        · rw [f4, getD_set _ _ _ _ (by rw [ok.pv]; exact ht), if_pos rfl]
    · rw [put_ne _ _ e]
      refine (h.sg p' hp').congr fun u hu => ⟨nxo u (ne p' hp' u hu) ?_, pvo u (ne p' hp' u hu)⟩
      intro q1
      rcases tlI_lt h hp with e' | ⟨z, e', hz, _⟩
      · omega
      · have : u = z := by omega
        subst this
        exact e (h.one hp' hp hu hz)
  · intro p' hp' u hu
    rw [prt]
    by_cases e : p' = p
    · subst e
      rw [put_self] at hu
      rcases List.mem_append.1 hu with hu | hu
      · rw [if_neg (ne p' hp' u hu)]
        exact h.pr p' hp' u hu
      · obtain rfl : u = t := by simpa using hu
        exact ⟨ht, by rw [if_pos rfl], hp1⟩
    · rw [put_ne _ _ e] at hu
      rw [if_neg (ne p' hp' u hu)]
      exact h.pr p' hp' u hu
  · intro u hu k
    have hut : u ≠ t := by
      intro e
      have := k p hp
      rw [put_self] at this
      exact this (by simp [e])
    rw [prt, if_neg hut]
    refine h.out u hu fun p' hp' hm => ?_
    have := k p' hp'
    by_cases e : p' = p
    · subst e
      rw [put_self] at this
      exact this (by simp [hm])
    · rw [put_ne _ _ e] at this
      exact this hm
  · intro p' hp'
    by_cases e : p' = p
    · subst e
      rw [put_self]
      refine List.nodup_append.2 ⟨h.nd p' hp', by simp, ?_⟩
      intro a ha b hb
      obtain rfl : b = t := by simpa using hb
      exact ne p' hp' a ha
    · rw [put_ne _ _ e]
      exact h.nd p' hp'
  · intro p' hp'
    rw [f6, bit_or, h.sm p' hp']
    by_cases e : p' = p
    · subst e
      rw [put_self]
      simp
    · rw [put_ne _ _ e, decide_eq_false (Ne.symm e)]
      simp
/-- Ahead of all of its priority, where nobody is. -/
theorem Rep.head0 {R : Rd} {q : Nat → List Nat} (h : Rep R q) {p t : Nat} (hp1 : 1 ≤ p) (hp : p < 32) (ht : t < 16) (hout : ∀ p', p' < 32 → t ∉ q p') : Rep (R.headF p t) (put q p (t :: q p)) := by
  have ok := h.ok
  have hht : R.hd.getD p 0 = hdI (q p) := h.hd p hp
  obtain ⟨R', hR'⟩ : ∃ R', R' = R.headF p t := ⟨_, rfl⟩
  have okR := ok.headF hp t
  rw [← hR'] at okR ⊢
  have f : R'.hd = R.hd.set p t ∧ R'.tl = (if q p = [] then R.tl.set p t else R.tl) ∧ R'.nx = R.nx.set t (hdI (q p)) ∧ R'.pv = (if q p = [] then R.pv.set t (-1) else (R.pv.set t (-1)).set (hdI (q p)).toNat t) ∧ R'.pr = R.pr.set t p ∧ R'.sm = R.sm ||| (1 <<< p) := by
    have t1 : ((t : Nat) : Int) ≠ -1 := by omega
    rw [hR']
    unfold Rd.headF Rd.putF
    rw [hht]
    by_cases e : q p = []
    · rw [e]
      simp [hdI, Rd.joinF, if_neg t1]
    · have hz : hdI (q p) ≠ -1 := by
        cases e2 : q p with
        | nil => exact absurd e2 e
        | cons z l => show ((z : Nat) : Int) ≠ -1; omega
      simp [Rd.joinF, if_neg t1, if_neg hz, if_neg e]
  obtain ⟨f1, f2, f3, f4, f5, f6⟩ := f
  have ne : ∀ p', p' < 32 → ∀ u ∈ q p', u ≠ t := fun p' hp' u hu e => hout p' hp' (e ▸ hu)
  have zlen : q p ≠ [] → (hdI (q p)).toNat < (R.pv.set t (-1)).length := fun e => by
    rcases hdI_lt h hp with e' | ⟨z, e', _, hz⟩
    · cases e2 : q p with
      | nil => exact absurd e2 e
      | cons z l => rw [e2] at e'; have : ((z : Nat) : Int) = -1 := e'; omega
    · rw [e', List.length_set, ok.pv]; simpa using hz
  have nxo : ∀ u : Nat, u ≠ t → R'.nx.getD u 0 = R.nx.getD u 0 := by
    intro u h1
    rw [f3, getD_set _ _ _ _ (by rw [ok.nx]; exact ht), if_neg h1]
  have pvo : ∀ u : Nat, u ≠ t → (u : Int) ≠ hdI (q p) → R'.pv.getD u 0 = R.pv.getD u 0 := by
    intro u h1 h2
    rw [f4]
    split
    · rw [getD_set _ _ _ _ (by rw [ok.pv]; exact ht), if_neg h1]
    · rename_i e
      have h0 : 0 ≤ hdI (q p) := by
        cases e2 : q p with
        | nil => exact absurd e2 e
        | cons z l => show (0 : Int) ≤ ((z : Nat) : Int); omega
      rw [getD_set _ _ _ _ (zlen e), if_neg (by omega), getD_set _ _ _ _ (by rw [ok.pv]; exact ht), if_neg h1]
  have prt : ∀ u, R'.pr.getD u 0 = if u = t then (p : Int) else R.pr.getD u 0 := by
    intro u
    rw [f5, getD_set _ _ _ _ (by rw [ok.pr]; exact ht)]
  refine ⟨okR, ?_, ?_, ?_, ?_, ?_, ?_, ?_⟩
  · intro p' hp'
    rw [f1, getD_set _ _ _ _ (by rw [ok.hd]; exact hp)]
    by_cases e : p' = p
    · subst e
      rw [if_pos rfl, put_self]
      rfl
    · rw [if_neg e, put_ne _ _ e]
      exact h.hd p' hp'
  · intro p' hp'
    rw [f2]
    by_cases e : p' = p
    · subst e
      rw [put_self]
      split
      · rename_i e
        rw [getD_set _ _ _ _ (by rw [ok.tl]; exact hp'), if_pos rfl, e]
        rfl
      · rename_i e
        rw [h.tl p' hp']
        cases e2 : q p' with
        | nil => exact absurd e2 e
        | cons z l => rfl
    · rw [put_ne _ _ e]
      split
      · rw [getD_set _ _ _ _ (by rw [ok.tl]; exact hp), if_neg e]
        exact h.tl p' hp'
      · exact h.tl p' hp'
  · intro p' hp'
    by_cases e : p' = p
    · subst e
      rw [put_self]
      refine ⟨?_, ?_, ?_⟩
      · rw [f4]
        split
        · rw [getD_set _ _ _ _ (by rw [ok.pv]; exact ht), if_pos rfl]
        · rename_i e
          rw [getD_set _ _ _ _ (zlen e), if_neg ?_, getD_set _ _ _ _ (by rw [ok.pv]; exact ht), if_pos rfl]
          rcases hdI_lt h hp' with e' | ⟨z, e', hz, _⟩
          · cases e2 : q p' with
            | nil => exact absurd e2 e
            | cons z l => rw [e2] at e'; have : ((z : Nat) : Int) = -1 := e'; omega
          · rw [e']
            have := ne p' hp' z hz
            simp
            omega
      · rw [f3, getD_set _ _ _ _ (by rw [ok.nx]; exact ht), if_pos rfl]
      · have hs := h.sg p' hp'
        have hnd := h.nd p' hp'
        cases e2 : q p' with
        | nil => trivial
        | cons z l =>
          rw [e2] at hs hnd
          obtain ⟨h1, h2, h3⟩ := hs
          have hzt : z ≠ t := ne p' hp' z (by rw [e2]; simp)
          refine ⟨?_, (nxo z hzt).trans h2, ?_⟩
          · rw [f4, if_neg (by rw [e2]; simp), getD_set _ _ _ _ (zlen (by rw [e2]; simp)), if_pos (by rw [e2]; simp [hdI])]
          · refine h3.congr fun u hu => ⟨nxo u (ne p' hp' u (by rw [e2]; simp [hu])), pvo u (ne p' hp' u (by rw [e2]; simp [hu])) ?_⟩
            rw [e2]
            show (u : Int) ≠ (z : Int)
            intro q1
            have : u = z := by omega
            subst this
            exact (List.nodup_cons.1 hnd).1 hu
    · rw [put_ne _ _ e]
      refine (h.sg p' hp').congr fun u hu => ⟨nxo u (ne p' hp' u hu), pvo u (ne p' hp' u hu) ?_⟩
      intro q1
      rcases hdI_lt h hp with e' | ⟨z, e', hz, _⟩
      · omega
      · have : u = z := by omega
        subst this
        exact e (h.one hp' hp hu hz)
  · intro p' hp' u hu
    rw [prt]
    by_cases e : p' = p
    · subst e
      rw [put_self] at hu
      rcases List.mem_cons.1 hu with rfl | hu
      · exact ⟨ht, by rw [if_pos rfl], hp1⟩
      · rw [if_neg (ne p' hp' u hu)]
        exact h.pr p' hp' u hu
    · rw [put_ne _ _ e] at hu
      rw [if_neg (ne p' hp' u hu)]
      exact h.pr p' hp' u hu
  · intro u hu k
    have hut : u ≠ t := by
      intro e
      have := k p hp
      rw [put_self] at this
      exact this (by simp [e])
    rw [prt, if_neg hut]
    refine h.out u hu fun p' hp' hm => ?_
    have := k p' hp'
    by_cases e : p' = p
    · subst e
      rw [put_self] at this
      exact this (by simp [hm])
    · rw [put_ne _ _ e] at this
      exact this hm
  · intro p' hp'
    by_cases e : p' = p
    · subst e
      rw [put_self]
      exact List.nodup_cons.2 ⟨hout p' hp', h.nd p' hp'⟩
    · rw [put_ne _ _ e]
      exact h.nd p' hp'
  · intro p' hp'
    rw [f6, bit_or, h.sm p' hp']
    by_cases e : p' = p
    · subst e
      rw [put_self]
      simp
    · rw [put_ne _ _ e, decide_eq_false (Ne.symm e)]
      simp
/-- The first one of a sequence leaves. -/
theorem Rep.rem {R : Rd} {q : Nat → List Nat} (h : Rep R q) {p t : Nat} {l : List Nat} (hp : p < 32) (hq : q p = t :: l) : Rep (R.remF t) (put q p l) := by
  have ok := h.ok
  have ht := h.pr p hp t (by rw [hq]; simp)
  have hs := h.sg p hp
  have hnd := h.nd p hp
  rw [hq] at hs hnd
  obtain ⟨s1, s2, s3⟩ := hs
  have hnl := (List.nodup_cons.1 hnd).1
  obtain ⟨R', hR'⟩ : ∃ R', R' = R.remF t := ⟨_, rfl⟩
  have okR := ok.remF t
  rw [← hR'] at okR ⊢
  have hzl : ∀ z l', l = z :: l' → (hdI l).toNat < R.pv.length := by
    intro z l' e
    have := (h.pr p hp z (by rw [hq, e]; simp)).1
    rw [e, ok.pv]
    show ((z : Nat) : Int).toNat < 16
    omega
  have f : R'.hd = R.hd.set p (hdI l) ∧ R'.tl = (if l = [] then R.tl.set p (-1) else R.tl) ∧ R'.nx = R.nx ∧ R'.pv = (if l = [] then R.pv else R.pv.set (hdI l).toNat (-1)) ∧ R'.pr = R.pr.set t 0 ∧ R'.sm = (if l = [] then R.sm &&& (4294967295 - (1 <<< p)) else R.sm) := by
    rw [hR']
    unfold Rd.remF
    rw [ht.2.1, s1, s2]
    simp only [Int.toNat_natCast]
    cases l with
    | nil =>
      simp only [hdI, Rd.joinF, if_true]
      rw [if_pos (by rw [getD_set _ _ _ _ (by rw [ok.hd]; exact hp), if_pos rfl])]
      exact ⟨rfl, rfl, rfl, rfl, rfl, rfl⟩
    | cons z l =>
      have z1 : ((z : Nat) : Int) ≠ -1 := by omega
      simp only [hdI, Rd.joinF, if_true, if_neg z1]
      rw [if_neg (by rw [getD_set _ _ _ _ (by rw [ok.hd]; exact hp), if_pos rfl]; exact z1)]
      exact ⟨rfl, rfl, rfl, rfl, rfl, rfl⟩
  obtain ⟨f1, f2, f3, f4, f5, f6⟩ := f
  have pvo : ∀ u : Nat, (u : Int) ≠ hdI l → R'.pv.getD u 0 = R.pv.getD u 0 := by
    intro u h1
    rw [f4]
    cases e : l with
    | nil => rfl
    | cons z l' =>
      rw [if_neg (by simp), ← e, getD_set _ _ _ _ (hzl z l' e), if_neg]
      rw [e] at h1 ⊢
      have h1 : (u : Int) ≠ ((z : Nat) : Int) := h1
      show u ≠ ((z : Nat) : Int).toNat
      omega
  have prt : ∀ u, R'.pr.getD u 0 = if u = t then (0 : Int) else R.pr.getD u 0 := by
    intro u
    rw [f5, getD_set _ _ _ _ (by rw [ok.pr]; exact ht.1)]
  have ne : ∀ p', p' < 32 → p' ≠ p → ∀ u ∈ q p', u ≠ t := fun p' hp' e u hu q1 => e (h.one hp' hp (q1 ▸ hu) (by rw [hq]; simp))
  refine ⟨okR, ?_, ?_, ?_, ?_, ?_, ?_, ?_⟩
  · intro p' hp'
    rw [f1, getD_set _ _ _ _ (by rw [ok.hd]; exact hp)]
    by_cases e : p' = p
    · subst e
      rw [if_pos rfl, put_self]
    · rw [if_neg e, put_ne _ _ e]
      exact h.hd p' hp'
  · intro p' hp'
    rw [f2]
    by_cases e : p' = p
    · subst e
      rw [put_self]
      split
      · rename_i e
        rw [getD_set _ _ _ _ (by rw [ok.tl]; exact hp'), if_pos rfl, e]
        rfl
      · rename_i e
        rw [h.tl p' hp', hq]
        cases l with
        | nil => exact absurd rfl e
        | cons z l => rfl
    · rw [put_ne _ _ e]
      split
      · rw [getD_set _ _ _ _ (by rw [ok.tl]; exact hp), if_neg e]
        exact h.tl p' hp'
      · exact h.tl p' hp'
  · intro p' hp'
    by_cases e : p' = p
    · subst e
      rw [put_self]
      cases e2 : l with
      | nil => trivial
      | cons z l' =>
        rw [e2] at s3
        obtain ⟨h1, h2, h3⟩ := s3
        rw [e2] at hnd
        refine ⟨?_, by rw [f3]; exact h2, ?_⟩
        · rw [f4, if_neg (by rw [e2]; simp), getD_set _ _ _ _ (hzl z l' e2), if_pos (by rw [e2]; simp [hdI])]
        · refine h3.congr fun u hu => ⟨by rw [f3], pvo u ?_⟩
          rw [e2]
          show (u : Int) ≠ (z : Int)
          intro q1
          have : u = z := by omega
          subst this
          exact (List.nodup_cons.1 (List.nodup_cons.1 hnd).2).1 hu
    · rw [put_ne _ _ e]
      refine (h.sg p' hp').congr fun u hu => ⟨by rw [f3], pvo u ?_⟩
      cases e2 : l with
      | nil => show (u : Int) ≠ -1; omega
      | cons z l' =>
        show (u : Int) ≠ (z : Int)
        intro q1
        have : u = z := by omega
        subst this
        exact e (h.one hp' hp hu (by rw [hq, e2]; simp))
  · intro p' hp' u hu
    rw [prt]
    by_cases e : p' = p
    · subst e
      rw [put_self] at hu
      have hut : u ≠ t := fun q1 => hnl (q1 ▸ hu)
      rw [if_neg hut]
      exact h.pr p' hp' u (by rw [hq]; simp [hu])
    · rw [put_ne _ _ e] at hu
      rw [if_neg (ne p' hp' e u hu)]
      exact h.pr p' hp' u hu
  · intro u hu k
    rw [prt]
    by_cases hut : u = t
    · rw [if_pos hut]
    · rw [if_neg hut]
      refine h.out u hu fun p' hp' hm => ?_
      have := k p' hp'
      by_cases e : p' = p
      · subst e
        rw [put_self] at this
        rw [hq] at hm
        rcases List.mem_cons.1 hm with e1 | hm
        · exact hut e1
        · exact this hm
      · rw [put_ne _ _ e] at this
        exact this hm
  · intro p' hp'
    by_cases e : p' = p
    · subst e
      rw [put_self]
      exact (List.nodup_cons.1 hnd).2
    · rw [put_ne _ _ e]
      exact h.nd p' hp'
  · intro p' hp'
    rw [f6]
    by_cases e : p' = p
    · subst e
      rw [put_self]
      cases l with
      | nil =>
        rw [if_pos rfl, Nat.testBit_and, bit_mask p' hp' p' hp', decide_eq_false (by simp)]
        simp
      | cons z l =>
        rw [if_neg (by simp), h.sm p' hp', hq]
        rfl
    · rw [put_ne _ _ e, ← h.sm p' hp']
      split
      · rw [Nat.testBit_and, bit_mask p hp p' hp', decide_eq_true (Ne.symm e), Bool.and_true]
      · rfl
/-- What leaving asks for. -/
theorem Rep.leaves {R : Rd} {q : Nat → List Nat} (h : Rep R q) {p t : Nat} {l : List Nat} (hp : p < 32) (hq : q p = t :: l) : t < 16 ∧ 1 ≤ p ∧ R.pr.getD t 0 = p ∧ Lk (R.pv.getD t 0) ∧ Lk (R.nx.getD t 0) := by
  have ht := h.pr p hp t (by rw [hq]; simp)
  have hs := h.sg p hp
  rw [hq] at hs
  refine ⟨ht.1, ht.2.2, ht.2.1, .inl hs.1, ?_⟩
  rw [hs.2.1]
  cases e : l with
  | nil => exact .inl rfl
  | cons z l' => exact .inr ⟨z, rfl, (h.pr p hp z (by rw [hq, e]; simp)).1⟩
theorem bitLen_of {x p : Nat} (hp : p < 32) (h1 : x.testBit p = true) (h2 : x < 2 ^ (p + 1)) : Lib.bitLen x = p + 1 := by
  have hle : 2 ^ p ≤ x := Nat.ge_two_pow_of_testBit h1
  have hp32 : p + 1 ≤ 32 := hp
  have h3 : (2 : Nat) ^ (p + 1) ≤ 2 ^ 32 := Nat.pow_le_pow_right (by decide) hp32
  have h64 : x < 2 ^ 64 := Nat.lt_of_lt_of_le h2 (Nat.le_trans h3 (by decide))
  rw [Lib.bitLen_shift p x hle h64]
  have e : x / 2 ^ p = 1 := by
    have : x / 2 ^ p < 2 := by
      rw [Nat.div_lt_iff_lt_mul (Nat.two_pow_pos p)]
      rw [Nat.pow_succ] at h2
      omega
    have : 1 ≤ x / 2 ^ p := (Nat.le_div_iff_mul_le (Nat.two_pow_pos p)).2 (by omega)
    omega
  rw [e]
  rfl
/-- Whose turn it is. -/
theorem Rep.first {R : Rd} {q : Nat → List Nat} (h : Rep R q) {p t : Nat} {l : List Nat} (hp : p < 32) (hq : q p = t :: l) (hi : ∀ p', p < p' → p' < 32 → q p' = []) : R.firstF = t ∧ Lib.bitLen R.sm = p + 1 ∧ R.sm ≠ 0 := by
  have hb : R.sm.testBit p = true := by rw [h.sm p hp, hq]; rfl
  have hlt : R.sm < 2 ^ (p + 1) := by
    refine Nat.lt_pow_two_of_testBit _ fun j hj => ?_
    by_cases h32 : j < 32
    · rw [h.sm j h32, hi j (by omega) h32]
      rfl
    · exact Nat.testBit_lt_two_pow (Nat.lt_of_lt_of_le h.ok.sm (Nat.le_trans (by decide : 4294967296 ≤ 2 ^ 32) (Nat.pow_le_pow_right (by decide) (by omega))))
  have e := bitLen_of hp hb hlt
  refine ⟨?_, e, fun e0 => ?_⟩
  · unfold Rd.firstF
    rw [e, Nat.add_sub_cancel, h.hd p hp, hq]
    rfl
  · rw [e0, Nat.zero_testBit] at hb
    cases hb
/-- Nobody is ready. -/
theorem Rep.nobody {R : Rd} {q : Nat → List Nat} (h : Rep R q) (hq : ∀ p, p < 32 → q p = []) : R.sm = 0 := by
  refine Nat.eq_of_testBit_eq fun j => ?_
  rw [Nat.zero_testBit]
  by_cases h32 : j < 32
  · rw [h.sm j h32, hq j h32]
    rfl
  · exact Nat.testBit_lt_two_pow (Nat.lt_of_lt_of_le h.ok.sm (Nat.le_trans (by decide : 4294967296 ≤ 2 ^ 32) (Nat.pow_le_pow_right (by decide) (by omega))))
end Vq
end Go.Proofs.YtagmlijhgncklaaGreatDoor
namespace Go.Proofs.YtagmlijhgncklaaGreatDoor
namespace Vq

/-- The sequence of a priority. -/
def ofP (l : List (Nat × Nat)) (p : Nat) : List Nat := (l.filter fun x => x.2 == p).map (·.1)
theorem ofP_cons (x : Nat × Nat) (l : List (Nat × Nat)) (p : Nat) : ofP (x :: l) p = if x.2 = p then x.1 :: ofP l p else ofP l p := by
  unfold ofP
  by_cases h : x.2 = p
  · rw [if_pos h, List.filter_cons_of_pos (by simpa using h)]
    rfl
  · rw [if_neg h, List.filter_cons_of_neg (by simpa using h)]
theorem ofP_mem {l : List (Nat × Nat)} {p t : Nat} (h : t ∈ ofP l p) : (t, p) ∈ l := by
  unfold ofP at h
  obtain ⟨x, hx, rfl⟩ := List.mem_map.1 h
  obtain ⟨h1, h2⟩ := List.mem_filter.1 hx
  have : x.2 = p := by simpa using h2
  subst this
  exact h1
theorem mem_ofP {l : List (Nat × Nat)} {p t : Nat} (h : (t, p) ∈ l) : t ∈ ofP l p :=
  List.mem_map.2 ⟨(t, p), List.mem_filter.2 ⟨h, by simp⟩, rfl⟩
/-- By falling priorities. -/
def Falls : List (Nat × Nat) → Prop
  | [] => True
  | x :: l => (∀ y ∈ l, y.2 ≤ x.2) ∧ Falls l
theorem ofP_none {l : List (Nat × Nat)} {p : Nat} (h : ∀ y ∈ l, y.2 ≠ p) : ofP l p = [] := by
  cases e : ofP l p with
  | nil => rfl
  | cons t r => exact absurd rfl (h _ (ofP_mem (p := p) (t := t) (by rw [e]; simp)))
/-- Behind all of its priority. -/
def insQ : List (Nat × Nat) → Nat × Nat → List (Nat × Nat)
  | [], x => [x]
  | y :: l, x => if x.2 ≤ y.2 then y :: insQ l x else x :: y :: l
/-- Ahead of all of its priority. -/
def preQ : List (Nat × Nat) → Nat × Nat → List (Nat × Nat)
  | [], x => [x]
  | y :: l, x => if x.2 < y.2 then y :: preQ l x else x :: y :: l
theorem insQ_mem {l : List (Nat × Nat)} {x z : Nat × Nat} : z ∈ insQ l x ↔ z = x ∨ z ∈ l := by
  induction l with
  | nil => simp [insQ]
  | cons y l ih =>
    rw [insQ]
    split
    · rw [List.mem_cons, ih, List.mem_cons]
      constructor
      · rintro (h | h | h)
        · exact .inr (.inl h)
        · exact .inl h
        · exact .inr (.inr h)
      · rintro (h | h | h)
        · exact .inr (.inl h)
        · exact .inl h
        · exact .inr (.inr h)
    · rw [List.mem_cons]
theorem preQ_mem {l : List (Nat × Nat)} {x z : Nat × Nat} : z ∈ preQ l x ↔ z = x ∨ z ∈ l := by
  induction l with
  | nil => simp [preQ]
  | cons y l ih =>
    rw [preQ]
    split
    · rw [List.mem_cons, ih, List.mem_cons]
      constructor
      · rintro (h | h | h)
        · exact .inr (.inl h)
        · exact .inl h
        · exact .inr (.inr h)
      · rintro (h | h | h)
        · exact .inr (.inl h)
        · exact .inl h
        · exact .inr (.inr h)
    · rw [List.mem_cons]
theorem insQ_len (l : List (Nat × Nat)) (x : Nat × Nat) : (insQ l x).length = l.length + 1 := by
  induction l with
  | nil => rfl
  | cons y l ih =>
    rw [insQ]
    split
    · simp [ih]
    · rfl
theorem insQ_falls {l : List (Nat × Nat)} {x : Nat × Nat} (h : Falls l) : Falls (insQ l x) := by
  induction l with
  | nil => exact ⟨fun _ h => (by cases h), trivial⟩
  | cons y l ih =>
    rw [insQ]
    split
    · rename_i hle
      refine ⟨fun z hz => ?_, ih h.2⟩
      rcases insQ_mem.1 hz with rfl | hz
      · exact hle
      · exact h.1 z hz
    · rename_i hle
      refine ⟨fun z hz => ?_, h⟩
      rcases List.mem_cons.1 hz with rfl | hz
      · omega
      · have := h.1 z hz
        omega
theorem preQ_falls {l : List (Nat × Nat)} {x : Nat × Nat} (h : Falls l) : Falls (preQ l x) := by
  induction l with
  | nil => exact ⟨fun _ h => (by cases h), trivial⟩
  | cons y l ih =>
    rw [preQ]
    split
    · rename_i hle
      refine ⟨fun z hz => ?_, ih h.2⟩
      rcases preQ_mem.1 hz with rfl | hz
      · omega
      · exact h.1 z hz
    · rename_i hle
      refine ⟨fun z hz => ?_, h⟩
      rcases List.mem_cons.1 hz with rfl | hz
      · omega
      · have := h.1 z hz
        omega
theorem insQ_ofP {l : List (Nat × Nat)} {x : Nat × Nat} (h : Falls l) (p : Nat) : ofP (insQ l x) p = put (ofP l) x.2 (ofP l x.2 ++ [x.1]) p := by
  induction l with
  | nil =>
    rw [insQ, ofP_cons]
    by_cases e : x.2 = p
    · subst e
      rw [if_pos rfl, put_self]
      rfl
    · rw [if_neg e, put_ne _ _ (Ne.symm e)]
  | cons y l ih =>
    have ih := ih h.2
    rw [insQ]
    split
    · rw [ofP_cons, ih]
      by_cases e : p = x.2
      · subst e
        rw [put_self, put_self, ofP_cons]
        split
        · rfl
        · rfl
      · rw [put_ne _ _ e, put_ne _ _ e, ofP_cons]
    · rename_i hle
      rw [ofP_cons]
      by_cases e : x.2 = p
      · subst e
        rw [if_pos rfl, put_self, ofP_none]
        · rfl
        · intro z hz
          rcases List.mem_cons.1 hz with rfl | hz
          · omega
          · have := h.1 z hz
            omega
      · rw [if_neg e, put_ne _ _ (Ne.symm e)]
theorem preQ_ofP {l : List (Nat × Nat)} {x : Nat × Nat} (p : Nat) : ofP (preQ l x) p = put (ofP l) x.2 (x.1 :: ofP l x.2) p := by
  induction l with
  | nil =>
    rw [preQ, ofP_cons]
    by_cases e : x.2 = p
    · subst e
      rw [if_pos rfl, put_self]
    · rw [if_neg e, put_ne _ _ (Ne.symm e)]
  | cons y l ih =>
    rw [preQ]
    split
    · rename_i hlt
      rw [ofP_cons, ih]
      by_cases e : p = x.2
      · subst e
        rw [put_self, put_self, ofP_cons, if_neg (by omega), if_neg (by omega)]
      · rw [put_ne _ _ e, put_ne _ _ e, ofP_cons]
    · rw [ofP_cons]
      by_cases e : x.2 = p
      · subst e
        rw [if_pos rfl, put_self]
      · rw [if_neg e, put_ne _ _ (Ne.symm e)]
/-- Who is ready, in the order of turns: thread and priority. -/
structure RepL (R : Rd) (Q : List (Nat × Nat)) : Prop where
  r : Rep R (ofP Q)
  f : Falls Q
  b : ∀ x ∈ Q, 1 ≤ x.2 ∧ x.2 < 32
theorem RepL.new : RepL Rd.new [] := ⟨Rep.new.congr fun _ _ => rfl, trivial, fun _ h => (by cases h)⟩
theorem RepL.tail {R : Rd} {Q : List (Nat × Nat)} (h : RepL R Q) {t p : Nat} (hp1 : 1 ≤ p) (hp : p < 32) (ht : t < 16) (hout : ∀ x ∈ Q, x.1 ≠ t) : RepL (R.tailF p t) (insQ Q (t, p)) :=
  ⟨(h.r.tail hp1 hp ht fun p' _ hm => hout _ (ofP_mem hm) rfl).congr fun p' _ => insQ_ofP h.f p', insQ_falls h.f, fun x hx => by
    rcases insQ_mem.1 hx with rfl | hx
    · exact ⟨hp1, hp⟩
    · exact h.b x hx⟩
theorem RepL.head {R : Rd} {Q : List (Nat × Nat)} (h : RepL R Q) {t p : Nat} (hp1 : 1 ≤ p) (hp : p < 32) (ht : t < 16) (hout : ∀ x ∈ Q, x.1 ≠ t) : RepL (R.headF p t) (preQ Q (t, p)) :=
  ⟨(h.r.head0 hp1 hp ht fun p' _ hm => hout _ (ofP_mem hm) rfl).congr fun p' _ => preQ_ofP p', preQ_falls h.f, fun x hx => by
    rcases preQ_mem.1 hx with rfl | hx
    · exact ⟨hp1, hp⟩
    · exact h.b x hx⟩
theorem RepL.rem {R : Rd} {Q : List (Nat × Nat)} {t p : Nat} (h : RepL R ((t, p) :: Q)) : RepL (R.remF t) Q := by
  have hb := h.b (t, p) (by simp)
  have e : ofP ((t, p) :: Q) p = t :: ofP Q p := by rw [ofP_cons, if_pos rfl]
  refine ⟨(h.r.rem hb.2 e).congr fun p' _ => ?_, h.f.2, fun x hx => h.b x (by simp [hx])⟩
  by_cases e' : p' = p
  · subst e'
    rw [put_self]
  · rw [put_ne _ _ e', ofP_cons, if_neg (by show ¬ p = p'; omega)]
theorem RepL.leaves {R : Rd} {Q : List (Nat × Nat)} {t p : Nat} (h : RepL R ((t, p) :: Q)) : t < 16 ∧ 1 ≤ p ∧ R.pr.getD t 0 = p ∧ Lk (R.pv.getD t 0) ∧ Lk (R.nx.getD t 0) :=
  h.r.leaves (h.b (t, p) (by simp)).2 (show ofP ((t, p) :: Q) p = t :: ofP Q p by rw [ofP_cons, if_pos rfl])
theorem RepL.first {R : Rd} {Q : List (Nat × Nat)} {t p : Nat} (h : RepL R ((t, p) :: Q)) : R.firstF = t ∧ Lib.bitLen R.sm = p + 1 ∧ R.sm ≠ 0 := by
  refine h.r.first (h.b (t, p) (by simp)).2 (show ofP ((t, p) :: Q) p = t :: ofP Q p by rw [ofP_cons, if_pos rfl]) fun p' h1 _ => ofP_none fun y hy => ?_
  rcases List.mem_cons.1 hy with rfl | hy
  · show p ≠ p'; omega
  · have := h.f.1 y hy
    have : y.2 ≤ p := this
    omega
theorem RepL.nobody {R : Rd} (h : RepL R []) : R.sm = 0 := h.r.nobody fun _ _ => rfl
theorem RepL.lk_tl {R : Rd} {Q : List (Nat × Nat)} (h : RepL R Q) {p : Nat} (hp : p < 32) : Lk (R.tl.getD p 0) := Vq.lk_tl h.r hp
theorem RepL.lk_hd {R : Rd} {Q : List (Nat × Nat)} (h : RepL R Q) {p : Nat} (hp : p < 32) : Lk (R.hd.getD p 0) := Vq.lk_hd h.r hp
theorem RepL.out {R : Rd} {Q : List (Nat × Nat)} (h : RepL R Q) {t : Nat} (ht : t < 16) (hout : ∀ x ∈ Q, x.1 ≠ t) : R.pr.getD t 0 = 0 :=
  h.r.out t ht fun p _ hm => hout _ (ofP_mem hm) rfl
theorem RepL.lt {R : Rd} {Q : List (Nat × Nat)} (h : RepL R Q) {t p : Nat} (hm : (t, p) ∈ Q) : t < 16 := (h.r.pr p (h.b _ hm).2 t (mem_ofP hm)).1
end Vq
end Go.Proofs.YtagmlijhgncklaaGreatDoor
