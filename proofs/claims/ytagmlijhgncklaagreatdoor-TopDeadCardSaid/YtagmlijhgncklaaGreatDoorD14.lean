/-
  The first one, a new one, over the translation of this seat. Conditions: the blocks that are named hold what is said.
  What the functions of package turns compute, over the translation of this seat. Conditions: the blocks that are named hold what is said.
  The turns' functions that write, over the translation of this seat. Conditions: the blocks that are named hold what is said.
  Leaving, who runs, a tick, over the translation of this seat. Conditions: the blocks that are named hold what is said.
  A tick of the turns, over the translation of this seat. Conditions: the blocks that are named hold what is said.
-/
import Derived.Test.YtagmlijhgncklaaGreatDoorD13
import Derived.Deep.LoopGhost
set_option linter.unusedVariables false
namespace Go.Proofs.YtagmlijhgncklaaGreatDoor
open Go.RowKit

set_option maxRecDepth 100000 in
set_option maxHeartbeats 400000 in
theorem first_c (w : World) (b : Nat) (R : Rd) (st : Int) (h : w.heap[b]? = some (rdO R st)) (k : RdOk R) (hb1 : 1 ≤ Lib.bitLen R.sm) (hb2 : Lib.bitLen R.sm ≤ 32) (hs : R.sm ≠ 0) (h0 : 0 ≤ st) (h1 : st ≤ 800000000) :
    Calls Tryz.prog 92 #[.pointer (some ⟨b, 0, none⟩)] w fun e w' => e = .returned (.tuple #[.int .i64 R.firstF, .bool true]) ∧ Upd w b (rdO R (st + 1)) w' := by
  obtain ⟨n, hn⟩ : ∃ n, Lib.bitLen R.sm = n + 1 := ⟨Lib.bitLen R.sm - 1, by omega⟩
  have hsb : ((R.sm : Int) == 0) = false := by rw [beq_eq_false_iff_ne]; omega
  have hsm := k.sm
  have T := there_c w b R st h
  have c1 : w.cell? ⟨b, 1, none⟩ = some (.int .u32 R.sm) := has_cell 1 h rfl
  have c2 := has_cell _ h (by rw [List.getElem?_toArray]; exact rd_get_st k st)
  have fz := has_free h
  have H := Lib.hid h
  have HN := Lib.hid hn
  have ef : R.firstF = R.hd.getD n 0 := by unfold Rd.firstF; rw [hn]; rfl
  rw [ef]
  have hn32 : n < 32 := by omega
  have hni : (n : Int) < 32 := by omega
  clear h hn hs ef hb1 hb2
  go_enter Tryz.func92, Tryz.ntmps92
  go_upto_region 4 with (go_at_call 169; refine T.mono ?_; rintro e w' ⟨rfl, rfl⟩)
  refine upd_wp (((Upd.refl H.out).setCell 114 (.int .i64 (st + 1))).to (o' := rdO R (st + 1)) (by rw [rd_set_st k]; rfl)) ?_
  clear T c1 c2 fz
  intro W U
  have c1 : W.cell? ⟨b, 1, none⟩ = some (.int .u32 R.sm) := has_cell 1 U.1 rfl
  have c2 := has_cell _ U.1 (by rw [List.getElem?_toArray]; exact rd_get_hd k (st + 1) hn32)
  have HU := Lib.hid U
  clear U
  go_quiet ((go_at_call 170; exact Calls.quiet_of_same ((Tryz.bits_Len32 _ _ (by omega) (by omega)).mono (by rintro e w' ⟨rfl, rfl⟩; exact ⟨by rw [Int.toNat_natCast, HN.out], rfl⟩))))
  go_wp2_with fail
  go_ret2
  exact ⟨rfl, HU.out.drewN _⟩
/-- Nobody is ready. -/
theorem first_none (w : World) (b : Nat) (R : Rd) (st : Int) (h : w.heap[b]? = some (rdO R st)) (hs : R.sm = 0) :
    Calls Tryz.prog 92 #[.pointer (some ⟨b, 0, none⟩)] w fun e w' => e = .returned (.tuple #[.int .i64 0, .bool false]) ∧ w = w' := by
  have T := there_c w b R st h
  have c1 : w.cell? ⟨b, 1, none⟩ = some (.int .u32 R.sm) := has_cell 1 h rfl
  rw [hs] at c1
  clear h
  go_enter Tryz.func92, Tryz.ntmps92
  go_wp2_with (go_at_call 169; refine T.mono ?_; rintro e w' ⟨rfl, rfl⟩)
  go_ret2
  exact ⟨rfl, rfl⟩
def newK (k : Nat) : Rd := ⟨0, List.replicate k (-1) ++ List.replicate (32 - k) 0, List.replicate k (-1) ++ List.replicate (32 - k) 0, List.replicate 16 0, List.replicate 16 0, List.replicate 16 0⟩
theorem newK_ok {k : Nat} (h : k ≤ 32) : RdOk (newK k) := ⟨by simp [newK], by simp [newK]; omega, by simp [newK]; omega, by simp [newK], by simp [newK], by simp [newK]⟩
theorem rep_set {k : Nat} (h : k < 32) : (List.replicate k (-1 : Int) ++ List.replicate (32 - k) 0).set k (-1) = List.replicate (k + 1) (-1) ++ List.replicate (32 - (k + 1)) 0 := by
  rw [List.set_append_right _ _ (by simp), List.length_replicate, Nat.sub_self, show 32 - k = (32 - (k + 1)) + 1 by omega, List.replicate_succ, List.set_cons_zero, List.replicate_succ', List.append_assoc]
  rfl
theorem newK_succ {k : Nat} (h : k < 32) : ({ ({ newK k with hd := (newK k).hd.set k (-1) } : Rd) with tl := (newK k).tl.set k (-1) } : Rd) = newK (k + 1) := by
  simp only [newK, rep_set h]
set_option maxHeartbeats 400000 in
theorem ready_new (w : World) : Calls Tryz.prog 60 #[] w fun e w' => e = .returned (.pointer (some ⟨w.heap.size, 0, none⟩)) ∧ w'.heap[w.heap.size]? = some (rdO Rd.new 0) ∧ Below w.heap.size w w' ∧ w.heap.size < w'.heap.size := by
  go_enter Tryz.func60, Tryz.ntmps60
  go_upto_region 2 with fail
  refine world_wp (fun W => W.heap[w.heap.size]? = some (rdO (newK 0) 0) ∧ Below w.heap.size w W ∧ w.heap.size < W.heap.size) ⟨heap_alloc_new w _, (Below.refl _ _).alloc (Nat.le_refl _) _, by simp⟩ ?_
  intro W S
  go_wp2_with fail
  go_loopw [5] (fun i wr => ∃ k : Nat, i = .int .i64 k ∧ k ≤ 32 ∧ wr.heap[w.heap.size]? = some (rdO (newK k) 0) ∧ Below w.heap.size w wr ∧ w.heap.size < wr.heap.size) (fun i _ => 32 - (intOf i).toNat)
  case atStart => exact ⟨0, rfl, by omega, S.1, S.2.1, S.2.2⟩
  case round =>
    clear S
    obtain ⟨k, rfl, hk, hc, hb, hz⟩ := hrel
    by_cases hlt : k < 32
    · have hki : (k : Int) < 32 := by omega
      have o := newK_ok hk
      have c1 := has_cell _ hc (by rw [List.getElem?_toArray]; exact rd_get_hd o 0 hlt)
      have c2 := has_cell _ hc (by rw [List.getElem?_toArray]; exact rd_get_tl o 0 hlt)
      have fz := has_free hc
      have HC := Lib.hid hc
      have HB := Lib.hid hb
      have HZ := Lib.hid hz
      clear hc hb hz
      go_wp2_with fail
      go_region
      go_wp2_with fail
      have u := ((((Upd.refl HC.out).setCell (2 + k) (.int .i64 (-1))).setCell (34 + k) (.int .i64 (-1))).drew).to (o' := rdO (newK (k + 1)) 0) (by rw [rd_set_hd o 0 hlt, rd_set_tl (o.set_hd _ _) 0 hlt, newK_succ hlt]; rfl)
      exact ⟨⟨k + 1, by go_num, by omega, u.1, HB.out.trans (u.below (Nat.le_refl _) (Nat.le_of_lt HZ.out)), Nat.lt_of_lt_of_le HZ.out u.size⟩, by simp [intOf]; omega⟩
    · obtain rfl : k = 32 := by omega
      go_wp2_with fail
      go_ret
      exact ⟨rfl, hc, hb, hz⟩
end Go.Proofs.YtagmlijhgncklaaGreatDoor
namespace Go.Proofs.YtagmlijhgncklaaGreatDoor
open Go.RowKit

/-- What a thread has: is it in a sequence, a robin; its priority; what is left. -/
structure Hs where
  isIn : Bool
  rob : Bool
  pr : Int
  lf : Int
deriving DecidableEq
def Hs.no : Hs := ⟨false, false, 0, 0⟩
def hsC (h : Hs) : List Value := [.bool h.isIn, .bool h.rob, .int .i64 h.pr, .int .i64 h.lf]
def hssC (L : List Hs) : List Value := L.flatMap hsC
def tnC (rb : Nat) (q : Int) (L : List Hs) : List Value := .pointer (some ⟨rb, 0, none⟩) :: .int .i64 q :: hssC L
def tnO (rb : Nat) (q : Int) (L : List Hs) : Obj := .cells (tnC rb q L).toArray 164 (0, 0)
theorem hssC_get : ∀ (L : List Hs) (i : Nat), i < L.length → (hssC L)[i * 4]? = some (.bool (L.getD i Hs.no).isIn) ∧ (hssC L)[i * 4 + 1]? = some (.bool (L.getD i Hs.no).rob) ∧ (hssC L)[i * 4 + 2]? = some (.int .i64 (L.getD i Hs.no).pr) ∧ (hssC L)[i * 4 + 3]? = some (.int .i64 (L.getD i Hs.no).lf)
  | p :: L, 0, _ => by simp [hssC, hsC]
  | p :: L, i + 1, h => by
    have := hssC_get L i (by simpa using h)
    have e : hssC (p :: L) = .bool p.isIn :: .bool p.rob :: .int .i64 p.pr :: .int .i64 p.lf :: hssC L := rfl
    rw [e, show (i + 1) * 4 = i * 4 + 1 + 1 + 1 + 1 by omega]
    simpa using this
theorem hssC_set : ∀ (L : List Hs) (i : Nat) (p : Hs), i < L.length → hssC (L.set i p) = ((((hssC L).set (i * 4) (.bool p.isIn)).set (i * 4 + 1) (.bool p.rob)).set (i * 4 + 2) (.int .i64 p.pr)).set (i * 4 + 3) (.int .i64 p.lf)
  | q :: L, 0, p, _ => by simp [hssC, hsC]
  | q :: L, i + 1, p, h => by
    have e : ∀ (q : Hs) (M : List Hs), hssC (q :: M) = .bool q.isIn :: .bool q.rob :: .int .i64 q.pr :: .int .i64 q.lf :: hssC M := fun _ _ => rfl
    rw [List.set_cons_succ, e, e, hssC_set L i p (by simpa using h), show (i + 1) * 4 = i * 4 + 1 + 1 + 1 + 1 by omega]
    rfl
theorem tn_cells {w : World} {tb rb : Nat} {q : Int} {L : List Hs} (h : w.heap[tb]? = some (tnO rb q L)) (i : Nat) (hi : i < L.length) :
    w.cell? ⟨tb, 2 + i * 4, none⟩ = some (.bool (L.getD i Hs.no).isIn) ∧ w.cell? ⟨tb, 2 + i * 4 + 1, none⟩ = some (.bool (L.getD i Hs.no).rob) ∧ w.cell? ⟨tb, 2 + i * 4 + 2, none⟩ = some (.int .i64 (L.getD i Hs.no).pr) ∧ w.cell? ⟨tb, 2 + i * 4 + 3, none⟩ = some (.int .i64 (L.getD i Hs.no).lf) := by
  obtain ⟨g1, g2, g3, g4⟩ := hssC_get L i hi
  refine ⟨has_cell _ h ?_, has_cell _ h ?_, has_cell _ h ?_, has_cell _ h ?_⟩
  · rw [List.getElem?_toArray, show 2 + i * 4 = i * 4 + 1 + 1 by omega]; exact g1
  · rw [List.getElem?_toArray, show 2 + i * 4 + 1 = i * 4 + 1 + 1 + 1 by omega]; exact g2
  · rw [List.getElem?_toArray, show 2 + i * 4 + 2 = i * 4 + 2 + 1 + 1 by omega]; exact g3
  · rw [List.getElem?_toArray, show 2 + i * 4 + 3 = i * 4 + 3 + 1 + 1 by omega]; exact g4
/-- The four cells of a thread, stored. -/
theorem tn_set {rb : Nat} {q : Int} {L : List Hs} {i : Nat} (p : Hs) (h : i < L.length) :
    ((((tnC rb q L).toArray.setIfInBounds (2 + i * 4) (.bool p.isIn)).setIfInBounds (2 + i * 4 + 1) (.bool p.rob)).setIfInBounds (2 + i * 4 + 2) (.int .i64 p.pr)).setIfInBounds (2 + i * 4 + 3) (.int .i64 p.lf) = (tnC rb q (L.set i p)).toArray := by
  simp only [List.setIfInBounds_toArray, tnC]
  rw [show 2 + i * 4 = i * 4 + 1 + 1 by omega, show i * 4 + 1 + 1 + 1 = i * 4 + 1 + 1 + 1 by rfl, show i * 4 + 1 + 1 + 2 = i * 4 + 2 + 1 + 1 by omega, show i * 4 + 1 + 1 + 3 = i * 4 + 3 + 1 + 1 by omega]
  simp only [List.set_cons_succ]
  rw [hssC_set _ _ _ h]
/-- The turns and their sequences, as they lie. -/
structure Tn (w : World) (tb rb : Nat) (q : Int) (L : List Hs) (R : Rd) (st : Int) : Prop where
  t : w.heap[tb]? = some (tnO rb q L)
  r : w.heap[rb]? = some (rdO R st)
  ne : tb ≠ rb
  len : L.length = 16
  ok : RdOk R

set_option maxRecDepth 100000 in
theorem is_c (w : World) (tb rb : Nat) (q : Int) (L : List Hs) (h : w.heap[tb]? = some (tnO rb q L)) : Calls Tryz.prog 91 #[.pointer (some ⟨tb, 0, none⟩)] w fun e w' => e = .returned (.bool true) ∧ w = w' := by
  have c : w.cell? ⟨tb, 0, none⟩ = some (.pointer (some ⟨rb, 0, none⟩)) := has_cell 0 h rfl
  clear h
  go_enter Tryz.func91, Tryz.ntmps91
  go_wp2
  go_ret
  exact ⟨rfl, rfl⟩
set_option maxRecDepth 100000 in
theorem thread2_c (w : World) (t : Int) (h0 : 0 ≤ t) (h1 : t < 16) : Calls Tryz.prog 180 #[.int .i64 t] w fun e w' => e = .returned (.bool true) ∧ w = w' := by
  go_enter Tryz.func180, Tryz.ntmps180
  go_wp2
  go_ret
  exact ⟨rfl, rfl⟩
set_option maxRecDepth 100000 in
theorem prio_c (w : World) (t : Int) (h0 : 1 ≤ t) (h1 : t < 32) : Calls Tryz.prog 181 #[.int .i64 t] w fun e w' => e = .returned (.bool true) ∧ w = w' := by
  have h2 : t ≤ 31 := by omega
  go_enter Tryz.func181, Tryz.ntmps181
  go_wp2
  go_ret
  exact ⟨rfl, rfl⟩
set_option maxRecDepth 100000 in
theorem turns_new (w : World) (q : Int) (h0 : 1 ≤ q) (h1 : q ≤ 100) : Calls Tryz.prog 24 #[.int .i64 q] w fun e w' => ∃ tb rb, e = .returned (.tuple #[.pointer (some ⟨tb, 0, none⟩), .int .i64 0]) ∧ Tn w' tb rb q (List.replicate 16 Hs.no) Rd.new 0 ∧ Below w.heap.size w w' ∧ w.heap.size ≤ rb ∧ w.heap.size ≤ tb ∧ tb < w'.heap.size ∧ rb < w'.heap.size := by
  go_enter Tryz.func24, Tryz.ntmps24
  go_wp2_with fail
  refine (ready_new w).mono ?_; rintro e w1 ⟨rfl, hr, hb, hz⟩
  have HR := Lib.hid hr
  have HB := Lib.hid hb
  have HZ := Lib.hid hz
  clear hr hb hz
  go_wp2_with fail
  go_ret2
  exact ⟨_, _, rfl, ⟨heap_alloc_new w1 _, below_alloc_has HR.out, Nat.ne_of_gt HZ.out, rfl, newK_ok (Nat.le_refl 32)⟩, HB.out.alloc HB.out.size _, Nat.le_refl _, HB.out.size, by simp, by have := HZ.out; simp; omega⟩
end Go.Proofs.YtagmlijhgncklaaGreatDoor
namespace Go.Proofs.YtagmlijhgncklaaGreatDoor
open Go.RowKit

theorem RdOk.putF {R : Rd} (k : RdOk R) {p : Nat} (hp : p < 32) (t : Nat) (a b : Int) : RdOk (R.putF p t a b) := (((k.set_pr t p).set_sm (or_lt k.sm hp)).joinF _ _ _).joinF _ _ _
theorem RdOk.tailF {R : Rd} (k : RdOk R) {p : Nat} (hp : p < 32) (t : Nat) : RdOk (R.tailF p t) := k.putF hp _ _ _
theorem RdOk.headF {R : Rd} (k : RdOk R) {p : Nat} (hp : p < 32) (t : Nat) : RdOk (R.headF p t) := k.putF hp _ _ _
theorem RdOk.remF {R : Rd} (k : RdOk R) (t : Nat) : RdOk (R.remF t) := by
  unfold Rd.remF
  dsimp only
  have k1 := (k.joinF (R.pr.getD t 0).toNat (R.pv.getD t 0) (R.nx.getD t 0)).set_pr t 0
  split
  · exact k1.set_sm (and_lt k1.sm)
  · exact k1
theorem Tn.heap {w w' : World} {tb rb : Nat} {q : Int} {L : List Hs} {R : Rd} {st : Int} (T : Tn w tb rb q L R st) (h : ∀ k, k < w.heap.size → w'.heap[k]? = w.heap[k]?) : Tn w' tb rb q L R st :=
  ⟨(h tb (has_lt T.t)).trans T.t, (h rb (has_lt T.r)).trans T.r, T.ne, T.len, T.ok⟩

set_option maxRecDepth 100000 in
set_option maxHeartbeats 400000 in
theorem turns_add (w : World) (tb rb : Nat) (q : Int) (L : List Hs) (R : Rd) (st : Int) (t p : Nat) (rob : Bool) (T : Tn w tb rb q L R st) (ht : t < 16) (hp1 : 1 ≤ p) (hp : p < 32) (hin : (L.getD t Hs.no).isIn = false) (hz : R.pr.getD t 0 = 0) (hl : Lk (R.tl.getD p 0)) (h0 : 0 ≤ st) (h1 : st ≤ 800000000) :
    Calls Tryz.prog 110 #[.pointer (some ⟨tb, 0, none⟩), .int .i64 t, .int .i64 p, .bool rob] w fun e w' => e = .returned (.int .i64 0) ∧ Tn w' tb rb q (L.set t ⟨true, rob, p, q⟩) (R.tailF p t) (st + 4) ∧ Upd2 w tb rb w' := by
  have hpi : (p : Int) < 32 := by omega
  have hp1i : 1 ≤ (p : Int) := by omega
  have hti : (t : Int) < 16 := by omega
  have htl : t < L.length := by rw [T.len]; exact ht
  have c0 : w.cell? ⟨tb, 0, none⟩ = some (.pointer (some ⟨rb, 0, none⟩)) := has_cell 0 T.t rfl
  have c2 := (tn_cells T.t t htl).1
  rw [hin] at c2
  have I := is_c w tb rb q L T.t
  have A := tailF_c w rb p t R st T.r T.ok hp1 hp ht hz hl h0 h1
  have HT := Lib.hid T
  have HI := Lib.hid hin
  clear T hin hz hl
  go_enter Tryz.func110, Tryz.ntmps110
  go_wp2_with (first | (go_at_call 91; refine I.mono ?_; rintro e w' ⟨rfl, rfl⟩) | (go_at_call 180; refine (thread2_c _ _ (by omega) (by omega)).mono ?_; rintro e w' ⟨rfl, rfl⟩) | (go_at_call 181; refine (prio_c _ _ (by omega) (by omega)).mono ?_; rintro e w' ⟨rfl, rfl⟩) | (go_at_call 182; refine A.mono ?_; rintro e w1 ⟨rfl, u⟩))
  clear I A c0 c2
  have t1 := u.other HT.out.t HT.out.ne
  have c1 : w1.cell? ⟨tb, 1, none⟩ = some (.int .i64 q) := has_cell 1 t1 rfl
  obtain ⟨d0, d1, d2, d3⟩ := tn_cells t1 t htl
  have fz := has_free t1
  have HU := Lib.hid u
  have HT1 := Lib.hid t1
  clear u t1
  go_region
  go_wp2_with fail
  go_ret
  have v := (((((Upd.refl HT1.out).setCell (2 + t * 4) (.bool true)).setCell (2 + t * 4 + 1) (.bool rob)).setCell (2 + t * 4 + 2) (.int .i64 p)).setCell (2 + t * 4 + 3) (.int .i64 q)).drew.to (o' := tnO rb q (L.set t ⟨true, rob, p, q⟩)) (by have := tn_set (rb := rb) (q := q) (L := L) ⟨true, rob, p, q⟩ htl; dsimp only at this; rw [this]; rfl)
  exact ⟨rfl, ⟨v.1, v.other HU.out.1 (Ne.symm HT.out.ne), HT.out.ne, by simp [HT.out.len], HT.out.ok.tailF hp t⟩, ((Upd2.refl w tb rb).right HU.out).left v⟩

set_option maxRecDepth 100000 in
theorem in_484 (w : World) (tb rb : Nat) (q : Int) (L : List Hs) (t p x y : Nat) (Q : World → Prop) (T : w.heap[tb]? = some (tnO rb q L)) (hlen : L.length = 16) (ht : t < 16) (hp1 : 1 ≤ p) (hp : p < 32) (hin : (L.getD t Hs.no).isIn = true)
    (hF : Calls Tryz.prog 484 #[.pointer (some ⟨tb, 2 + t * 4, none⟩), .pointer (some ⟨x, 0, none⟩), .pointer (some ⟨y, 0, none⟩)] w fun e w' => e = .returned (.tuple #[]) ∧ Q w') :
    Calls Tryz.prog 187 #[.pointer (some ⟨tb, 0, none⟩), .int .i64 t, .int .i64 p, .func (.func 484) #[] #[.pointer (some ⟨x, 0, none⟩), .pointer (some ⟨y, 0, none⟩)]] w fun e w' => e = .returned (.int .i64 0) ∧ Q w' := by
  have hpi : (p : Int) < 32 := by omega
  have hp1i : 1 ≤ (p : Int) := by omega
  have hti : (t : Int) < 16 := by omega
  have htl : t < L.length := by rw [hlen]; exact ht
  have c2 := (tn_cells T t htl).1
  rw [hin] at c2
  have I := is_c w tb rb q L T
  clear T hin
  go_enter Tryz.func187, Tryz.ntmps187
  go_wp2_with (first | (go_at_call 91; refine I.mono ?_; rintro e w' ⟨rfl, rfl⟩) | (go_at_call 180; refine (thread2_c _ _ (by omega) (by omega)).mono ?_; rintro e w' ⟨rfl, rfl⟩) | (go_at_call 181; refine (prio_c _ _ (by omega) (by omega)).mono ?_; rintro e w' ⟨rfl, rfl⟩) | (go_at_call 484; refine hF.mono ?_; rintro e w1 ⟨rfl, hq⟩))
  have HQ := Lib.hid hq
  clear hq hF I
  go_ret
  exact ⟨rfl, HQ.out⟩

end Go.Proofs.YtagmlijhgncklaaGreatDoor
namespace Go.Proofs.YtagmlijhgncklaaGreatDoor
open Go.RowKit

set_option maxRecDepth 100000 in
set_option maxHeartbeats 400000 in
theorem leave1_c (w : World) (tb rb x y : Nat) (q : Int) (L : List Hs) (R : Rd) (st : Int) (t p0 : Nat) (T : Tn w tb rb q L R st) (ht : t < 16) (hq1 : 1 ≤ p0) (hq : p0 < 32) (hz : R.pr.getD t 0 = p0) (hv : Lk (R.pv.getD t 0)) (hn : Lk (R.nx.getD t 0)) (h0 : 0 ≤ st) (h1 : st ≤ 700000000)
    (hx : w.heap[x]? = some (.cells #[.pointer (some ⟨tb, 0, none⟩)] 73 (0, 0))) (hy : w.heap[y]? = some (.cells #[.int .i64 t] 3 (0, 0))) :
    Calls Tryz.prog 484 #[.pointer (some ⟨tb, 2 + t * 4, none⟩), .pointer (some ⟨x, 0, none⟩), .pointer (some ⟨y, 0, none⟩)] w fun e w' => e = .returned (.tuple #[]) ∧ (Tn w' tb rb q (L.set t Hs.no) (R.remF t) (st + 2) ∧ Upd2 w tb rb w') := by
  have hti : (t : Int) < 16 := by omega
  have htl : t < L.length := by rw [T.len]; exact ht
  have c0 : w.cell? ⟨tb, 0, none⟩ = some (.pointer (some ⟨rb, 0, none⟩)) := has_cell 0 T.t rfl
  have cx := has_cell 0 hx rfl
  have cy := has_cell 0 hy rfl
  have A := remove_c w.drew rb p0 t R st T.r T.ok hq1 hq ht hz hv hn h0 (by omega)
  have HT := Lib.hid T
  clear T hz hv hn hx hy
  go_enter Tryz.func484, Tryz.ntmps484
  go_wp2_with fail
  refine still_tail 5 (by kernel_rfl) (by kernel_rfl) ?_
  simp only [List.take_succ_cons, List.take_zero, List.drop_succ_cons, List.drop_zero]
  repeat still_step
  refine wpStill_nil ?_
  go_wp2_with fail
  refine A.mono ?_; rintro e w1 ⟨rfl, u0⟩
  have u := u0.drew0
  clear A c0 cx cy u0
  have t1 := u.other HT.out.t HT.out.ne
  obtain ⟨d0, d1, d2, d3⟩ := tn_cells t1 t htl
  have fz := has_free t1
  have HU := Lib.hid u
  have HT1 := Lib.hid t1
  clear u t1
  go_wp2_with fail
  go_end0
  have v := (((((Upd.refl HT1.out).setCell (2 + t * 4) (.bool false)).setCell (2 + t * 4 + 1) (.bool false)).setCell (2 + t * 4 + 2) (.int .i64 0)).setCell (2 + t * 4 + 3) (.int .i64 0)).to (o' := tnO rb q (L.set t Hs.no)) (by have := tn_set (rb := rb) (q := q) (L := L) Hs.no htl; simp only [Hs.no] at this ⊢; rw [this]; rfl)
  exact ⟨rfl, ⟨v.1, v.other HU.out.1 (Ne.symm HT.out.ne), HT.out.ne, by simp [HT.out.len], HT.out.ok.remF t⟩, ((Upd2.refl w tb rb).right HU.out).left v⟩
set_option maxRecDepth 100000 in
theorem turns_leave (w : World) (tb rb : Nat) (q : Int) (L : List Hs) (R : Rd) (st : Int) (t p0 : Nat) (T : Tn w tb rb q L R st) (ht : t < 16) (hin : (L.getD t Hs.no).isIn = true) (hq1 : 1 ≤ p0) (hq : p0 < 32) (hz : R.pr.getD t 0 = p0) (hv : Lk (R.pv.getD t 0)) (hn : Lk (R.nx.getD t 0)) (h0 : 0 ≤ st) (h1 : st ≤ 700000000) :
    Calls Tryz.prog 340 #[.pointer (some ⟨tb, 0, none⟩), .int .i64 t] w fun e w' => e = .returned (.int .i64 0) ∧ (Tn w' tb rb q (L.set t Hs.no) (R.remF t) (st + 2) ∧ Upd2 w tb rb w') := by
  go_enter Tryz.func340, Tryz.ntmps340
  have x1 := heap_alloc_new w (.cells #[.pointer (some ⟨tb, 0, none⟩)] 73)
  have B1 := (Below.refl w.heap.size w).alloc (Nat.le_refl _) (.cells #[.pointer (some ⟨tb, 0, none⟩)] 73)
  have B2 := B1.alloc (by simp) (.cells #[.int .i64 t] 3)
  have x2 := heap_alloc_new (w.alloc (.cells #[.pointer (some ⟨tb, 0, none⟩)] 73)) (.cells #[.int .i64 t] 3)
  have x1' := below_alloc_has (o := .cells #[.int .i64 t] 3) x1
  go_wp2_with fail
  refine calls_world (fun W => W.heap[w.heap.size]? = some (.cells #[.pointer (some ⟨tb, 0, none⟩)] 73 (0, 0)) ∧ W.heap[w.heap.size + 1]? = some (.cells #[.int .i64 t] 3 (0, 0)) ∧ Below w.heap.size w W) ⟨x1', by simpa using x2, B2⟩ ?_
  clear x1 x2 B1 B2 x1'
  rintro W ⟨x1, x2, B⟩
  have TW := T.heap B.block
  refine (in_484 W tb rb q L t 1 _ _ _ TW.t T.len ht (by omega) (by omega) hin (leave1_c W tb rb _ _ q L R st t p0 TW ht hq1 hq hz hv hn h0 h1 x1 x2)).mono ?_; rintro e w1 ⟨rfl, T1, u⟩
  have HT1 := Lib.hid T1
  have HU := Lib.hid u
  have HB := Lib.hid B
  clear x1 x2 B u T1 TW T hin hz hv hn
  go_wp2_with fail
  go_ret
  exact ⟨rfl, HT1.out, ⟨HU.out.os.trans HB.out.os, HU.out.tape.trans HB.out.tape, HU.out.output.trans HB.out.output, Nat.le_trans HB.out.size HU.out.size, fun i hi h1 h2 => (HU.out.block i (Nat.lt_of_lt_of_le hi HB.out.size) h1 h2).trans (HB.out.block i hi)⟩⟩
set_option maxRecDepth 100000 in
theorem turns_runs (w : World) (tb rb : Nat) (q : Int) (L : List Hs) (R : Rd) (st : Int) (T : Tn w tb rb q L R st) (hb1 : 1 ≤ Lib.bitLen R.sm) (hb2 : Lib.bitLen R.sm ≤ 32) (hs : R.sm ≠ 0) (h0 : 0 ≤ st) (h1 : st ≤ 800000000) :
    Calls Tryz.prog 48 #[.pointer (some ⟨tb, 0, none⟩)] w fun e w' => e = .returned (.tuple #[.int .i64 R.firstF, .bool true]) ∧ Tn w' tb rb q L R (st + 1) ∧ Upd w rb (rdO R (st + 1)) w' := by
  have c0 : w.cell? ⟨tb, 0, none⟩ = some (.pointer (some ⟨rb, 0, none⟩)) := has_cell 0 T.t rfl
  have A := first_c w rb R st T.r T.ok hb1 hb2 hs h0 h1
  have I := is_c w tb rb q L T.t
  have HT := Lib.hid T
  clear T hb1 hb2 hs
  go_enter Tryz.func48, Tryz.ntmps48
  go_wp2_with (first | (go_at_call 91; refine I.mono ?_; rintro e w' ⟨rfl, rfl⟩) | (go_at_call 92; refine A.mono ?_; rintro e w1 ⟨rfl, u⟩))
  have HU := Lib.hid u
  clear u A I
  go_ret2
  exact ⟨rfl, ⟨HU.out.other HT.out.t HT.out.ne, HU.out.1, HT.out.ne, HT.out.len, HT.out.ok⟩, HU.out⟩
set_option maxRecDepth 100000 in
theorem turns_nobody (w : World) (tb rb : Nat) (q : Int) (L : List Hs) (R : Rd) (st : Int) (T : Tn w tb rb q L R st) (hs : R.sm = 0) :
    Calls Tryz.prog 48 #[.pointer (some ⟨tb, 0, none⟩)] w fun e w' => e = .returned (.tuple #[.int .i64 0, .bool false]) ∧ w = w' := by
  have c0 : w.cell? ⟨tb, 0, none⟩ = some (.pointer (some ⟨rb, 0, none⟩)) := has_cell 0 T.t rfl
  have A := first_none w rb R st T.r hs
  have I := is_c w tb rb q L T.t
  clear T hs
  go_enter Tryz.func48, Tryz.ntmps48
  go_wp2_with (first | (go_at_call 91; refine I.mono ?_; rintro e w' ⟨rfl, rfl⟩) | (go_at_call 92; refine A.mono ?_; rintro e w1 ⟨rfl, rfl⟩))
  go_ret2
  exact ⟨rfl, rfl⟩
end Go.Proofs.YtagmlijhgncklaaGreatDoor
namespace Go.Proofs.YtagmlijhgncklaaGreatDoor
open Go.RowKit

set_option maxRecDepth 100000 in
set_option maxHeartbeats 400000 in
/-- Who runs is no robin: a tick does nothing. -/
theorem tick_fifo (w : World) (tb rb : Nat) (q : Int) (L : List Hs) (R : Rd) (st : Int) (t : Nat) (T : Tn w tb rb q L R st) (hf : R.firstF = t) (ht : t < 16) (hr : (L.getD t Hs.no).rob = false) (hb1 : 1 ≤ Lib.bitLen R.sm) (hb2 : Lib.bitLen R.sm ≤ 32) (hs : R.sm ≠ 0) (h0 : 0 ≤ st) (h1 : st ≤ 700000000) :
    Calls Tryz.prog 83 #[.pointer (some ⟨tb, 0, none⟩)] w fun e w' => e = .returned (.tuple #[.int .i64 0, .bool false]) ∧ Tn w' tb rb q L R (st + 1) ∧ Upd2 w tb rb w' := by
  have hti : (t : Int) < 16 := by omega
  have htl : t < L.length := by rw [T.len]; exact ht
  have A := turns_runs w tb rb q L R st T hb1 hb2 hs h0 (by omega)
  rw [hf] at A
  have HR := Lib.hid hr
  clear T hb1 hb2 hs hf hr
  go_enter Tryz.func83, Tryz.ntmps83
  go_wp2_with fail
  refine A.mono ?_; rintro e w1 ⟨rfl, T, u⟩
  clear A
  obtain ⟨d0, d1, d2, d3⟩ := tn_cells T.t t htl
  rw [HR.out] at d1
  have HT := Lib.hid T
  have HU := Lib.hid u
  clear T u
  go_wp2_with fail
  go_ret2
  exact ⟨rfl, HT.out, (Upd2.refl w tb rb).right HU.out⟩
end Go.Proofs.YtagmlijhgncklaaGreatDoor
