/-
  Who waits, in its order: the waiting list's threads, sorted, over the translation of this seat. Conditions: the blocks that are named hold what is said.
  Who waits, in its order: the map is gone over, in whatever order, over the translation of this seat. Conditions: the blocks that are named hold what is said.
  Who waits, in its order: the walk of the waiting list's sorting, over the translation of this seat. Conditions: the blocks that are named hold what is said.
-/
import Derived.Test.YtagmlijhgncklaaGreatDoorW24
import Derived.Test.YtagmlijhgncklaaGreatDoorW12
import Derived.Test.YtagmlijhgncklaaGreatDoorW32
import Derived.Test.YtagmlijhgncklaaGreatDoorW29
import Derived.Test.YtagmlijhgncklaaGreatDoorW23
import Derived.BigQuiet
set_option linter.unusedVariables false
namespace Go.Proofs.YtagmlijhgncklaaGreatDoor.Wt
open Go.RowKit Go.Proofs.YtagmlijhgncklaaGreatDoor

set_option maxHeartbeats 2000000 in
set_option maxRecDepth 100000 in
theorem pdq_c (w : World) (q g a b rb cap : Nat) (last lim : Int) (E : Es) (M : List En) (hn : (E.map (·.1)).Nodup) (hM : M.length ≤ 12) (h0 : 1 ≤ M.length) (H : Part w w q g a b rb last E M 1) (n1 : q ≠ rb) (n2 : g ≠ rb) (n3 : a ≠ rb) (n4 : b ≠ rb) (hl : ∀ x y : En, x ∈ E → y ∈ E → ¬ Lt x y → ¬ Lt y x → x = y) :
    Calls Tryz.prog 623 #[.slice (some ⟨rb, 0, none⟩) M.length cap, .int .i64 0, .int .i64 M.length, .int .i64 lim, .func (.func 607) #[] #[.pointer (some ⟨a, 0, none⟩), .pointer (some ⟨b, 0, none⟩)]] w fun e w' => e = .returned (.tuple #[]) ∧ ∃ M', Part w w' q g a b rb last E M' M.length ∧ M'.length = M.length := by
  have IC := insert_c w q g a b rb cap last E M hn (by omega) h0 H n1 n2 n3 n4 hl
  obtain ⟨n, hn0⟩ : ∃ n, n = M.length := ⟨_, rfl⟩
  rw [← hn0] at hM h0 IC ⊢
  have i0 : (0 : Int) ≤ n := by omega
  have i1 : (n : Int) ≤ 12 := by omega
  clear H hn hl hn0
  go_enter Tryz.func623, Tryz.ntmps623
  go_wp2_with fail
  refine wp_loop_rounds 1 ?_
  rw [rounds_succ]
  go_wp2_with (go_at_call 629; refine IC.mono ?_; rintro e w1 ⟨rfl, M1, h1, h2⟩; have H1 := Lib.hid (And.intro h1 h2); clear h1 h2 IC)
  refine bodyPost_ret (results_none rfl _ _ _) rfl ?_
  exact ⟨rfl, M1, H1.out.1, H1.out.2⟩
set_option maxHeartbeats 2000000 in
set_option maxRecDepth 100000 in
theorem sort_c (w : World) (q g a b rb cap : Nat) (last : Int) (E : Es) (M : List En) (hn : (E.map (·.1)).Nodup) (hM : M.length ≤ 12) (h0 : 1 ≤ M.length) (H : Part w w q g a b rb last E M 1) (n1 : q ≠ rb) (n2 : g ≠ rb) (n3 : a ≠ rb) (n4 : b ≠ rb) (hl : ∀ x y : En, x ∈ E → y ∈ E → ¬ Lt x y → ¬ Lt y x → x = y) :
    Calls Tryz.prog 606 #[.slice (some ⟨rb, 0, none⟩) M.length cap, .func (.func 607) #[] #[.pointer (some ⟨a, 0, none⟩), .pointer (some ⟨b, 0, none⟩)]] w fun e w' => e = .returned (.tuple #[]) ∧ ∃ M', Part w w' q g a b rb last E M' M.length ∧ M'.length = M.length := by
  have PC := fun lim => pdq_c w q g a b rb cap last lim E M hn hM h0 H n1 n2 n3 n4 hl
  obtain ⟨n, hn0⟩ : ∃ n, n = M.length := ⟨_, rfl⟩
  rw [← hn0] at hM h0 PC ⊢
  have i0 : (0 : Int) ≤ n := by omega
  have i1 : (n : Int) ≤ 12 := by omega
  clear H hn hl hn0
  go_enter Tryz.func606, Tryz.ntmps606
  go_wp2_with fail
  refine (Tryz.bits_Len _ _ (by omega) (by omega)).mono ?_; rintro e w' ⟨rfl, rfl⟩
  go_wp2_with (go_at_call 623; refine (PC _).mono ?_; rintro e w1 ⟨rfl, M1, h1, h2⟩; have H1 := Lib.hid (And.intro h1 h2); clear h1 h2 PC)
  go_end0
  exact ⟨rfl, M1, H1.out.1, H1.out.2⟩
end Go.Proofs.YtagmlijhgncklaaGreatDoor.Wt
namespace Go.Proofs.YtagmlijhgncklaaGreatDoor.Wt
open Go.RowKit Go.Proofs.YtagmlijhgncklaaGreatDoor
open Go.ChangeMaps (setBlock)

theorem es_of {es : List MapEntry} {E : Es} (h : es.map (fun e => (e.key, e.val)) = (weL E).map (fun x => (Value.int .i64 x.1, x.2))) : (∀ e ∈ es, ∃ x ∈ E, e.key = .int .i64 x.1) ∧ (∀ x ∈ E, ∃ e ∈ es, e.key = .int .i64 x.1) := by
  have k : es.map (·.key) = E.map (fun x => Value.int .i64 x.1) := by
    have := congrArg (List.map Prod.fst) h
    simpa [weL, Function.comp_def] using this
  refine ⟨fun e he => ?_, fun x hx => ?_⟩
  · have : e.key ∈ es.map (·.key) := List.mem_map.2 ⟨e, he, rfl⟩
    rw [k] at this
    obtain ⟨x, hx, e1⟩ := List.mem_map.1 this
    exact ⟨x, hx, e1.symm⟩
  · have : Value.int .i64 x.1 ∈ E.map (fun x => Value.int .i64 x.1) := List.mem_map.2 ⟨x, hx, rfl⟩
    rw [← k] at this
    obtain ⟨e, he, e1⟩ := List.mem_map.1 this
    exact ⟨e, he, e1⟩
theorem key_inj {E : Es} (hn : (E.map (·.1)).Nodup) {x y : En} (hx : x ∈ E) (hy : y ∈ E) (h : x.1 = y.1) : x = y := by
  induction E with
  | nil => cases hx
  | cons z E ih =>
    obtain ⟨h1, h2⟩ := List.nodup_cons.1 hn
    rcases List.mem_cons.1 hx with rfl | hx'
    · rcases List.mem_cons.1 hy with rfl | hy'
      · rfl
      · exact absurd (List.mem_map.2 ⟨y, hy', h.symm⟩) h1
    · rcases List.mem_cons.1 hy with rfl | hy'
      · exact absurd (List.mem_map.2 ⟨x, hx', h⟩) h1
      · exact ih h2 hx' hy'
/-- Those who came out so far. -/
structure Seen (es : Array MapEntry) (E : Es) (seen : Array Nat) (M : List En) : Prop where
  sub : ∀ x ∈ M, x ∈ E
  nd : M.Nodup
  iff : ∀ e ∈ es.toList, ∀ x ∈ E, e.key = .int .i64 x.1 → (seen.contains e.born = true ↔ x ∈ M)
theorem Seen.nil (es : Array MapEntry) (E : Es) : Seen es E #[] [] := ⟨fun _ h => (by cases h), List.nodup_nil, fun e _ x _ _ => by simp⟩
theorem Seen.next {es : Array MapEntry} {c : Nat} {E : Es} {seen : Array Nat} {M : List En} (h : Seen es E seen M) (hs : MapKept.Stamped es c) (hn : (E.map (·.1)).Nodup) {e : MapEntry} (he : e ∈ (leftOf es seen).toList) {x : En} (hx : x ∈ E) (hk : e.key = .int .i64 x.1) : Seen es E (seen.push e.born) (M ++ [x]) := by
  obtain ⟨he1, he2⟩ := mem_left he
  obtain ⟨_, s2, s3⟩ := (MapKept.stamped_iff es c).1 hs
  have hxM : x ∉ M := fun q => by
    have := (h.iff e he1 x hx hk).2 q
    rw [he2] at this
    cases this
  refine ⟨fun y hy => ?_, ?_, fun e' he' x' hx' hk' => ?_⟩
  · rcases List.mem_append.1 hy with hy | hy
    · exact h.sub y hy
    · obtain rfl : y = x := by simpa using hy
      exact hx
  · refine List.nodup_append.2 ⟨h.nd, by simp, fun a ha b hb => ?_⟩
    obtain rfl : b = x := by simpa using hb
    intro e
    exact hxM (e ▸ ha)
  · rw [contains_push, Bool.or_eq_true, h.iff e' he' x' hx' hk', List.mem_append]
    constructor
    · rintro (q | q)
      · exact .inl q
      · have hb : e'.born = e.born := by simpa using q
        obtain rfl := born_inj s2 he' he1 hb
        rw [hk] at hk'
        have : x.1 = x'.1 := by injection hk' with _ q2; omega
        exact .inr (by rw [key_inj hn hx hx' this]; simp)
    · rintro (q | q)
      · exact .inl q
      · obtain rfl : x' = x := by simpa using q
        obtain rfl := entry_eq_of_key s3 he' he1 (hk'.trans hk.symm)
        exact .inr (by simp)
theorem Seen.all {es : Array MapEntry} {E : Es} {seen : Array Nat} {M : List En} (h : Seen es E seen M) (hes : ∀ x ∈ E, ∃ e ∈ es.toList, e.key = .int .i64 x.1) (hn : E.Nodup) (h0 : (leftOf es seen).size = 0) : M.Perm E := by
  refine (List.perm_ext_iff_of_nodup h.nd hn).2 fun x => ⟨h.sub x, fun hx => ?_⟩
  obtain ⟨e, he, hk⟩ := hes x hx
  exact (h.iff e he x hx hk).1 (all_seen es seen h0 e he)
theorem set_upd {w : World} {r : Nat} {o : Obj} (h : r < w.heap.size) : Upd w r o (setBlock w r o) := by
  refine ⟨?_, rfl, rfl, rfl, by simp [setBlock], fun k hk hne => ?_⟩
  · show (w.heap.setIfInBounds r o)[r]? = some o
    rw [Array.getElem?_setIfInBounds, if_pos rfl, if_pos h]
  · show (w.heap.setIfInBounds r o)[k]? = w.heap[k]?
    rw [Array.getElem?_setIfInBounds, if_neg (by intro e; exact hne (by rw [e]))]
/-- On the way over the map. -/
structure It (W1 wr : World) (g r c : Nat) (es : Array MapEntry) (E : Es) (seen : Array Nat) (v : Value) (M : List En) : Prop where
  own : wr.ownsRow W1.heap.size 3 1 v M.length (M.map fun x => .int .i64 x.1)
  it : wr.heap[r]? = some (.mapIter (some g) c seen c)
  sn : Seen es E seen M
  fr : W1.grownBy wr (some r)
theorem It.reads {W1 wr w' : World} {g r c : Nat} {es : Array MapEntry} {E : Es} {seen : Array Nat} {v : Value} {M : List En} (h : It W1 wr g r c es E seen v M) (k : Below wr.heap.size wr w') : It W1 w' g r c es E seen v M :=
  ⟨h.own.kept (row := none) ⟨k.os, k.tape, k.output, k.size, fun i hi _ => k.block i hi⟩ (by cases v.ownBlock <;> simp), below_has k h.it, h.sn, grown_reads h.fr k⟩
end Go.Proofs.YtagmlijhgncklaaGreatDoor.Wt
namespace Go.Proofs.YtagmlijhgncklaaGreatDoor.Wt
open Go.RowKit Go.Proofs.YtagmlijhgncklaaGreatDoor
open Go.ChangeMaps (setBlock)

theorem infoI3 : (Tryz.prog.info? 3).map (fun i => (i.zero, i.size, i.bytes)) = some (some (.int .i64 0), 1, 8) := by kernel_rfl
set_option maxRecDepth 100000 in
theorem there_c (w : World) (q g : Nat) (last : Int) (E : Es) (h : Wq w q g last E) : Calls Tryz.prog 473 #[.pointer (some ⟨q, 0, none⟩)] w fun e w' => e = .returned (.bool true) ∧ w = w' := by
  have c := h.cell
  have hm : ∀ W : World, (binOp .neq 434 (.map (some g)) (.map none)).run Tryz.prog W = .ok (.bool true) W := fun W => run_neq_map_nil (P := Tryz.prog) W 434 _ _ (some g) Tryz.underlying434
  clear h
  go_enter Tryz.func473, Tryz.ntmps473
  go_wp2_with fail
  refine bodyPost_ret (v := .bool true) (results_tmp (show Tryz.f473.results = #[.tmp 2] from rfl) _ _ _) rfl ?_
  exact ⟨rfl, rfl⟩
theorem srt_tri : ∀ {E : Es}, Srt E → ∀ x y : En, x ∈ E → y ∈ E → ¬ Lt x y → ¬ Lt y x → x = y
  | [], _, x, y, hx, _, _, _ => by cases hx
  | z :: E, h, x, y, hx, hy, h1, h2 => by
    rcases List.mem_cons.1 hx with rfl | hx'
    · rcases List.mem_cons.1 hy with rfl | hy'
      · rfl
      · exact absurd (h.1 y hy') h1
    · rcases List.mem_cons.1 hy with rfl | hy'
      · exact absurd (h.1 x hx') h2
      · exact srt_tri h.2 x y hx' hy' h1 h2
theorem srt_pair : ∀ {E : Es}, Srt E → E.Pairwise Lt
  | [], _ => List.Pairwise.nil
  | _ :: _, h => List.Pairwise.cons h.1 (srt_pair h.2)
theorem srt_eq {M E : Es} (h1 : Srt M) (h2 : Srt E) (hp : M.Perm E) : M = E :=
  List.Perm.eq_of_pairwise (le := Lt) (fun a b _ _ h k => absurd (h.trans k) (fun q => Lt.irrefl q)) (srt_pair h1) (srt_pair h2) hp
theorem nodup_of_keys {E : Es} (h : (E.map (·.1)).Nodup) : E.Nodup := by
  induction E with
  | nil => exact List.nodup_nil
  | cons x E ih =>
    obtain ⟨h1, h2⟩ := List.nodup_cons.1 h
    exact List.nodup_cons.2 ⟨fun hx => h1 (List.mem_map.2 ⟨x, hx, rfl⟩), ih h2⟩
theorem sub_len0 {M E : Es} (h : M.Nodup) (k : ∀ x ∈ M, x ∈ E) : M.length ≤ E.length := List.Nodup.length_le_of_subset h k
/-- One more came out, and is laid behind the row. -/
theorem It.step {W1 wr W2 w3 : World} {g r c : Nat} {es : Array MapEntry} {E : Es} {seen : Array Nat} {v v3 : Value} {M : List En} {e : MapEntry} {x : En} {o : Obj} (h : It W1 wr g r c es E seen v M) (hr : r < W1.heap.size) (hs : MapKept.Stamped es c) (hn : (E.map (·.1)).Nodup) (he : e ∈ (leftOf es seen).toList) (hx : x ∈ E) (hk : e.key = .int .i64 x.1)
    (U : Upd wr r (.mapIter (some g) c (seen.push e.born) c) W2) (h3 : w3.ownsRow W1.heap.size 3 1 v3 (M.length + 1) (M.map (fun x => .int .i64 x.1) ++ [.int .i64 x.1])) (g3 : (W2.alloc o).grownBy w3 v.ownBlock) : It W1 w3 g r c es E (seen.push e.born) v3 (M ++ [x]) := by
  have ge : ∀ b, v.ownBlock = some b → W1.heap.size ≤ b := fun b hb => (h.own.lt b hb).1
  have ba := (Below.refl W2.heap.size W2).alloc (Nat.le_refl _) o
  have rlt := has_lt U.1
  refine ⟨by rw [List.length_append, List.map_append]; exact h3, (g3.block r (Nat.lt_of_lt_of_le rlt ba.size) (fun q => by have := ge r q.symm; omega)).trans (below_has ba U.1), h.sn.next hs hn he hx hk, ?_⟩
  have g1 := grown_reads (grown_upd h.fr U) ba
  exact ⟨g3.os.trans g1.os, g3.tape.trans g1.tape, g3.output.trans g1.output, Nat.le_trans g1.size g3.size, fun k hk hne => (g3.block k (Nat.lt_of_lt_of_le hk g1.size) (fun q => by have := ge k q.symm; omega)).trans (g1.block k hk hne)⟩
theorem It.own2 {W1 wr W2 : World} {g r c : Nat} {es : Array MapEntry} {E : Es} {seen : Array Nat} {v : Value} {M : List En} {o : Obj} (h : It W1 wr g r c es E seen v M) (hr : r < W1.heap.size) (U : Upd wr r o W2) : W2.ownsRow W1.heap.size 3 1 v M.length (M.map fun x => .int .i64 x.1) :=
  h.own.kept U.2 (by
    cases hv : v.ownBlock with
    | none => exact .inl rfl
    | some b => exact .inr (fun q => by have := (h.own.lt b hv).1; injection q with q; omega))
theorem It.row {W1 wr : World} {g r c : Nat} {es : Array MapEntry} {E : Es} {seen : Array Nat} {v : Value} {M : List En} (h : It W1 wr g r c es E seen v M) (h0 : 1 ≤ M.length) : ∃ rb cap, v = .slice (some ⟨rb, 0, none⟩) M.length cap ∧ W1.heap.size ≤ rb ∧ Rw wr rb M := by
  rcases h.own.2 with ⟨_, e⟩ | ⟨gb, cap, cur, e, hb, hg, hc, _, hs, ht⟩
  · omega
  · refine ⟨gb, cap, e, hb, ⟨cur, hg, fun i x hx => ?_⟩⟩
    have hi : i < M.length := (List.getElem?_eq_some_iff.1 hx).1
    have q : (M.map fun x => Value.int .i64 x.1)[i]? = some (.int .i64 x.1) := by rw [List.getElem?_map, hx]; rfl
    rw [← ht, List.getElem?_take_of_lt (by omega)] at q
    simpa using q
theorem It.left {W1 wr : World} {g r c : Nat} {es : Array MapEntry} {E : Es} {seen : Array Nat} {v : Value} {M : List En} (h : It W1 wr g r c es E seen v M) (hg : W1.heap[g]? = some (.map es c)) (gr : g < r) : wr.rangeLeft g r = (leftOf es seen).size := by
  have hb : wr.heap[g]? = some (.map es c) := (h.fr.block g (has_lt hg) (fun e => by injection e with e; omega)).trans hg
  simp only [World.rangeLeft, hb, h.it]
/-- Who waits, in its order. -/
structure Sorted (w w' : World) (E : Es) (v : Value) : Prop where
  v : ∃ rb cap, v = .slice (some ⟨rb, 0, none⟩) E.length cap ∧ Rw w' rb E
  below : Below w.heap.size w w'
set_option maxHeartbeats 2000000 in
set_option maxRecDepth 100000 in
theorem sorted_c (w : World) (q g : Nat) (last : Int) (E : Es) (h : Wq w q g last E) (hn : (E.map (·.1)).Nodup) (h1 : 1 ≤ E.length) (h12 : E.length ≤ 12) (hs : Srt E) :
    Calls Tryz.prog 575 #[.pointer (some ⟨q, 0, none⟩), .func (.func 576) #[] #[]] w fun e w' => ∃ v, e = .returned v ∧ Sorted w w' E v := by
  obtain ⟨w0, hw0⟩ : ∃ w0, w0 = (w.alloc (.cells #[.pointer (some ⟨q, 0, none⟩)] 377)).alloc (.cells #[.func (.func 576) #[] #[]] 622) := ⟨_, rfl⟩
  have b0 : Below w.heap.size w w0 := by rw [hw0]; exact ((Below.refl _ w).alloc (Nat.le_refl _) _).alloc (by simp) _
  have xb : w0.heap[w.heap.size]? = some (.cells #[.pointer (some ⟨q, 0, none⟩)] 377 (0, 0)) := by rw [hw0]; exact below_alloc_has (heap_alloc_new w (.cells #[.pointer (some ⟨q, 0, none⟩)] 377))
  have xa : w0.heap[w.heap.size + 1]? = some (.cells #[.func (.func 576) #[] #[]] 622 (0, 0)) := by
    have := heap_alloc_new (w.alloc (.cells #[.pointer (some ⟨q, 0, none⟩)] 377)) (.cells #[.func (.func 576) #[] #[]] 622)
    rw [hw0]; simpa using this
  have h0 := h.reads b0
  have T := there_c w0 q g last E h0
  have c0 := h0.cell
  have x0 : w0.cell? ⟨w.heap.size, 0, none⟩ = some (.pointer (some ⟨q, 0, none⟩)) := has_cell 0 xb rfl
  obtain ⟨es, c, hg, hes, hst⟩ := h0.g
  have hr := run_range_map (P := Tryz.prog) w0 434 3 433 g es c Tryz.underlying434 hg
  obtain ⟨W1, hW1⟩ : ∃ W1, W1 = w0.alloc (.mapIter (some g) c #[] c) := ⟨_, rfl⟩
  rw [← hW1] at hr
  have B1 := (Below.refl w0.heap.size w0).alloc (Nat.le_refl _) (.mapIter (some g) c #[] c)
  rw [← hW1] at B1
  obtain ⟨r, hr0⟩ : ∃ r, r = w0.heap.size := ⟨_, rfl⟩
  have hrW : W1.heap[r]? = some (.mapIter (some g) c #[] c) := by rw [hW1, hr0]; exact heap_alloc_new w0 _
  rw [← hr0] at hr
  have HW := Lib.hid hw0
  have HB0 := Lib.hid b0
  have HB1 := Lib.hid B1
  have HS := Lib.hid (And.intro hst (And.intro hn hs))
  have HES := Lib.hid (es_of hes)
  have HR := Lib.hid hrW
  have HR0 := Lib.hid hr0
  have HG := Lib.hid (below_has B1 hg)
  have HH := Lib.hid (h0.reads B1)
  have HX := Lib.hid (And.intro (below_has B1 xa) (below_has B1 xb))
  have HLT := Lib.hid h0.lt
  have HL1 := Lib.hid (And.intro h1 h12)
  clear h hw0 b0 h0 xa xb hg hes hst hn hs hW1 B1 hrW hr0 h1 h12
  go_enter Tryz.func575, Tryz.ntmps575
  go_upto_region 1 with fail
  rw [← HW.out]
  go_wp2_with (go_at_call 473; refine T.mono ?_; rintro e w' ⟨rfl, rfl⟩)
  clear hr T c0 x0
  have rlt : r < W1.heap.size := has_lt HR.out
  have hold : ∀ x ∈ es.toList, x.born < c := ((MapKept.stamped_iff es c).1 HS.out.1).1
  have gr : g < r := by have := HLT.out.2; have := HR0.out; omega
  have HOLD := Lib.hid hold
  have HRL := Lib.hid rlt
  have HGR := Lib.hid gr
  clear rlt hold gr
  go_loopw [5] (fun u5 wr => ∃ (seen : Array Nat) (M : List En), It W1 wr g r c es E seen u5 M) (fun _ wr => wr.rangeLeft g r)
  case atStart => exact ⟨#[], [], ⟨⟨rfl, .inl ⟨rfl, rfl⟩⟩, HR.out, Seen.nil es E, ⟨rfl, rfl, rfl, Nat.le_refl _, fun _ _ _ => rfl⟩⟩⟩
  case round =>
    obtain ⟨seen, M, I⟩ := hrel
    have hb : wr.heap[g]? = some (.map es c) := (I.fr.block g (has_lt HG.out) (fun e => by injection e with e; have := HGR.out; omega)).trans HG.out
    have hml : wr.rangeLeft g r = (leftOf es seen).size := by simp only [World.rangeLeft, hb, I.it]
    rcases run_next_at (P := Tryz.prog) wr 0 r g c c seen es c I.it hb HOLD.out (Nat.le_refl _) with ⟨hz, hrun⟩ | ⟨e, he, w1, hw1, hrun⟩
    · have HI := Lib.hid I
      have hperm := I.sn.all HES.out.2 (nodup_of_keys HS.out.2.1) hz
      have hlen := hperm.length_eq
      have HP := Lib.hid hperm
      obtain ⟨rb, cap, hv, hle, hrw⟩ := I.row (by rw [hlen]; exact HL1.out.1)
      subst hv
      have fr := I.fr
      have qr : q < r := by have := HLT.out.1; have := HR0.out; omega
      have HLEN := Lib.hid hlen
      have ne : ∀ k, k < r → k < W1.heap.size → wr.heap[k]? = W1.heap[k]? := fun k h1 h2 => fr.block k h2 (fun e => by injection e with e; omega)
      have sz : w.heap.size + 1 < r := by have q := congrArg (fun x : World => x.heap.size) HW.out; simp at q; have := HR0.out; omega
      have P0 : Part wr wr q g (w.heap.size + 1) w.heap.size rb last E M 1 := by
        refine ⟨⟨HH.out.kept (ne q qr HH.out.lt.1) (ne g HGR.out HH.out.lt.2), (ne _ sz (has_lt HX.out.1)).trans HX.out.1, (ne _ (by omega) (has_lt HX.out.2)).trans HX.out.2⟩, hrw, ?_, hperm, ⟨rfl, rfl, rfl, Nat.le_refl _, fun _ _ _ => rfl⟩⟩
        cases M with
        | nil => trivial
        | cons z M => exact ⟨fun y hy => (by cases hy), trivial⟩
      have SC := sort_c wr q g (w.heap.size + 1) w.heap.size rb cap last E M HS.out.2.1 (by rw [hlen]; exact HL1.out.2) (by rw [hlen]; exact HL1.out.1) P0 (by have := HH.out.lt.1; omega) (by have := HH.out.lt.2; omega) (by have := has_lt HX.out.1; omega) (by have := has_lt HX.out.2; omega) (srt_tri HS.out.2.2)
      have HSC := Lib.hid SC
      have HLE := Lib.hid hle
      clear I hperm hlen hle hrw fr qr ne sz P0 SC hml hb hz
      go_wp2_with (go_at_call 606; refine HSC.out.mono ?_; rintro e w9 ⟨rfl, M9, P9, hl9⟩; have HP9 := Lib.hid (And.intro P9 hl9); clear P9 hl9)
      go_ret
      obtain ⟨P9, hl9⟩ := HP9.out
      have s9 : Srt M9 := by
        have := P9.srt
        rw [← hl9, List.take_length] at this
        exact this
      obtain rfl : M9 = E := srt_eq s9 HS.out.2.2 P9.perm
      refine ⟨_, rfl, ⟨rb, cap, congrArg (fun n => Value.slice (some ⟨rb, 0, none⟩) n cap) HLEN.out, P9.row⟩, ?_⟩
      have bw := HB0.out.trans (HB1.out.mono HB0.out.size)
      have b2 : Below w.heap.size w wr := ⟨HI.out.fr.os.trans bw.os, HI.out.fr.tape.trans bw.tape, HI.out.fr.output.trans bw.output, Nat.le_trans bw.size HI.out.fr.size, fun k hk => (HI.out.fr.block k (Nat.lt_of_lt_of_le hk bw.size) (fun e => by injection e with e; have := HR0.out; have := HB0.out.size; omega)).trans (bw.block k hk)⟩
      exact ⟨P9.frame.os.trans b2.os, P9.frame.tape.trans b2.tape, P9.frame.output.trans b2.output, Nat.le_trans b2.size P9.frame.size, fun k hk => (P9.frame.block k (Nat.lt_of_lt_of_le hk b2.size) (fun e => by injection e with e; have := HLE.out; have := bw.size; omega)).trans (b2.block k hk)⟩
    · obtain ⟨x, hx, hk⟩ := HES.out.1 e (mem_left he).1
      rw [hk] at hrun
      obtain ⟨W2, hW2⟩ : ∃ W2, W2 = setBlock w1 r (.mapIter (some g) c (seen.push e.born) c) := ⟨_, rfl⟩
      rw [← hW2] at hrun
      have U : Upd wr r (.mapIter (some g) c (seen.push e.born) c) W2 := by
        have rl : r < wr.heap.size := has_lt I.it
        rcases hw1 with rfl | rfl
        · rw [hW2]; exact set_upd rl
        · have q := set_upd (w := wr.drew) (o := .mapIter (some g) c (seen.push e.born) c) rl
          rw [hW2]
          exact ⟨q.1, q.2.os, q.2.tape, q.2.output, q.2.size, q.2.block⟩
      have hb2 : W2.heap[g]? = some (.map es c) := (U.2.block g (has_lt hb) (fun e => by injection e with e; have := HGR.out; omega)).trans hb
      have hen := run_entry_at (P := Tryz.prog) W2 r g c seen es c e U.1 hb2 (mem_left he).1 ((MapKept.stamped_iff es c).1 HS.out.1).2.1
      rw [hk] at hen
      have own2 := I.own2 HRL.out U
      have hsl := left_shrinks es seen e he
      have hmm := sub_len0 I.sn.nd I.sn.sub
      have HI := Lib.hid I
      have HHE := Lib.hid (And.intro he (And.intro hx hk))
      have HU := Lib.hid U
      have HB2 := Lib.hid hb2
      have HOW := Lib.hid own2
      have HML := Lib.hid (And.intro hml (And.intro hsl hmm))
      obtain ⟨i3, hi, hz0, hz1, hz2⟩ := info_parts infoI3
      have HI3 := Lib.hid hi
      have HZ0 := Lib.hid hz0
      have HZ1 := Lib.hid hz1
      have HZ2 := Lib.hid hz2
      clear I hb hml he hw1 hx hk hW2 U hb2 own2 hsl hmm hi hz0 hz1 hz2
      go_wp2_with (at_builtin; refine wpList_append_own_at _ rfl _ _ 22 rfl W1.heap.size 3 i3 (.int .i64 0) 1 8 Tryz.underlying22 HI3.out HZ0.out HZ1.out HZ2.out rfl (by decide) _ M.length (M.map fun x => .int .i64 x.1) rfl (World.ownsRow.alloc HOW.out _) ⟨W2.heap.size, 0, none⟩ 1 1 [.int .i64 x.1] rfl rfl (by exact World.news_of_block (heap_alloc_new W2 (.cells #[.int .i64 x.1] 3))) (by intro u hu; simp at hu; subst hu; rfl) ?h63 ?hby ?hbase ?_)
      case h63 => have := HML.out.2.2; have := HL1.out.2; simp only [maxLen]; omega
      case hby => have := HML.out.2.2; have := HL1.out.2; omega
      case hbase => have := HI.out.fr.size; have := HU.out.2.size; simp; omega
      intro v3 w3 h3 g3 _ _
      have I3 := HI.out.step HRL.out HS.out.1 HS.out.2.1 HHE.out.1 HHE.out.2.1 HHE.out.2.2 HU.out h3 g3
      have HI4 := Lib.hid I3
      clear h3 g3 I3 hrun hen
      go_wp2_with fail
      go_roundw
      case rel => exact ⟨_, _, HI4.out⟩
      case measure =>
        have e1 := HI.out.left HG.out HGR.out
        have e2 := HI4.out.left HG.out HGR.out
        have := HML.out.2.1
        first | (rw [e1, e2]; exact this) | (simp only [e1, e2]; exact this)
end Go.Proofs.YtagmlijhgncklaaGreatDoor.Wt
