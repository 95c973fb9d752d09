/- What stands tells: the program's table answers as the document's does. Conditions: the two tables stand at the same places, the list is one of handles. -/
import Derived.Test.YtabbioclcjnjjaaC04Do
import Derived.Test.YtabbioclcjnjjaaC04Steps0
namespace Go.Proofs.Ytabbioclcjnjjaa
open Go.RowKit Go.Shelf
attribute [local go_sem] Oper.semAt_some
attribute [local go_sem] wide_fn wide_round_fn

theorem lt_of_cell {w : World} {b i : Nat} {v : Value} (h : w.cell? ⟨b, i, none⟩ = some v) : b < w.heap.size := by
  by_cases hb : b < w.heap.size
  · exact hb
  · simp [World.cell?, Array.getElem?_eq_none (Nat.le_of_not_lt hb)] at h

structure StW (w W : World) (r : Nat) (leave : Int) : Prop where
  below : Below w.heap.size w W
  br : W.heap[w.heap.size]? = some (.cells #[.pointer (some ⟨r, 0, none⟩)] 40 (0, 0))
  bl : W.heap[w.heap.size + 1]? = some (.cells #[.int .i64 leave] 3 (0, 0))
  bo : W.heap[w.heap.size + 2]? = some (.cells #[.bool false] 4 (0, 0))
theorem StW.reads {w W W' : World} {r : Nat} {leave : Int} (h : StW w W r leave) (hb : Below W.heap.size W W') : StW w W' r leave :=
  ⟨below_reads h.below hb h.below.size, below_has hb h.br, below_has hb h.bl, below_has hb h.bo⟩
theorem StW.drewN {w W : World} {r : Nat} {leave : Int} (h : StW w W r leave) (n : Nat) : StW w (W.drewN n) r leave := ⟨below_drewN h.below n, h.br, h.bl, h.bo⟩
theorem tk_out {L : List (Bool × Int)} {k : Nat} (h : L.length ≤ k) : tk L k = false := by
  unfold tk
  rw [List.getD_eq_getElem?_getD, List.getElem?_eq_none h]
  rfl
theorem rowsTo_all {L : List (Bool × Int)} {k : Nat} (h : L.length ≤ k) : rowsTo L k = rowsTo L L.length := by
  induction k with
  | zero => have : L.length = 0 := by omega
            rw [this]
  | succ k ih =>
    by_cases e : L.length = k + 1
    · rw [e]
    · rw [rowsTo_no (tk_out (by omega)), ih (by omega)]
theorem cnt_step {L : List (Bool × Int)} {i x : Int} {y : Bool} (h0 : -1 ≤ i) (hx : ofF L i = (x, y)) : (rowsTo L (i + 1).toNat).length = (rowsTo L i.toNat).length + (if y = true then 1 else 0) := by
  by_cases hi : i = -1
  · subst hi
    have : y = false := by simp [ofF] at hx; exact hx.2
    subst this
    rfl
  · obtain ⟨k, rfl⟩ := Int.eq_ofNat_of_zero_le (a := i) (by omega)
    rw [show ((k : Int) + 1).toNat = k + 1 by omega, show ((k : Int)).toNat = k by omega]
    cases ht : tk L k
    · have : y = false := by simp [ofF, ht] at hx; exact hx.2
      subst this
      rw [rowsTo_no ht]
      rfl
    · have hk : k < L.length := by
        rcases Nat.lt_or_ge k L.length with h | h
        · exact h
        · rw [tk_out h] at ht; cases ht
      have : y = true := by simp [ofF, ht, hk] at hx; exact hx.2
      subst this
      rw [rowsTo_yes ht]
      simp

theorem run_eq_fn (a : Value) (w : World) : (binOp .eql 58 (.func (.func 27) #[] #[a]) .nilFunc).run Try.prog w = .ok (.bool false) w := by kernel_rfl
/-- Between two turns. -/
structure TurnW (w W : World) (r t bn ct T : Nat) (leave : Int) (Ds : List Nat) : Prop where
  st : StW w W r leave
  cap : W.heap[bn]? = some (.cells #[.pointer (some ⟨t, 0, none⟩)] 24 (0, 0))
  ct : W.heap[ct]? = some (.cells #[.int .i64 T] 3 (0, 0))
  marks : ∀ D ∈ Ds, W.heap[D]? = some (.deferred (some []))
  lo : ∀ D ∈ Ds, w.heap.size + 2 < D
  nd : Ds.Nodup
theorem own_at {B b : Nat} (hb : b < B) {o : Obj} {X Y : World} {row : Option Nat} (h : X.heap[b]? = some o) (hg : X.grownBy Y row) (hr : ∀ r, row = some r → B ≤ r ∧ ∃ o : Obj, X.heap[r]? = some o ∧ o.isCells = false) : Y.heap[b]? = some o :=
  own_has (β := Unit) hb (fun _ => o) () X Y row h hg hr
theorem turn_own {β : Type} {B : Nat} {w : World} {r t bn ct T : Nat} {leave : Int} {Ds : List Nat} (h1 : w.heap.size + 2 < B) (h2 : bn < B) (h3 : ct < B) (h4 : ∀ D ∈ Ds, D < B) :
    OwnFrom B (fun (_ : β) W => TurnW w W r t bn ct T leave Ds) := fun _ X Y row h hg hr =>
  ⟨⟨ownFrom_below (β := Unit) (n₀ := w.heap.size) (B := B) (w₀ := w) (Nat.le_refl _) (by omega) () X Y row h.st.below hg hr, own_at (by omega) h.st.br hg hr, own_at (by omega) h.st.bl hg hr, own_at (by omega) h.st.bo hg hr⟩,
    own_at h2 h.cap hg hr, own_at h3 h.ct hg hr, fun D hD => own_at (h4 D hD) (h.marks D hD) hg hr, h.lo, h.nd⟩
/-- What other blocks do leaves it. -/
theorem TurnW.reads {w W W' : World} {r t bn ct T : Nat} {leave : Int} {Ds : List Nat} (h : TurnW w W r t bn ct T leave Ds) (hb : Below W.heap.size W W') : TurnW w W' r t bn ct T leave Ds :=
  ⟨h.st.reads hb, below_has hb h.cap, below_has hb h.ct, fun D hD => below_has hb (h.marks D hD), h.lo, h.nd⟩
theorem TurnW.upd {w W W' : World} {r t bn ct T b : Nat} {leave : Int} {Ds : List Nat} {o : Obj} (h : TurnW w W r t bn ct T leave Ds) (u : Upd W b o W') (h1 : w.heap.size + 2 < b) (h2 : bn ≠ b) (h3 : ct ≠ b) (h4 : ∀ D ∈ Ds, D ≠ b) : TurnW w W' r t bn ct T leave Ds :=
  ⟨⟨h.st.below.trans (u.below (by omega) h.st.below.size), u.other h.st.br (by omega), u.other h.st.bl (by omega), u.other h.st.bo (by omega)⟩, u.other h.cap h2, u.other h.ct h3, fun D hD => u.other (h.marks D hD) (h4 D hD), h.lo, h.nd⟩
def mkD (D : Nat) : Deferred := { target := .collected D, args := #[] }
def lastI (pre : List (Nat × Int)) : Int := match pre.getLast? with
  | none => -1
  | some y => y.1
theorem rows_sorted (L : List (Bool × Int)) (k : Nat) : (rowsTo L k).Pairwise (fun a b => a.1 < b.1) := by
  induction k with
  | zero => exact List.Pairwise.nil
  | succ k ih =>
    cases ht : tk L k
    · rw [rowsTo_no ht]; exact ih
    · rw [rowsTo_yes ht, List.pairwise_append]
      refine ⟨ih, List.pairwise_singleton _ _, fun a ha b hb => ?_⟩
      rw [List.mem_singleton] at hb
      subst hb
      exact (mem_rowsTo.1 ha).1
theorem good_step {L : List (Bool × Int)} {pre : List (Nat × Int)} {x : Nat × Int} (h : pre ++ [x] <+: rowsTo L L.length) : lastI pre < x.1 ∧ ofF L (x.1 : Int) = (x.2, true) := by
  have hx := mem_rowsTo.1 (h.subset (List.mem_append.2 (.inr (List.mem_singleton.2 rfl))))
  refine ⟨?_, by simp [ofF, hx.1, hx.2.1, hx.2.2]⟩
  have hp := (rows_sorted L L.length).sublist h.sublist
  rw [List.pairwise_append] at hp
  unfold lastI
  split
  · omega
  · rename_i y hy
    have := hp.2.2 y (List.mem_of_getLast? hy) x (List.mem_singleton.2 rfl)
    omega
theorem lastI_snoc (pre : List (Nat × Int)) (x : Nat × Int) : lastI (pre ++ [x]) = x.1 := by simp [lastI]
theorem turn_next {w W : World} {r t bn ct T D : Nat} {leave : Int} {Ds : List Nat} (h : TurnW w W r t bn ct T leave Ds) (hK : W.heap[D]? = some (.deferred (some []))) (hD : w.heap.size + 2 < D) (hn : ∀ D' ∈ Ds, D' ≠ D) :
    TurnW w (W.alloc (.cells #[.int .i64 (T + 1 : Nat)] 3)) r t bn W.heap.size (T + 1) leave (D :: Ds) := by
  have hb : Below W.heap.size W (W.alloc (.cells #[.int .i64 (T + 1 : Nat)] 3)) := (Below.refl _ _).alloc (Nat.le_refl _) _
  refine ⟨h.st.reads hb, below_has hb h.cap, heap_alloc_new _ _, fun D' hD' => ?_, fun D' hD' => ?_, ?_⟩
  · rcases List.mem_cons.1 hD' with rfl | h'
    · exact below_has hb hK
    · exact below_has hb (h.marks D' h')
  · rcases List.mem_cons.1 hD' with rfl | h'
    · exact hD
    · exact h.lo D' h'
  · exact List.nodup_cons.2 ⟨fun h' => hn D h' rfl, h.nd⟩
theorem named {F : Fence} {n : Nat} {P : Program} {c : Code} {Q : Exit → Act → World → Prop} {a : Act} {w : World} (h : ∀ fa, fa = a → c.wpIn F n P Q fa w) : c.wpIn F n P Q a w := h a rfl

theorem len_m (w : World) (tb : Nat) (L : List (Bool × Int)) (m : Nat) (hm : m = (rowsTo L L.length).length) (h : w.heap[tb]? = some (tabO L)) (h1 : 1 ≤ L.length) (h2 : L.length ≤ 16) (hg : genOk L 1000) :
    Calls Try.prog 12 #[.pointer (some ⟨tb, 0, none⟩)] w fun e w' => e = .returned (.int .i64 m) ∧ Below w.heap.size w w' := by
  subst hm; exact len_c w tb L h h1 h2 hg

set_option maxRecDepth 100000 in
set_option maxHeartbeats 2000000 in
theorem stands_c (w : World) (B t r s : Nat) (L : List (Bool × Int)) (vl : Value) (l : List Int) (leave : Int) (h : DSt w B t r s L vl l) (h1 : 1 ≤ L.length) (h2 : L.length ≤ 16) (hg : genOk L 1000) (hl : l.length ≤ 500) :
    Calls Try.prog 16 #[.pointer (some ⟨t, 0, none⟩), .pointer (some ⟨r, 0, none⟩), vl, .int .i64 leave] w fun e w' => e = .returned (.bool true) ∧ Below w.heap.size w w' := by
  obtain ⟨a7, cap7, e7, _⟩ := own_shape h.own
  subst e7
  have hl2 : l.length ≤ 1000 := by omega
  have H := Lib.hid h
  have HG := Lib.hid hg
  clear h hg
  refine calls_of_marks 4 Try.func16 rfl ?_
  simp only [Try.ntmps16, List.size_toArray, List.length_cons, List.length_nil, Nat.reduceAdd, Nat.reduceSub, Array.replicate_succ, Array.replicate_zero, List.push_toArray, List.append_toArray, List.nil_append, List.cons_append]
  refine wpIn_wide.2 ?_
  go_upto_region 1 with fail
  refine world_wp (fun W => StW w W r leave) ⟨(((Below.refl _ w).alloc (Nat.le_refl _) _).alloc (by simp) _).alloc (by simp; omega) _, ?_, ?_, ?_⟩ ?_
  · exact below_alloc_has (below_alloc_has (heap_alloc_new w _))
  · exact below_alloc_has (by have := heap_alloc_new (w.alloc (.cells #[.pointer (some ⟨r, 0, none⟩)] 40)) (.cells #[.int .i64 leave] 3); rwa [World.size_alloc] at this)
  · have := heap_alloc_new ((w.alloc (.cells #[.pointer (some ⟨r, 0, none⟩)] 40)).alloc (.cells #[.int .i64 leave] 3)) (.cells #[.bool false] 4)
    rwa [World.size_alloc, World.size_alloc] at this
  intro W hW
  have hD := H.out.reads hW.below
  have g0 := has_cell 0 hW.br rfl
  go_wp2_with fail
  go_loop [9, 10] (fun n i => ∃ (m : Nat) (k : Int), n = .int .i64 m ∧ i = .int .i64 k ∧ -1 ≤ k ∧ k ≤ 17 ∧ m ≤ 17 ∧ m = (rowsTo L k.toNat).length) (fun _ i => (17 - intOf i).toNat)
  case atStart => exact ⟨0, -1, rfl, rfl, by omega, by omega, by omega, rfl⟩
  case round =>
    obtain ⟨m, k, rfl, rfl, hk0, hk1, hm17, hm⟩ := hrel
    have HM := Lib.hid hm
    clear hm
    by_cases hk : k ≤ 16
    · obtain ⟨x, y, hx⟩ : ∃ x y, ofF L k = (x, y) := ⟨_, _, rfl⟩
      have hc := cnt_step hk0 hx
      have HX := Lib.hid hx
      have hlen := rowsTo_len L (k + 1).toNat
      rw [← HM.out] at hc
      have HC := Lib.hid hc
      have m17 : m + (if y = true then 1 else 0) ≤ 17 := by omega
      clear hx hc hlen
      cases y
      · go_wp2_with (first | (go_at_call 19; (with_reducible refine (of_c _ _ _ _ (by exact hD.tab) h1 h2 HG.out HX.out).mono ?_); rintro e w' ⟨rfl, rfl⟩) | (go_at_call 25; (with_reducible refine (rof_c _ _ _ _ _ (by exact hD.ref) h2 HG.out HX.out).mono ?_); rintro e w' ⟨rfl, rfl⟩))
        go_round
        case rel => exact ⟨m, k + 1, rfl, by go_num, by omega, by omega, hm17, by simpa using HC.out.symm⟩
        case measure => simp [intOf]; omega
      · have hm1 : m + 1 ≤ 17 := by simpa using m17
        go_wp2_with (first | (go_at_call 19; (with_reducible refine (of_c _ _ _ _ (by exact hD.tab) h1 h2 HG.out HX.out).mono ?_); rintro e w' ⟨rfl, rfl⟩) | (go_at_call 25; (with_reducible refine (rof_c _ _ _ _ _ (by exact hD.ref) h2 HG.out HX.out).mono ?_); rintro e w' ⟨rfl, rfl⟩))
        go_round
        case rel => exact ⟨m + 1, k + 1, by go_num, by go_num, by omega, by omega, hm1, by simpa using HC.out.symm⟩
        case measure => simp [intOf]; omega
    · obtain rfl : k = 17 := by omega
      have hm' : m = (rowsTo L L.length).length := by have := HM.out; rwa [show (17 : Int).toNat = 17 from rfl, rowsTo_all (by omega)] at this
      clear HM
      have HM := Lib.hid hm'
      clear hm' hk hk0 hk1
      go_wp2_with fail
      go_loopw [15] (fun i wr => ∃ j : Nat, i = .int .i64 j ∧ j ≤ l.length ∧ StW w wr r leave) (fun i _ => l.length - (intOf i).toNat)
      case atStart => exact ⟨0, rfl, by omega, hW⟩
      case round =>
        clear hD g0 hW
        obtain ⟨j, rfl, hj, hW⟩ := hrel
        have hD := H.out.reads hW.below
        have g0 := has_cell 0 hW.br rfl
        have hw0 := has_lt hW.br
        by_cases hjl : j < l.length
        · obtain ⟨g7, rfl, gc7, gz7⟩ := own_int hD.own hjl
          obtain ⟨z, hz⟩ : ∃ z, z = l.getD j 0 := ⟨_, rfl⟩
          rw [← hz] at gc7
          clear hz
          have hl7 : g7 < wr.heap.size := lt_of_cell gc7
          obtain ⟨o, ho⟩ : ∃ o, atF L z = o := ⟨_, rfl⟩
          have HO := Lib.hid ho
          clear ho
          go_wp2_with fail
          refine (at_c _ _ _ _ (by exact hD.tab) h1 h2 HG.out).mono ?_; rintro e w1 ⟨rfl, hb⟩
          have hW1 := hW.reads hb
          have hD1 := H.out.reads hW1.below
          have g0 := has_cell 0 hW1.br rfl
          have gc7' : w1.cell? ⟨g7, j, none⟩ = some (.int .i64 z) := (hb.cell (p := ⟨g7, j, none⟩) (by exact hl7)).trans gc7
          rw [HO.out]
          simp only [atV]
          clear gc7 gz7 hD hW hb
          go_wp2_with fail
          go_region_held3 (fun W' => W'.cell? ⟨w.heap.size, 0, none⟩ = some (.pointer (some ⟨r, 0, none⟩)) ∧ W'.cell? ⟨g7, j, none⟩ = some (.int .i64 z)) (first | exact ⟨g0, gc7'⟩ | exact ⟨by assumption, by assumption⟩)
            (first | (go_at_call 15; refine (rat_c _ _ _ _ _ (by exact hD1.ref.drewN 1) h2 HG.out).mono ?_; rw [HO.out]; simp only [atV]; rintro e w2 ⟨rfl, rfl⟩))
          try go_wp2_with fail
          go_roundw
          case rel => exact ⟨j + 1, by go_num, by omega, hW1.drewN 1⟩
          case measure => simp [intOf]; omega
        · obtain rfl : j = l.length := by omega
          clear hjl hj
          go_wp2_with fail
          refine (all_c _ _).mono ?_; rintro e w1 ⟨rfl, hcap, hb⟩
          have hW1 := hW.reads hb
          have hD1 := H.out.reads hW1.below
          have g1 := has_cell 0 hW1.br rfl
          have g2 := hD1.ref.tabCell
          have hwr : w.heap.size + 2 < wr.heap.size := has_lt hW.bo
          have HCAP := Lib.hid hcap
          clear hcap
          clear hW hD g0 hw0 hb
          have rf := fun a w => run_eq_fn a w
          go_wp2_with fail
          go_region_held3 (fun W' => W'.cell? ⟨w.heap.size, 0, none⟩ = some (.pointer (some ⟨r, 0, none⟩)) ∧ W'.cell? ⟨r, 0, none⟩ = some (.slice (some ⟨s, 0, none⟩) L.length L.length)) (first | exact ⟨g1, g2⟩ | exact ⟨by assumption, by assumption⟩)
            (first
              | (go_at_call 12; refine (len_m _ _ _ m HM.out (by exact hD1.tab) h1 h2 HG.out).mono ?_; rintro e w2 ⟨rfl, hb2⟩; have hW2 := hW1.reads (below_undrew hb2); have hD2 := H.out.reads hW2.below; have hcap2 := below_has (below_undrew hb2) HCAP.out; have g3 := has_cell 0 hW2.br rfl; have g4 := hD2.ref.tabCell)
              | (go_at_call 26; refine (places_c _ _ _ (by exact hD2.tab) h1 h2).mono ?_; rintro e w3 ⟨rfl, rfl⟩))
          go_wp2_with fail
          have hT0 : TurnW w (w2.alloc (.cells #[.int .i64 0] 3)) r t wr.heap.size w2.heap.size 0 leave [] :=
            ⟨hW2.reads ((Below.refl _ _).alloc (Nat.le_refl _) _), below_alloc_has hcap2, heap_alloc_new _ _, (fun D hD => by cases hD), (fun D hD => by cases hD), List.nodup_nil⟩
          refine wp_loop (fun a' W' => ∃ (T ct : Nat) (Ds : List Nat) (v22 v23 v24 v25 v26 v27 v107 v108 v109 v110 v111 v112 v113 v114 v115 v116 v117 v118 v119 v120 v121 v122 v123 v124 v125 v126 v127 v128 v129 v130 v131 v132 v133 v134 v135 v136 v137 v138 v139 v140 v141 v142 v143 v144 v145 v146 v147 v148 v149 v150 v151 v152 v153 v154 v155 v156 v157 v158 v159 v160 v161 v162 v163 : Value), a' = { tmps := #[Value.pointer (some ⟨t, 0, none⟩), Value.pointer (some ⟨r, 0, none⟩), Value.slice a7 l.length cap7, Value.int IntKind.i64 leave, undef, Value.pointer (some ⟨w.heap.size, 0, none⟩), undef, Value.pointer (some ⟨w.heap.size + 1, 0, none⟩), Value.pointer (some ⟨w.heap.size + 1 + 1, 0, none⟩), Value.int IntKind.i64 (m : Nat), Value.int IntKind.i64 17, u11, u12, u13, u14, Value.int IntKind.i64 (l.length : Nat), u16, u17, u18, u19, Value.func (Fn.func 27) #[] #[Value.pointer (some ⟨wr.heap.size, 0, none⟩)], .pointer (some ⟨ct, 0, none⟩), v22, v23, v24, v25, v26, v27, Value.int IntKind.i64 17, Value.bool false, u30, u31, u32, u33, u34, u35, u36, u37, u38, u39, u40, u41, u42, u43, u44, u45, u46, u47, u48, u49, u50, u51, u52, u53, u54, Value.int IntKind.i64 (l.length : Nat), Value.slice a7 l.length cap7, Value.int IntKind.i64 (l.length : Nat), Value.bool false, u59, u60, u61, u62, u63, u64, u65, u66, u67, u68, u69, u70, u71, u72, u73, u74, u75, u76, u77, u78, u79, u80, u81, u82, u83, u84, u85, u86, Value.pointer (some ⟨t, 0, none⟩), Value.func (Fn.func 27) #[] #[Value.pointer (some ⟨wr.heap.size, 0, none⟩)], Value.func (Fn.func 27) #[] #[Value.pointer (some ⟨wr.heap.size, 0, none⟩)], Value.bool false, Value.bool false, Value.pointer (some ⟨t, 0, none⟩), Value.int IntKind.i64 (m : Nat), Value.int IntKind.i64 (m : Nat), Value.bool false, Value.bool false, Value.bool false, Value.pointer (some ⟨t, 0, none⟩), Value.int IntKind.i64 (L.length : Nat), Value.pointer (some ⟨r, 0, none⟩), Value.pointer (some ⟨r, 0, none⟩), Value.pointer (some ⟨r, 0, none⟩), Value.slice (some ⟨s, 0, none⟩) L.length L.length, Value.int IntKind.i64 (L.length : Nat), Value.bool false, Value.bool false, v107, v108, v109, v110, v111, v112, v113, v114, v115, v116, v117, v118, v119, v120, v121, v122, v123, v124, v125, v126, v127, v128, v129, v130, v131, v132, v133, v134, v135, v136, v137, v138, v139, v140, v141, v142, v143, v144, v145, v146, v147, v148, v149, v150, v151, v152, v153, v154, v155, v156, v157, v158, v159, v160, v161, v162, v163], defers := Ds.map mkD } ∧ T ≤ 2 ∧ Ds.length = T ∧ TurnW w W' r t wr.heap.size ct T leave Ds) (fun a' _ => 2 - a'.defers.length) ?start ?round
          case start => exact ⟨0, w2.heap.size, [], undef, undef, undef, undef, undef, undef, undef, undef, undef, undef, undef, undef, undef, undef, undef, undef, undef, undef, undef, undef, undef, undef, undef, undef, undef, undef, undef, undef, undef, undef, undef, undef, undef, undef, undef, undef, undef, undef, undef, undef, undef, undef, undef, undef, undef, undef, undef, undef, undef, undef, undef, undef, undef, undef, undef, undef, undef, undef, undef, undef, undef, undef, undef, rfl, by omega, rfl, hT0⟩
          case round =>
            clear hT0 g1 g2 g3 g4 hW1 hD1 hW2 hD2 hb2 HCAP hcap2 hwr
            rintro _ W5 ⟨T, ct, Ds, v22, v23, v24, v25, v26, v27, v107, v108, v109, v110, v111, v112, v113, v114, v115, v116, v117, v118, v119, v120, v121, v122, v123, v124, v125, v126, v127, v128, v129, v130, v131, v132, v133, v134, v135, v136, v137, v138, v139, v140, v141, v142, v143, v144, v145, v146, v147, v148, v149, v150, v151, v152, v153, v154, v155, v156, v157, v158, v159, v160, v161, v162, v163, rfl, hT, hDs, hW⟩
            have hD := H.out.reads hW.st.below
            have gt := has_cell 0 hW.ct rfl
            by_cases hT2 : T = 2
            · subst hT2
              match Ds, hDs with
              | [D2, D1], _ =>
                have f8 := has_free hW.st.bo
                have c8 := has_cell 0 hW.st.bo rfl
                have u8 := (Upd.refl hW.st.bo).setCell 0 (.bool true)
                have m2 := u8.other (hW.marks D2 (by simp)) (by have := hW.lo D2 (by simp); omega)
                have m1 := u8.other (hW.marks D1 (by simp)) (by have := hW.lo D1 (by simp); omega)
                have n12 : D1 ≠ D2 := fun e => by have := hW.nd; simp at this; exact this e.symm
                have bl := hW.st.below.trans (u8.below (by omega) hW.st.below.size)
                have lo1 := hW.lo D1 (by simp)
                have lo2 := hW.lo D2 (by simp)
                have r8 := u8.1
                simp only [List.setIfInBounds_toArray, List.set_cons_zero] at r8
                go_wp2_with fail
                refine ⟨by simp, .inl ⟨_, _, rfl, run_takeDeferred m2, by simp, .inl ⟨_, _, rfl, run_takeDeferred ((World.putObj_heap_other n12).trans m1), ?_⟩⟩⟩
                have q1 := has_cell (w := World.putObj (World.putObj _ D2 (.deferred none)) D1 (.deferred none)) (b := w.heap.size + 2) 0 (v := .bool true) ((World.putObj_heap_other (by omega)).trans ((World.putObj_heap_other (by omega)).trans r8)) rfl
                refine ⟨.bool true, ?_, rfl, below_mark (below_mark bl (by omega) m2 _) (by omega) ((World.putObj_heap_other n12).trans m1) _⟩
                simp [results, Try.f16, go_sem, q1]
            · have hT1 : T = 0 ∨ T = 1 := by omega
              rcases hT1 with rfl | rfl
              · skip
                go_wp2_with fail
                have hz5 := hW.st.below.size
                have hb5 := has_lt hW.st.bo
                have hl1 := has_lt hW.cap
                have hl6 := has_lt hD.tab
                have hl2' := has_lt hW.ct
                have hl3 : ∀ D ∈ Ds, D < W5.heap.size := fun D hD => has_lt (hW.marks D hD)
                refine world_wp (fun W => TurnW w W r t wr.heap.size ct 0 leave Ds ∧ W.heap[W5.heap.size]? = some (.cells #[.int .i64 0] 3 (0, 0)) ∧ W.heap[W5.heap.size + 1]? = some (.cells #[.int .i64 (-1)] 3 (0, 0)))
                  ⟨hW.reads (((Below.refl _ _).alloc (Nat.le_refl _) _).alloc (by simp) _), below_alloc_has (heap_alloc_new _ _), by have := heap_alloc_new (W5.alloc (.cells #[.int .i64 0] 3)) (.cells #[.int .i64 (-1)] 3); rwa [World.size_alloc] at this⟩ ?_
                rintro W6 ⟨hW6, hk, hl⟩
                have hD6 := H.out.reads hW6.st.below
                have hl4 := has_lt hl
                have hl5 := has_lt hD6.tab
                clear hW hD gt
                refine (wpIn_wide (n := 4)).1 ?_
                refine named ?_
                intro fa hfa
                refine wpIn_rangeFunc_ownF rfl (by decide) (gf := 27) (lb := #[.pointer (some ⟨wr.heap.size, 0, none⟩)]) (by rw [hfa]; rfl) trivial enters27
                  (all_stops 3 (by decide) t wr.heap.size L W6 hD6.tab hW6.cap h1 h2 HG.out) keep2_t (keep2_b (by omega) (by omega)) (Below.refl _ _) (fun _ => rfl)
                  (fun (pre : List (Nat × Int)) (W : World) => TurnW w W r t wr.heap.size ct 0 leave Ds ∧ W.heap[W5.heap.size]? = some (.cells #[.int .i64 (pre.length : Nat)] 3 (0, 0)) ∧ W.heap[W5.heap.size + 1]? = some (.cells #[.int .i64 (lastI pre)] 3 (0, 0)))
                  (fun (c : Code) (pre : List (Nat × Int)) (W : World) => (c = .ret ∧ ¬ pre <+: rowsTo L L.length) ∨ (c = .exit 6 ∧ (0 : Nat) = 0 ∧ TurnW w W r t wr.heap.size ct 0 leave Ds ∧ W.heap[W5.heap.size]? = some (.cells #[.int .i64 leave] 3 (0, 0))))
                  ((turn_own (by omega) (by omega) (by omega) (fun D hD => by have := hl3 D hD; omega)).and ((own_has (by omega) _).and (own_has (by omega) _)))
                  (fun c s' X Y row h hg hr => h.elim .inl fun h => .inr ⟨h.1, h.2.1, turn_own (β := Unit) (B := W6.heap.size) (by omega) (by omega) (by omega) (fun D hD => by have := hl3 D hD; omega) () X Y row h.2.2.1 hg hr, own_at (B := W6.heap.size) (by omega) h.2.2.2 hg hr⟩)
                  ⟨hW6, hk, hl⟩
                  (fun x => { tmps := (((fa.tmps.setIfInBounds 112 (.int .i64 x.1)).setIfInBounds 113 (.int .i64 x.2)).setIfInBounds 24 (.int .i64 x.1)).setIfInBounds 25 (.int .i64 x.2), defers := [] })
                  ?assign ?body ?done ?stop
                case assign =>
                  intro l' x W K hK
                  subst hfa
                  simp only [encH, zip2, fold2, List.setIfInBounds_toArray, List.set_cons_succ, List.set_cons_zero] at hK ⊢
                  gi_wp2
                  exact hK
                case body =>
                  rintro l' pre x W ⟨hT7, hk7, hl7⟩ hlen
                  subst hfa
                  simp only [List.setIfInBounds_toArray, List.set_cons_succ, List.set_cons_zero]
                  have hD7 := H.out.reads hT7.st.below
                  have c1 := has_cell 0 hT7.st.br rfl
                  have c2 := has_cell 0 hT7.st.bl rfl
                  have c3 := has_cell 0 hT7.ct rfl
                  have c4 := has_cell 0 hk7 rfl
                  have f1 := has_free hT7.st.bo
                  have c6 := has_cell 0 hT7.st.bo rfl
                  have f2 := has_free hk7
                  have f3 := has_free hl7
                  have HGS := Lib.hid (good_step (L := L) (pre := pre) (x := x))
                  obtain ⟨p, q, hx⟩ : ∃ p q, ofF L (x.1 : Int) = (p, q) := ⟨_, _, rfl⟩
                  obtain ⟨z, hz⟩ : ∃ z, lastI pre = z := ⟨_, rfl⟩
                  rw [hz] at hl7
                  have c5 := has_cell 0 hl7 rfl
                  have HX := Lib.hid hx
                  have HZ := Lib.hid hz
                  clear hx hz
                  by_cases b1 : z < (x.1 : Int)
                  · cases q
                    · gi_wp2_with (gi_at_call 25; refine (CallsIn.inRound l' (callsIn_wide.2 (rof_c _ _ _ _ _ (by exact hD7.ref) h2 HG.out HX.out))).mono ?_; rintro e w' ⟨rfl, rfl⟩)
                      exact ⟨KeepsOthers.setCell _ _ _, .inl ⟨rfl, fun h => by have h := HGS.out h; rw [HX.out] at h; cases h.2⟩⟩
                    · by_cases b3 : x.2 = p
                      · subst b3
                        have hw : IntKind.i64.wrap ((pre.length : Int) + 1) = (pre.length : Int) + 1 := IntWalk.i64_in _ (by omega)
                        have U1 := (Upd.refl hl7).setCell 0 (.int .i64 x.1)
                        have hk8 := U1.other hk7 (by omega)
                        have U2 := (Upd.refl hk8).setCell 0 (.int .i64 ((pre.length : Int) + 1))
                        have hl8 := U2.other U1.1 (by omega)
                        have hT8 := (hT7.upd U1 (by omega) (by omega) (by omega) (fun D hD => by have := hl3 D hD; omega)).upd U2 (by omega) (by omega) (by omega) (fun D hD => by have := hl3 D hD; omega)
                        have k1 := U2.1
                        simp only [List.setIfInBounds_toArray, List.set_cons_zero] at k1 hl8
                        by_cases b4 : (pre.length : Int) + 1 = leave
                        · have b4' : ((pre.length : Int) + 1 == leave) = true := by simpa using b4
                          have B4 := Lib.hid b4
                          clear b4
                          gi_wp2_with (gi_at_call 25; refine (CallsIn.inRound l' (callsIn_wide.2 (rof_c _ _ _ _ _ (by exact hD7.ref) h2 HG.out HX.out))).mono ?_; rintro e w' ⟨rfl, rfl⟩)
                          exact ⟨(KeepsOthers.setCell _ _ _).trans (KeepsOthers.setCell _ _ _), .inr ⟨rfl, by simp, hT8, k1.trans (by rw [B4.out])⟩⟩
                        · have b4' : ((pre.length : Int) + 1 == leave) = false := by simpa using b4
                          clear b4
                          gi_wp2_with (gi_at_call 25; refine (CallsIn.inRound l' (callsIn_wide.2 (rof_c _ _ _ _ _ (by exact hD7.ref) h2 HG.out HX.out))).mono ?_; rintro e w' ⟨rfl, rfl⟩)
                          exact ⟨(KeepsOthers.setCell _ _ _).trans (KeepsOthers.setCell _ _ _), ⟨(Below.heap_setCell _ _ _ _ (by simp; omega)).trans (Below.heap_setCell _ _ _ _ (by simp; omega)), (Below.heap_setCell _ _ _ _ (by simp; omega)).trans (Below.heap_setCell _ _ _ _ (by simp; omega))⟩, hT8, by simpa using k1, by rw [lastI_snoc]; exact hl8⟩
                      · have b3' : (x.2 != p) = true := by simpa using b3
                        have B3 := Lib.hid b3
                        clear b3
                        gi_wp2_with (gi_at_call 25; refine (CallsIn.inRound l' (callsIn_wide.2 (rof_c _ _ _ _ _ (by exact hD7.ref) h2 HG.out HX.out))).mono ?_; rintro e w' ⟨rfl, rfl⟩)
                        exact ⟨KeepsOthers.setCell _ _ _, .inl ⟨rfl, fun h => by have h := HGS.out h; rw [HX.out] at h; injection h.2 with h; exact B3.out h.symm⟩⟩
                  · gi_wp2_with (gi_at_call 25; refine (CallsIn.inRound l' (callsIn_wide.2 (rof_c _ _ _ _ _ (by exact hD7.ref) h2 HG.out HX.out))).mono ?_; rintro e w' ⟨rfl, rfl⟩)
                    exact ⟨KeepsOthers.setCell _ _ _, .inl ⟨rfl, fun h => by have h := HGS.out h; rw [HZ.out] at h; have := h.1; omega⟩⟩
                case done =>
                  rintro D ys W hD0 rfl ⟨hT7, hk7, hl7⟩ hK
                  subst hfa
                  rw [← HM.out] at hk7
                  have c2 := has_cell 0 hT7.st.bl rfl
                  have c3 := has_cell 0 hT7.ct rfl
                  have c4 := has_cell 0 hk7 rfl
                  go_wp2_with fail
                  first | exact ⟨1, _, D :: Ds, ⟨rfl, rfl⟩, by omega, by simp [hDs], turn_next hT7 hK (by omega) (fun D' hD' => by have := hl3 D' hD'; omega)⟩ | exact ⟨⟨1, W.heap.size, D :: Ds, _, _, _, _, _, _, _, _, _, _, _, _, _, _, _, _, _, _, _, _, _, _, _, _, _, _, _, _, _, _, _, _, _, _, _, _, _, _, _, _, _, _, _, _, _, _, _, _, _, _, _, _, _, _, _, _, _, _, _, _, _, _, _, rfl, by omega, by simp [hDs], turn_next hT7 hK (by omega) (fun D' hD' => by have := hl3 D' hD'; omega)⟩, by simp [hDs]⟩
                case stop =>
                  rintro D c pre W hD0 hpre (⟨rfl, hn⟩ | ⟨rfl, ht0, hT7, hk7⟩) hK
                  · exact absurd hpre hn
                  · subst hfa
                    refine wpIn_wide.2 ?_
                    have c2 := has_cell 0 hT7.st.bl rfl
                    have c3 := has_cell 0 hT7.ct rfl
                    have c4 := has_cell 0 hk7 rfl
                    by_cases hlm : leave = (m : Int)
                    · subst hlm
                      go_wp2_with fail
                      first | exact ⟨1, _, D :: Ds, ⟨rfl, rfl⟩, by omega, by simp [hDs], turn_next hT7 hK (by omega) (fun D' hD' => by have := hl3 D' hD'; omega)⟩ | exact ⟨⟨1, W.heap.size, D :: Ds, _, _, _, _, _, _, _, _, _, _, _, _, _, _, _, _, _, _, _, _, _, _, _, _, _, _, _, _, _, _, _, _, _, _, _, _, _, _, _, _, _, _, _, _, _, _, _, _, _, _, _, _, _, _, _, _, _, _, _, _, _, _, _, rfl, by omega, by simp [hDs], turn_next hT7 hK (by omega) (fun D' hD' => by have := hl3 D' hD'; omega)⟩, by simp [hDs]⟩
                    · have b5 : (leave != (m : Int)) = true := by simpa using hlm
                      go_wp2_with fail
                      first | exact ⟨1, _, D :: Ds, ⟨rfl, rfl⟩, by omega, by simp [hDs], turn_next hT7 hK (by omega) (fun D' hD' => by have := hl3 D' hD'; omega)⟩ | exact ⟨⟨1, W.heap.size, D :: Ds, _, _, _, _, _, _, _, _, _, _, _, _, _, _, _, _, _, _, _, _, _, _, _, _, _, _, _, _, _, _, _, _, _, _, _, _, _, _, _, _, _, _, _, _, _, _, _, _, _, _, _, _, _, _, _, _, _, _, _, _, _, _, _, rfl, by omega, by simp [hDs], turn_next hT7 hK (by omega) (fun D' hD' => by have := hl3 D' hD'; omega)⟩, by simp [hDs]⟩
              · skip
                go_wp2_with fail
                have hz5 := hW.st.below.size
                have hb5 := has_lt hW.st.bo
                have hl1 := has_lt hW.cap
                have hl6 := has_lt hD.tab
                have hl2' := has_lt hW.ct
                have hl3 : ∀ D ∈ Ds, D < W5.heap.size := fun D hD => has_lt (hW.marks D hD)
                refine world_wp (fun W => TurnW w W r t wr.heap.size ct 1 leave Ds ∧ W.heap[W5.heap.size]? = some (.cells #[.int .i64 0] 3 (0, 0)) ∧ W.heap[W5.heap.size + 1]? = some (.cells #[.int .i64 (-1)] 3 (0, 0)))
                  ⟨hW.reads (((Below.refl _ _).alloc (Nat.le_refl _) _).alloc (by simp) _), below_alloc_has (heap_alloc_new _ _), by have := heap_alloc_new (W5.alloc (.cells #[.int .i64 0] 3)) (.cells #[.int .i64 (-1)] 3); rwa [World.size_alloc] at this⟩ ?_
                rintro W6 ⟨hW6, hk, hl⟩
                have hD6 := H.out.reads hW6.st.below
                have hl4 := has_lt hl
                have hl5 := has_lt hD6.tab
                clear hW hD gt
                refine (wpIn_wide (n := 4)).1 ?_
                refine named ?_
                intro fa hfa
                refine wpIn_rangeFunc_ownF rfl (by decide) (gf := 27) (lb := #[.pointer (some ⟨wr.heap.size, 0, none⟩)]) (by rw [hfa]; rfl) trivial enters27
                  (all_stops 3 (by decide) t wr.heap.size L W6 hD6.tab hW6.cap h1 h2 HG.out) keep2_t (keep2_b (by omega) (by omega)) (Below.refl _ _) (fun _ => rfl)
                  (fun (pre : List (Nat × Int)) (W : World) => TurnW w W r t wr.heap.size ct 1 leave Ds ∧ W.heap[W5.heap.size]? = some (.cells #[.int .i64 (pre.length : Nat)] 3 (0, 0)) ∧ W.heap[W5.heap.size + 1]? = some (.cells #[.int .i64 (lastI pre)] 3 (0, 0)))
                  (fun (c : Code) (pre : List (Nat × Int)) (W : World) => (c = .ret ∧ ¬ pre <+: rowsTo L L.length) ∨ (c = .exit 6 ∧ (1 : Nat) = 0 ∧ TurnW w W r t wr.heap.size ct 1 leave Ds ∧ W.heap[W5.heap.size]? = some (.cells #[.int .i64 leave] 3 (0, 0))))
                  ((turn_own (by omega) (by omega) (by omega) (fun D hD => by have := hl3 D hD; omega)).and ((own_has (by omega) _).and (own_has (by omega) _)))
                  (fun c s' X Y row h hg hr => h.elim .inl fun h => .inr ⟨h.1, h.2.1, turn_own (β := Unit) (B := W6.heap.size) (by omega) (by omega) (by omega) (fun D hD => by have := hl3 D hD; omega) () X Y row h.2.2.1 hg hr, own_at (B := W6.heap.size) (by omega) h.2.2.2 hg hr⟩)
                  ⟨hW6, hk, hl⟩
                  (fun x => { tmps := (((fa.tmps.setIfInBounds 112 (.int .i64 x.1)).setIfInBounds 113 (.int .i64 x.2)).setIfInBounds 24 (.int .i64 x.1)).setIfInBounds 25 (.int .i64 x.2), defers := [] })
                  ?assign ?body ?done ?stop
                case assign =>
                  intro l' x W K hK
                  subst hfa
                  simp only [encH, zip2, fold2, List.setIfInBounds_toArray, List.set_cons_succ, List.set_cons_zero] at hK ⊢
                  gi_wp2
                  exact hK
                case body =>
                  rintro l' pre x W ⟨hT7, hk7, hl7⟩ hlen
                  subst hfa
                  simp only [List.setIfInBounds_toArray, List.set_cons_succ, List.set_cons_zero]
                  have hD7 := H.out.reads hT7.st.below
                  have c1 := has_cell 0 hT7.st.br rfl
                  have c2 := has_cell 0 hT7.st.bl rfl
                  have c3 := has_cell 0 hT7.ct rfl
                  have c4 := has_cell 0 hk7 rfl
                  have f1 := has_free hT7.st.bo
                  have c6 := has_cell 0 hT7.st.bo rfl
                  have f2 := has_free hk7
                  have f3 := has_free hl7
                  have HGS := Lib.hid (good_step (L := L) (pre := pre) (x := x))
                  obtain ⟨p, q, hx⟩ : ∃ p q, ofF L (x.1 : Int) = (p, q) := ⟨_, _, rfl⟩
                  obtain ⟨z, hz⟩ : ∃ z, lastI pre = z := ⟨_, rfl⟩
                  rw [hz] at hl7
                  have c5 := has_cell 0 hl7 rfl
                  have HX := Lib.hid hx
                  have HZ := Lib.hid hz
                  clear hx hz
                  by_cases b1 : z < (x.1 : Int)
                  · cases q
                    · gi_wp2_with (gi_at_call 25; refine (CallsIn.inRound l' (callsIn_wide.2 (rof_c _ _ _ _ _ (by exact hD7.ref) h2 HG.out HX.out))).mono ?_; rintro e w' ⟨rfl, rfl⟩)
                      exact ⟨KeepsOthers.setCell _ _ _, .inl ⟨rfl, fun h => by have h := HGS.out h; rw [HX.out] at h; cases h.2⟩⟩
                    · by_cases b3 : x.2 = p
                      · subst b3
                        have hw : IntKind.i64.wrap ((pre.length : Int) + 1) = (pre.length : Int) + 1 := IntWalk.i64_in _ (by omega)
                        have U1 := (Upd.refl hl7).setCell 0 (.int .i64 x.1)
                        have hk8 := U1.other hk7 (by omega)
                        have U2 := (Upd.refl hk8).setCell 0 (.int .i64 ((pre.length : Int) + 1))
                        have hl8 := U2.other U1.1 (by omega)
                        have hT8 := (hT7.upd U1 (by omega) (by omega) (by omega) (fun D hD => by have := hl3 D hD; omega)).upd U2 (by omega) (by omega) (by omega) (fun D hD => by have := hl3 D hD; omega)
                        have k1 := U2.1
                        simp only [List.setIfInBounds_toArray, List.set_cons_zero] at k1 hl8
                        by_cases b4 : (pre.length : Int) + 1 = leave
                        · have b4' : ((pre.length : Int) + 1 == leave) = true := by simpa using b4
                          have B4 := Lib.hid b4
                          clear b4
                          gi_wp2_with (gi_at_call 25; refine (CallsIn.inRound l' (callsIn_wide.2 (rof_c _ _ _ _ _ (by exact hD7.ref) h2 HG.out HX.out))).mono ?_; rintro e w' ⟨rfl, rfl⟩)
                          exact ⟨(KeepsOthers.setCell _ _ _).trans (KeepsOthers.setCell _ _ _), ⟨(Below.heap_setCell _ _ _ _ (by simp; omega)).trans (Below.heap_setCell _ _ _ _ (by simp; omega)), (Below.heap_setCell _ _ _ _ (by simp; omega)).trans (Below.heap_setCell _ _ _ _ (by simp; omega))⟩, hT8, by simpa using k1, by rw [lastI_snoc]; exact hl8⟩
                        · have b4' : ((pre.length : Int) + 1 == leave) = false := by simpa using b4
                          clear b4
                          gi_wp2_with (gi_at_call 25; refine (CallsIn.inRound l' (callsIn_wide.2 (rof_c _ _ _ _ _ (by exact hD7.ref) h2 HG.out HX.out))).mono ?_; rintro e w' ⟨rfl, rfl⟩)
                          exact ⟨(KeepsOthers.setCell _ _ _).trans (KeepsOthers.setCell _ _ _), ⟨(Below.heap_setCell _ _ _ _ (by simp; omega)).trans (Below.heap_setCell _ _ _ _ (by simp; omega)), (Below.heap_setCell _ _ _ _ (by simp; omega)).trans (Below.heap_setCell _ _ _ _ (by simp; omega))⟩, hT8, by simpa using k1, by rw [lastI_snoc]; exact hl8⟩
                      · have b3' : (x.2 != p) = true := by simpa using b3
                        have B3 := Lib.hid b3
                        clear b3
                        gi_wp2_with (gi_at_call 25; refine (CallsIn.inRound l' (callsIn_wide.2 (rof_c _ _ _ _ _ (by exact hD7.ref) h2 HG.out HX.out))).mono ?_; rintro e w' ⟨rfl, rfl⟩)
                        exact ⟨KeepsOthers.setCell _ _ _, .inl ⟨rfl, fun h => by have h := HGS.out h; rw [HX.out] at h; injection h.2 with h; exact B3.out h.symm⟩⟩
                  · gi_wp2_with (gi_at_call 25; refine (CallsIn.inRound l' (callsIn_wide.2 (rof_c _ _ _ _ _ (by exact hD7.ref) h2 HG.out HX.out))).mono ?_; rintro e w' ⟨rfl, rfl⟩)
                    exact ⟨KeepsOthers.setCell _ _ _, .inl ⟨rfl, fun h => by have h := HGS.out h; rw [HZ.out] at h; have := h.1; omega⟩⟩
                case done =>
                  rintro D ys W hD0 rfl ⟨hT7, hk7, hl7⟩ hK
                  subst hfa
                  rw [← HM.out] at hk7
                  have c2 := has_cell 0 hT7.st.bl rfl
                  have c3 := has_cell 0 hT7.ct rfl
                  have c4 := has_cell 0 hk7 rfl
                  go_wp2_with fail
                  first | exact ⟨2, _, D :: Ds, ⟨rfl, rfl⟩, by omega, by simp [hDs], turn_next hT7 hK (by omega) (fun D' hD' => by have := hl3 D' hD'; omega)⟩ | exact ⟨⟨2, W.heap.size, D :: Ds, _, _, _, _, _, _, _, _, _, _, _, _, _, _, _, _, _, _, _, _, _, _, _, _, _, _, _, _, _, _, _, _, _, _, _, _, _, _, _, _, _, _, _, _, _, _, _, _, _, _, _, _, _, _, _, _, _, _, _, _, _, _, _, rfl, by omega, by simp [hDs], turn_next hT7 hK (by omega) (fun D' hD' => by have := hl3 D' hD'; omega)⟩, by simp [hDs]⟩
                case stop =>
                  rintro D c pre W hD0 hpre (⟨rfl, hn⟩ | ⟨rfl, ht0, hT7, hk7⟩) hK
                  · exact absurd hpre hn
                  · cases ht0
end Go.Proofs.Ytabbioclcjnjjaa
