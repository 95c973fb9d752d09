/- What stands tells: the program's cancellation answers as the document's does. Conditions: the two stand alike. -/
import Derived.Test.YtdpeccbdacdkiaaC20RefSame
import Derived.Test.YtdpeccbdacdkiaaC20Do
import Derived.Test.YtdpeccbdacdkiaaC20Iter
import Derived.Test.YtdpeccbdacdkiaaQuietRound
namespace Go.Proofs.Ytdpeccbdacdkiaa
open Go.RowKit Go.Shelf
attribute [local go_sem] Oper.semAt_some
attribute [local go_sem] wide_fn wide_round_fn

structure StW (w W : World) (r : Nat) (leave : Int) : Prop where
  below : Below w.heap.size w W
  br : W.heap[w.heap.size]? = some (.cells #[.pointer (some ⟨r, 0, none⟩)] 25 (0, 0))
  bl : W.heap[w.heap.size + 1]? = some (.cells #[.int .i64 leave] 3 (0, 0))
  bo : W.heap[w.heap.size + 2]? = some (.cells #[.bool false] 4 (0, 0))
theorem StW.reads {w W W' : World} {r : Nat} {leave : Int} (h : StW w W r leave) (hb : Below W.heap.size W W') : StW w W' r leave :=
  ⟨below_reads h.below hb h.below.size, below_has hb h.br, below_has hb h.bl, below_has hb h.bo⟩
/-- Between two turns. -/
structure TurnW (w W : World) (r t bn ct T : Nat) (leave : Int) (Ds : List Nat) : Prop where
  st : StW w W r leave
  cap : W.heap[bn]? = some (.cells #[.pointer (some ⟨t, 0, none⟩)] 23 (0, 0))
  ct : W.heap[ct]? = some (.cells #[.int .i64 T] 3 (0, 0))
  marks : ∀ D ∈ Ds, W.heap[D]? = some (.deferred (some []))
  lo : ∀ D ∈ Ds, w.heap.size + 2 < D
  nd : Ds.Nodup
theorem own_at {B b : Nat} (hb : b < B) {o : Obj} {X Y : World} {row : Option Nat} (h : X.heap[b]? = some o) (hg : X.grownBy Y row) (hr : ∀ r, row = some r → B ≤ r ∧ ∃ o : Obj, X.heap[r]? = some o ∧ o.isCells = false) : Y.heap[b]? = some o :=
  own_has (β := Unit) hb (fun _ => o) () X Y row h hg hr
/-- Whatever is cells stays where no cells are turned. -/
theorem own_cells {B b : Nat} {cs : Array Value} {T : TypeId} {fz : Nat × Nat} {X Y : World} {row : Option Nat} (h : X.heap[b]? = some (.cells cs T fz)) (hg : X.grownBy Y row) (hr : ∀ r, row = some r → B ≤ r ∧ ∃ o : Obj, X.heap[r]? = some o ∧ o.isCells = false) : Y.heap[b]? = some (.cells cs T fz) :=
  (hg.block b (has_lt h) (fun e => by
    obtain ⟨_, o, ho, hc⟩ := hr b e.symm
    rw [h] at ho
    cases ho
    cases hc)).trans h
theorem turn_own {β : Type} {B : Nat} {w : World} {r t bn ct T : Nat} {leave : Int} {Ds : List Nat} (h1 : w.heap.size + 2 < B) (h2 : bn < B) (h3 : ct < B) (h4 : ∀ D ∈ Ds, D < B) :
    OwnFrom B (fun (_ : β) W => TurnW w W r t bn ct T leave Ds) := fun _ X Y row h hg hr =>
  ⟨⟨ownFrom_below (β := Unit) (n₀ := w.heap.size) (B := B) (w₀ := w) (Nat.le_refl _) (by omega) () X Y row h.st.below hg hr, own_at (by omega) h.st.br hg hr, own_at (by omega) h.st.bl hg hr, own_at (by omega) h.st.bo hg hr⟩,
    own_at h2 h.cap hg hr, own_at h3 h.ct hg hr, fun D hD => own_at (h4 D hD) (h.marks D hD) hg hr, h.lo, h.nd⟩
/-- What other blocks do leaves it. -/
theorem TurnW.reads {w W W' : World} {r t bn ct T : Nat} {leave : Int} {Ds : List Nat} (h : TurnW w W r t bn ct T leave Ds) (hb : Below W.heap.size W W') : TurnW w W' r t bn ct T leave Ds :=
  ⟨h.st.reads hb, below_has hb h.cap, below_has hb h.ct, fun D hD => below_has hb (h.marks D hD), h.lo, h.nd⟩
theorem TurnW.upd {w W W' : World} {r t bn ct T b : Nat} {leave : Int} {Ds : List Nat} {o : Obj} (h : TurnW w W r t bn ct T leave Ds) (u : Upd W b o W') (h1 : w.heap.size + 2 < b) (h2 : bn ≠ b) (h3 : ct ≠ b) (h4 : ∀ D ∈ Ds, D ≠ b) : TurnW w W' r t bn ct T leave Ds :=
  ⟨⟨h.st.below.trans (u.below (by omega) h.st.below.size), u.other h.st.br (by omega), u.other h.st.bl (by omega), u.other h.st.bo (by omega)⟩, u.other h.cap h2, u.other h.ct h3, fun D hD => u.other (h.marks D hD) (h4 D hD), h.lo, h.nd⟩
def mkD (D : Nat) : Deferred := { target := .collected D, args := #[] }
theorem turn_next {w W : World} {r t bn ct T D : Nat} {leave : Int} {Ds : List Nat} (h : TurnW w W r t bn ct T leave Ds) (hK : W.heap[D]? = some (.deferred (some []))) (hD : w.heap.size + 2 < D) (hn : ∀ D' ∈ Ds, D' ≠ D) :
    TurnW w (W.alloc (.cells #[.int .i64 (T + 1 : Nat)] 3)) r t bn W.heap.size (T + 1) leave (D :: Ds) := by
  have hb : Below W.heap.size W (W.alloc (.cells #[.int .i64 (T + 1 : Nat)] 3)) := (Below.refl _ _).alloc (Nat.le_refl _) _
  refine ⟨h.st.reads hb, below_has hb h.cap, heap_alloc_new _ _, fun D' hD' => ?_, fun D' hD' => ?_, ?_⟩
  · rcases List.mem_cons.1 hD' with rfl | h'
    · exact below_has hb hK
    · exact below_has hb (h.marks D' h')
  · rcases List.mem_cons.1 hD' with rfl | h'
    · exact hD
    · exact h.lo D' h'
  · exact List.nodup_cons.2 ⟨fun h' => hn D h' rfl, h.nd⟩
theorem named {F : Fence} {n : Nat} {P : Program} {c : Code} {Q : Exit → Act → World → Prop} {a : Act} {w : World} (h : ∀ fa, fa = a → c.wpIn F n P Q fa w) : c.wpIn F n P Q a w := h a rfl
theorem run_eq_fn (a : Value) (w : World) : (binOp .eql 65 (.func (.func 40) #[] #[a]) .nilFunc).run Try.prog w = .ok (.bool false) w := by kernel_rfl
theorem keeps_drewN (B : Nat) (W : World) (n : Nat) : KeepsFrom B W (W.drewN n) := ⟨Nat.le_refl _, fun _ _ _ h _ => h⟩
theorem good_step {L : List (Int × Int)} {pre : List (Int × Int)} {x : Int × Int} (h : pre ++ [x] <+: L.reverse) : pre.length < L.length ∧ x = (at0 L (L.length - 1 - pre.length), at1 L (L.length - 1 - pre.length)) := by
  have hl := h.length_le
  simp at hl
  have hlt : pre.length < L.length := by omega
  refine ⟨hlt, ?_⟩
  obtain ⟨t, ht⟩ := h
  have e : L.reverse[pre.length]? = some x := by
    rw [← ht]
    simp
  rw [List.getElem?_eq_getElem (by simp; omega), List.getElem_reverse, Option.some.injEq] at e
  rw [← e]
  unfold at0 at1
  rw [List.getD_eq_getElem?_getD, List.getElem?_eq_getElem (by omega)]
  rfl
/-- What a round's box holds. -/
def BoxAt (fa : Act) (x : Int × Int) (a' : Act) (W : World) : Prop := ∃ xb, a' = { tmps := (fa.tmps.setIfInBounds 78 (.agg #[.int .i64 x.1, .int .i64 x.2])).setIfInBounds 10 (.pointer (some ⟨xb, 0, none⟩)), defers := [] } ∧ W.heap[xb]? = some (.cells #[.int .i64 x.1, .int .i64 x.2] 30 (0, 0))
theorem box_own {B : Nat} (fa : Act) (x : Int × Int) (a' : Act) : OwnFrom B (fun (_ : Unit) W => BoxAt fa x a' W) := fun _ X Y row ⟨xb, e, h⟩ hg hr => ⟨xb, e, own_cells (B := B) h hg hr⟩

set_option maxRecDepth 100000 in
set_option maxHeartbeats 4000000 in
theorem stands_c (w : World) (B c r : Nat) (s : Cs) (v : Value) (leave : Int) (h : CSt w B c r s v) :
    Calls Try.prog 24 #[.pointer (some ⟨c, 0, none⟩), .pointer (some ⟨r, 0, none⟩), .int .i64 leave] w fun e w' => e = .returned (.bool true) ∧ Below w.heap.size w w' := by
  obtain ⟨a7, cap7, e7⟩ := own_shp h.ref.own
  subst e7
  have hT := h.top
  have hnn : (s.on == !s.on) = false := by cases s.on <;> rfl
  have H := Lib.hid h
  clear h
  refine calls_of_marks 4 Try.func24 rfl ?_
  simp only [Try.ntmps24, List.size_toArray, List.length_cons, List.length_nil, Nat.reduceAdd, Nat.reduceSub, Array.replicate_succ, Array.replicate_zero, List.push_toArray, List.append_toArray, List.nil_append, List.cons_append]
  refine wpIn_wide.2 ?_
  go_upto_region 1 with fail
  refine world_wp (fun W => StW w W r leave) ⟨(((Below.refl _ w).alloc (Nat.le_refl _) _).alloc (by simp) _).alloc (by simp; omega) _, ?_, ?_, ?_⟩ ?_
  · exact below_alloc_has (below_alloc_has (heap_alloc_new w _))
  · exact below_alloc_has (by have := heap_alloc_new (w.alloc (.cells #[.pointer (some ⟨r, 0, none⟩)] 25)) (.cells #[.int .i64 leave] 3); rwa [World.size_alloc] at this)
  · have := heap_alloc_new ((w.alloc (.cells #[.pointer (some ⟨r, 0, none⟩)] 25)).alloc (.cells #[.int .i64 leave] 3)) (.cells #[.bool false] 4)
    rwa [World.size_alloc, World.size_alloc] at this
  intro W hW
  have hD := H.out.reads hW.below
  have g0 := has_cell 0 hW.br rfl
  have r0 := has_cell 0 hD.ref.ref rfl
  have r1 := has_cell 1 hD.ref.ref rfl
  have r2 := has_cell 2 hD.ref.ref rfl
  have r3 := has_cell 3 hD.ref.ref rfl
  have r4 := has_cell 4 hD.ref.ref rfl
  go_region_held3 (fun W' => W'.cell? ⟨w.heap.size, 0, none⟩ = some (.pointer (some ⟨r, 0, none⟩)) ∧ W'.cell? ⟨r, 0, none⟩ = some (.bool s.ak) ∧ W'.cell? ⟨r, 1, none⟩ = some (.bool (!s.on)) ∧ W'.cell? ⟨r, 2, none⟩ = some (.bool s.ay) ∧ W'.cell? ⟨r, 3, none⟩ = some (.bool s.un) ∧ W'.cell? ⟨r, 4, none⟩ = some (.slice a7 s.L.length cap7))
    (first | exact ⟨g0, r0, r1, r2, r3, r4⟩ | exact ⟨q0, q1, q2, q3, q4, q5⟩ | exact ⟨by assumption, by assumption, by assumption, by assumption, by assumption, by assumption⟩)
    (first
      | (go_at_call 25; refine (asked_c _ _ _ (by exact hD.can) hT).mono ?_; rintro e w' ⟨rfl, rfl⟩)
      | (go_at_call 21; refine (enabled_c _ _ _ (by exact hD.can) hT).mono ?_; rintro e w' ⟨rfl, rfl⟩)
      | (go_at_call 22; refine (once_c _ _ _ (by exact hD.can) hT).mono ?_; rintro e w' ⟨rfl, rfl⟩)
      | (go_at_call 26; refine (unwinds_c _ _ _ (by exact hD.can) hT).mono ?_; rintro e w' ⟨rfl, rfl⟩)
      | (go_at_call 20; refine (acts_c _ _ _ _ (by exact hD.can) hT).mono ?_; rintro e w' ⟨rfl, rfl⟩)
      | (go_at_call 39; refine (racts_c _ B _ _ _ _ (by exact hD.ref.drewN 1)).mono ?_; rintro e w' ⟨rfl, rfl⟩)
      | (go_at_call 23; refine (len_c _ _ _ (by exact hD.can) hT).mono ?_; rintro e w2 ⟨rfl, hb2⟩; have hW2 := hW.reads (below_undrew hb2); have hD2 := H.out.reads hW2.below; have q0 := has_cell 0 hW2.br rfl; have q1 := has_cell 0 hD2.ref.ref rfl; have q2 := has_cell 1 hD2.ref.ref rfl; have q3 := has_cell 2 hD2.ref.ref rfl; have q4 := has_cell 3 hD2.ref.ref rfl; have q5 := has_cell 4 hD2.ref.ref rfl))
  clear hW hD g0 r0 r1 r2 r3 r4 q0 q1 q2 q3 q4 q5
  go_wp2_with fail
  refine (all_c _ _).mono ?_; rintro e w3 ⟨rfl, hcap, hb3⟩
  have hW3 := hW2.reads hb3
  have hlw2 : w.heap.size + 2 < w2.heap.size := has_lt hW2.bo
  have HCAP := Lib.hid hcap
  clear hcap hW2 hD2 hb2 hb3
  have rf := fun a w => run_eq_fn a w
  go_wp2_with fail
  have hT0 : TurnW w (w3.alloc (.cells #[.int .i64 0] 3)) r c w2.heap.size w3.heap.size 0 leave [] :=
    ⟨hW3.reads ((Below.refl _ _).alloc (Nat.le_refl _) _), below_alloc_has HCAP.out, heap_alloc_new _ _, (fun D hD => by cases hD), (fun D hD => by cases hD), List.nodup_nil⟩
  refine wp_loop (fun a' W' => ∃ (T ct : Nat) (Ds : List Nat) (v9 v10 v73 v74 v75 v76 v77 v78 v79 v80 v81 v82 v83 v84 v85 v86 v87 v88 v89 v90 v91 v92 v93 v94 v95 v96 v97 v98 v99 v100 v101 v102 v103 v104 v105 v106 v107 v108 v109 v110 v111 v112 v113 v114 v115 v116 v117 v118 v119 v120 v121 v122 v123 v124 v125 v126 v127 v128 v129 v130 v131 v132 v133 v134 v135 v136 v137 v138 v139 v140 v141 v142 : Value), a' = { tmps := #[Value.pointer (some ⟨c, 0, none⟩), Value.pointer (some ⟨r, 0, none⟩), Value.int IntKind.i64 leave, undef, Value.pointer (some ⟨w.heap.size, 0, none⟩), Value.pointer (some ⟨w.heap.size + 1, 0, none⟩), Value.pointer (some ⟨w.heap.size + 1 + 1, 0, none⟩), Value.func (Fn.func 40) #[] #[Value.pointer (some ⟨w2.heap.size, 0, none⟩)], .pointer (some ⟨ct, 0, none⟩), v9, v10, Value.pointer (some ⟨c, 0, none⟩), Value.bool s.ak, Value.pointer (some ⟨r, 0, none⟩), Value.pointer (some ⟨r, 0, none⟩), Value.pointer (some ⟨r, 0, none⟩), Value.bool s.ak, Value.bool false, Value.bool false, Value.pointer (some ⟨c, 0, none⟩), Value.bool s.on, Value.pointer (some ⟨r, 0, none⟩), Value.pointer (some ⟨r, 0, none⟩), Value.pointer (some ⟨r, 1, none⟩), Value.bool !s.on, Value.bool false, Value.bool false, Value.bool false, Value.pointer (some ⟨c, 0, none⟩), Value.bool s.ay, Value.pointer (some ⟨r, 0, none⟩), Value.pointer (some ⟨r, 0, none⟩), Value.pointer (some ⟨r, 2, none⟩), Value.bool s.ay, Value.bool false, Value.bool false, Value.bool false, Value.pointer (some ⟨c, 0, none⟩), Value.bool s.un, Value.pointer (some ⟨r, 0, none⟩), Value.pointer (some ⟨r, 0, none⟩), Value.pointer (some ⟨r, 3, none⟩), Value.bool s.un, Value.bool false, Value.bool false, Value.bool false, Value.pointer (some ⟨c, 0, none⟩), Value.bool (actsF s true), Value.pointer (some ⟨r, 0, none⟩), Value.bool (actsF s true), Value.bool false, Value.bool false, Value.bool false, Value.pointer (some ⟨c, 0, none⟩), Value.bool (actsF s false), Value.pointer (some ⟨r, 0, none⟩), Value.bool (actsF s false), Value.bool false, Value.bool false, Value.bool false, Value.pointer (some ⟨c, 0, none⟩), Value.int IntKind.i64 (s.L.length : Nat), Value.pointer (some ⟨r, 0, none⟩), Value.pointer (some ⟨r, 0, none⟩), Value.pointer (some ⟨r, 4, none⟩), Value.slice a7 s.L.length cap7, Value.int IntKind.i64 (s.L.length : Nat), Value.bool false, Value.bool false, Value.pointer (some ⟨c, 0, none⟩), Value.func (Fn.func 40) #[] #[Value.pointer (some ⟨w2.heap.size, 0, none⟩)], Value.func (Fn.func 40) #[] #[Value.pointer (some ⟨w2.heap.size, 0, none⟩)], Value.bool false, v73, v74, v75, v76, v77, v78, v79, v80, v81, v82, v83, v84, v85, v86, v87, v88, v89, v90, v91, v92, v93, v94, v95, v96, v97, v98, v99, v100, v101, v102, v103, v104, v105, v106, v107, v108, v109, v110, v111, v112, v113, v114, v115, v116, v117, v118, v119, v120, v121, v122, v123, v124, v125, v126, v127, v128, v129, v130, v131, v132, v133, v134, v135, v136, v137, v138, v139, v140, v141, v142], defers := Ds.map mkD } ∧ T ≤ 2 ∧ Ds.length = T ∧ TurnW w W' r c w2.heap.size ct T leave Ds) (fun a' _ => 2 - a'.defers.length) ?start ?round
  case start => exact ⟨0, w3.heap.size, [], undef, undef, undef, undef, undef, undef, undef, undef, undef, undef, undef, undef, undef, undef, undef, undef, undef, undef, undef, undef, undef, undef, undef, undef, undef, undef, undef, undef, undef, undef, undef, undef, undef, undef, undef, undef, undef, undef, undef, undef, undef, undef, undef, undef, undef, undef, undef, undef, undef, undef, undef, undef, undef, undef, undef, undef, undef, undef, undef, undef, undef, undef, undef, undef, undef, undef, undef, undef, undef, undef, undef, undef, rfl, by omega, rfl, hT0⟩
  case round =>
    clear hT0 hW3 HCAP
    rintro _ W5 ⟨T, ct, Ds, v9, v10, v73, v74, v75, v76, v77, v78, v79, v80, v81, v82, v83, v84, v85, v86, v87, v88, v89, v90, v91, v92, v93, v94, v95, v96, v97, v98, v99, v100, v101, v102, v103, v104, v105, v106, v107, v108, v109, v110, v111, v112, v113, v114, v115, v116, v117, v118, v119, v120, v121, v122, v123, v124, v125, v126, v127, v128, v129, v130, v131, v132, v133, v134, v135, v136, v137, v138, v139, v140, v141, v142, rfl, hT9, hDs, hW⟩
    have hD := H.out.reads hW.st.below
    have gt := has_cell 0 hW.ct rfl
    by_cases hT2 : T = 2
    · subst hT2
      match Ds, hDs with
      | [D2, D1], _ =>
        have f8 := has_free hW.st.bo
        have c8 := has_cell 0 hW.st.bo rfl
        have u8 := (Upd.refl hW.st.bo).setCell 0 (.bool true)
        have m2 := u8.other (hW.marks D2 (by simp)) (by have := hW.lo D2 (by simp); omega)
        have m1 := u8.other (hW.marks D1 (by simp)) (by have := hW.lo D1 (by simp); omega)
        have n12 : D1 ≠ D2 := fun e => by have := hW.nd; simp at this; exact this e.symm
        have bl := hW.st.below.trans (u8.below (by omega) hW.st.below.size)
        have lo1 := hW.lo D1 (by simp)
        have lo2 := hW.lo D2 (by simp)
        have r8 := u8.1
        simp only [List.setIfInBounds_toArray, List.set_cons_zero] at r8
        go_wp2_with fail
        refine ⟨by simp, .inl ⟨_, _, rfl, run_takeDeferred m2, by simp, .inl ⟨_, _, rfl, run_takeDeferred ((World.putObj_heap_other n12).trans m1), ?_⟩⟩⟩
        have q1 := has_cell (w := World.putObj (World.putObj _ D2 (.deferred none)) D1 (.deferred none)) (b := w.heap.size + 2) 0 (v := .bool true) ((World.putObj_heap_other (by omega)).trans ((World.putObj_heap_other (by omega)).trans r8)) rfl
        refine ⟨.bool true, ?_, rfl, below_mark (below_mark bl (by omega) m2 _) (by omega) ((World.putObj_heap_other n12).trans m1) _⟩
        simp [results, Try.f24, go_sem, q1]
    · have hT1 : T = 0 ∨ T = 1 := by omega
      rcases hT1 with rfl | rfl
      · go_wp2_with fail
        have hz5 := hW.st.below.size
        have hb5 := has_lt hW.st.bo
        have hl1 := has_lt hW.cap
        have hl6 := has_lt hD.can
        have hl2' := has_lt hW.ct
        have hl3 : ∀ D ∈ Ds, D < W5.heap.size := fun D hD => has_lt (hW.marks D hD)
        refine world_wp (fun W => TurnW w W r c w2.heap.size ct 0 leave Ds ∧ W.heap[W5.heap.size]? = some (.cells #[.int .i64 0] 3 (0, 0)))
          ⟨hW.reads ((Below.refl _ _).alloc (Nat.le_refl _) _), heap_alloc_new _ _⟩ ?_
        rintro W6 ⟨hW6, hk⟩
        have hD6 := H.out.reads hW6.st.below
        have hl4 := has_lt hk
        clear hW hD gt
        refine (wpIn_wide (n := 4)).1 ?_
        refine named ?_
        intro fa hfa
        refine wpIn_rangeFunc_ownH rfl (by decide) (gf := 40) (lb := #[.pointer (some ⟨w2.heap.size, 0, none⟩)]) (by rw [hfa]; rfl) trivial enters40
          (all_stops 3 (by decide) c (w2.heap.size) s W6 hD6.can hW6.cap hT) keep2_t (keep2_b (by omega) (by omega)) (Below.refl _ _) (fun _ => rfl)
          (fun (pre : List (Int × Int)) (W : World) => TurnW w W r c w2.heap.size ct 0 leave Ds ∧ W.heap[W5.heap.size]? = some (.cells #[.int .i64 (pre.length : Nat)] 3 (0, 0)))
          (fun (k : Code) (pre : List (Int × Int)) (W : World) => (k = .ret ∧ ¬ pre <+: s.L.reverse) ∨ (k = .exit 2 ∧ (0 : Nat) = 0 ∧ TurnW w W r c w2.heap.size ct 0 leave Ds ∧ W.heap[W5.heap.size]? = some (.cells #[.int .i64 leave] 3 (0, 0))))
          ((turn_own (by omega) (by omega) (by omega) (fun D hD => by have := hl3 D hD; omega)).and (own_has (by omega) _))
          (fun k s' X Y row h hg hr => h.elim .inl fun h => .inr ⟨h.1, h.2.1, turn_own (β := Unit) (B := W6.heap.size) (by omega) (by omega) (by omega) (fun D hD => by have := hl3 D hD; omega) () X Y row h.2.2.1 hg hr, own_at (B := W6.heap.size) (by omega) h.2.2.2 hg hr⟩)
          ⟨hW6, hk⟩
          (fun x a' W => BoxAt fa x a' W) (fun x a' => box_own fa x a')
          ?assign ?body ?done ?stop
        case assign =>
          rintro l' pre x W K ⟨hT7, hk7⟩ hK
          subst hfa
          simp only [encX, zip1, fold1, List.setIfInBounds_toArray, List.set_cons_succ, List.set_cons_zero]
          gi_wp2
          exact hK _ _ ((KeepsOthers.alloc _ _).from _) ⟨Below.heap_alloc _ _ _ (has_lt (H.out.reads hT7.st.below).can), Below.heap_alloc _ _ _ (has_lt hT7.cap)⟩ ⟨hT7.reads ((Below.refl _ _).alloc (Nat.le_refl _) _), below_alloc_has hk7⟩ ⟨W.heap.size, by simp only [List.setIfInBounds_toArray, List.set_cons_succ, List.set_cons_zero], heap_alloc_new _ _⟩
        case body =>
          rintro l' pre x a' W hl0 _ ⟨hT7, hk7⟩ ⟨xb, rfl, hxb⟩ hlen
          subst hfa
          simp only [List.setIfInBounds_toArray, List.set_cons_succ, List.set_cons_zero]
          have hD7 := H.out.reads hT7.st.below
          have g0 := has_cell 0 hT7.st.br rfl
          have gl := has_cell 0 hT7.st.bl rfl
          have gt := has_cell 0 hT7.ct rfl
          have gk := has_cell 0 hk7 rfl
          have gr := has_cell 4 hD7.ref.ref rfl
          have x0 := has_cell 0 hxb rfl
          have x1 := has_cell 1 hxb rfl
          have f1 := has_free hT7.st.bo
          have f2 := has_free hk7
          have c6 := has_cell 0 hT7.st.bo rfl
          have HGS := Lib.hid (good_step (L := s.L) (pre := pre) (x := x))
          by_cases b1 : pre.length < s.L.length
          · obtain ⟨a9, cap9, e9, k9⟩ := own_row hD7.ref.own hD7.ref.nil
            injection e9 with e1 e0 e2
            clear e0
            subst e1
            subst e2
            obtain ⟨g, rfl, _, hg, hcc, kc⟩ := k9 (by omega)
            obtain ⟨n, hn⟩ : ∃ n, n = s.L.length - 1 - pre.length := ⟨_, rfl⟩
            obtain ⟨d0, d1⟩ := kc n (by omega)
            have hne := neq30 x.1 (at0 s.L n) x.2 (at1 s.L n)
            have hi1 : (n : Int) < (s.L.length : Int) := by omega
            have hi2 : (0 : Int) ≤ (n : Int) := by omega
            have hw1 : IntKind.i64.wrap ((s.L.length : Int) - 1) = (s.L.length : Int) - 1 := IntWalk.i64_in _ (by omega)
            have hw2 : IntKind.i64.wrap ((s.L.length : Int) - 1 - (pre.length : Int)) = (n : Int) := by rw [show (s.L.length : Int) - 1 - (pre.length : Int) = n by omega]; exact IntWalk.i64_in _ (by omega)
            have hge : decide (s.L.length ≤ pre.length) = false := by simp; omega
            have HN := Lib.hid hn
            clear hn k9 kc
            by_cases b3 : (x.1, x.2) = (at0 s.L n, at1 s.L n)
            · rw [decide_eq_true b3] at hne
              have hw : IntKind.i64.wrap ((pre.length : Int) + 1) = (pre.length : Int) + 1 := IntWalk.i64_in _ (by omega)
              clear b3
              by_cases b4 : (pre.length : Int) + 1 = leave
              · have b4' : ((pre.length : Int) + 1 == leave) = true := by simpa using b4
                have B4 := Lib.hid b4
                clear b4
                gi_wp2_with fail
                refine region_quietR (by kernel_rfl) (by kernel_rfl) (by kernel_rfl) ?_
                repeat (gi_big_quiet_step (fail))
                refine wpQuietIn_nil ?_
                intro _ hw'
                obtain ⟨nq, hw''⟩ := hw'
                subst hw''
                have U1 := ((Upd.refl hk7).drewN nq).setCell 0 (.int .i64 ((pre.length : Int) + 1))
                have k1 := U1.1
                simp only [List.setIfInBounds_toArray, List.set_cons_zero] at k1
                have hT8 := hT7.upd U1 (by omega) (by omega) (by omega) (fun D hD => by have := hl3 D hD; omega)
                gi_wp2
                exact ⟨(KeepsFrom.trans (keeps_drewN _ _ nq) ((KeepsOthers.setCell _ _ _).from _)), .inr ⟨rfl, by simp, hT8, k1.trans (by rw [B4.out])⟩⟩
              · have b4' : ((pre.length : Int) + 1 == leave) = false := by simpa using b4
                clear b4
                gi_wp2_with fail
                refine region_quietR (by kernel_rfl) (by kernel_rfl) (by kernel_rfl) ?_
                repeat (gi_big_quiet_step (fail))
                refine wpQuietIn_nil ?_
                intro _ hw'
                obtain ⟨nq, hw''⟩ := hw'
                subst hw''
                have U1 := ((Upd.refl hk7).drewN nq).setCell 0 (.int .i64 ((pre.length : Int) + 1))
                have k1 := U1.1
                simp only [List.setIfInBounds_toArray, List.set_cons_zero] at k1
                have hT8 := hT7.upd U1 (by omega) (by omega) (by omega) (fun D hD => by have := hl3 D hD; omega)
                gi_wp2
                exact ⟨(KeepsFrom.trans (keeps_drewN _ _ nq) ((KeepsOthers.setCell _ _ _).from _)), ⟨(Below.heap_setCell _ _ _ _ (by simp; omega)), (Below.heap_setCell _ _ _ _ (by simp; omega))⟩, hT8, by simpa using k1⟩
            · have B3 := Lib.hid b3
              rw [decide_eq_false b3] at hne
              clear b3
              gi_wp2_with fail
              refine region_quietR (by kernel_rfl) (by kernel_rfl) (by kernel_rfl) ?_
              repeat (gi_big_quiet_step (fail))
              refine wpQuietIn_nil ?_
              intro _ hw'
              obtain ⟨nq, hw''⟩ := hw'
              subst hw''
              gi_wp2
              exact ⟨(KeepsFrom.trans (keeps_drewN _ _ nq) ((KeepsOthers.setCell _ _ _).from _)), .inl ⟨rfl, fun h => by have h := HGS.out h; have h2 := h.2; rw [← HN.out] at h2; exact B3.out h2⟩⟩
          · have hge : decide (s.L.length ≤ pre.length) = true := by simp; omega
            gi_wp2_with fail
            refine region_quietR (by kernel_rfl) (by kernel_rfl) (by kernel_rfl) ?_
            repeat (gi_big_quiet_step (fail))
            refine wpQuietIn_nil ?_
            intro _ hw'
            obtain ⟨nq, hw''⟩ := hw'
            subst hw''
            gi_wp2
            exact ⟨(KeepsFrom.trans (keeps_drewN _ _ nq) ((KeepsOthers.setCell _ _ _).from _)), .inl ⟨rfl, fun h => by have h := HGS.out h; exact b1 h.1⟩⟩
        case done =>
          rintro D ys W hD0 rfl ⟨hT7, hk7⟩ hK
          subst hfa
          rw [List.length_reverse] at hk7
          have hD7 := H.out.reads hT7.st.below
          have g0 := has_cell 0 hT7.st.br rfl
          have gl := has_cell 0 hT7.st.bl rfl
          have gt := has_cell 0 hT7.ct rfl
          have gk := has_cell 0 hk7 rfl
          have gr := has_cell 4 hD7.ref.ref rfl
          go_upto_region 16 with fail
          go_quiet (fail)
          go_upto_region 18 with fail
          refine world_wp (fun W9 => TurnW w W9 r c w2.heap.size ct 0 leave Ds ∧ W9.heap[D]? = some (.deferred (some []))) ⟨hT7.reads (below_drewN (Below.refl _ _) nq), hK⟩ ?_
          rintro W9 ⟨hT9', hK9⟩
          have gt := has_cell 0 hT9'.ct rfl
          go_wp2_with fail
          first | exact ⟨1, _, D :: Ds, ⟨rfl, rfl⟩, by omega, by simp [hDs], turn_next hT9' hK9 (by omega) (fun D' hD' => by have := hl3 D' hD'; omega)⟩ | exact ⟨⟨1, _, D :: Ds, _, _, _, _, _, _, _, _, _, _, _, _, _, _, _, _, _, _, _, _, _, _, _, _, _, _, _, _, _, _, _, _, _, _, _, _, _, _, _, _, _, _, _, _, _, _, _, _, _, _, _, _, _, _, _, _, _, _, _, _, _, _, _, _, _, _, _, _, _, _, _, _, rfl, by omega, by simp [hDs], turn_next hT9' hK9 (by omega) (fun D' hD' => by have := hl3 D' hD'; omega)⟩, by simp [hDs]⟩
        case stop =>
          rintro D k pre W hD0 hpre (⟨rfl, hn⟩ | ⟨rfl, ht0, hT7, hk7⟩) hK
          · exact absurd hpre hn
          · subst hfa
            refine wpIn_wide.2 ?_
            have hD7 := H.out.reads hT7.st.below
            have g0 := has_cell 0 hT7.st.br rfl
            have gl := has_cell 0 hT7.st.bl rfl
            have gt := has_cell 0 hT7.ct rfl
            have gk := has_cell 0 hk7 rfl
            have gr := has_cell 4 hD7.ref.ref rfl
            by_cases hlm : leave = (s.L.length : Int)
            · subst hlm
              go_upto_region 16 with fail
              go_quiet (fail)
              go_upto_region 18 with fail
              refine world_wp (fun W9 => TurnW w W9 r c w2.heap.size ct 0 (s.L.length : Int) Ds ∧ W9.heap[D]? = some (.deferred (some []))) ⟨hT7.reads (below_drewN (Below.refl _ _) nq), hK⟩ ?_
              rintro W9 ⟨hT9', hK9⟩
              have gt := has_cell 0 hT9'.ct rfl
              go_wp2_with fail
              first | exact ⟨1, _, D :: Ds, ⟨rfl, rfl⟩, by omega, by simp [hDs], turn_next hT9' hK9 (by omega) (fun D' hD' => by have := hl3 D' hD'; omega)⟩ | exact ⟨⟨1, _, D :: Ds, _, _, _, _, _, _, _, _, _, _, _, _, _, _, _, _, _, _, _, _, _, _, _, _, _, _, _, _, _, _, _, _, _, _, _, _, _, _, _, _, _, _, _, _, _, _, _, _, _, _, _, _, _, _, _, _, _, _, _, _, _, _, _, _, _, _, _, _, _, _, _, _, rfl, by omega, by simp [hDs], turn_next hT9' hK9 (by omega) (fun D' hD' => by have := hl3 D' hD'; omega)⟩, by simp [hDs]⟩
            · have b5 : (leave != (s.L.length : Int)) = true := by simpa using hlm
              have b6 : (leave == (s.L.length : Int)) = false := by simpa using hlm
              go_upto_region 16 with fail
              go_quiet (fail)
              go_upto_region 18 with fail
              refine world_wp (fun W9 => TurnW w W9 r c w2.heap.size ct 0 leave Ds ∧ W9.heap[D]? = some (.deferred (some []))) ⟨hT7.reads (below_drewN (Below.refl _ _) nq), hK⟩ ?_
              rintro W9 ⟨hT9', hK9⟩
              have gt := has_cell 0 hT9'.ct rfl
              go_wp2_with fail
              first | exact ⟨1, _, D :: Ds, ⟨rfl, rfl⟩, by omega, by simp [hDs], turn_next hT9' hK9 (by omega) (fun D' hD' => by have := hl3 D' hD'; omega)⟩ | exact ⟨⟨1, _, D :: Ds, _, _, _, _, _, _, _, _, _, _, _, _, _, _, _, _, _, _, _, _, _, _, _, _, _, _, _, _, _, _, _, _, _, _, _, _, _, _, _, _, _, _, _, _, _, _, _, _, _, _, _, _, _, _, _, _, _, _, _, _, _, _, _, _, _, _, _, _, _, _, _, _, rfl, by omega, by simp [hDs], turn_next hT9' hK9 (by omega) (fun D' hD' => by have := hl3 D' hD'; omega)⟩, by simp [hDs]⟩
      · go_wp2_with fail
        have hz5 := hW.st.below.size
        have hb5 := has_lt hW.st.bo
        have hl1 := has_lt hW.cap
        have hl6 := has_lt hD.can
        have hl2' := has_lt hW.ct
        have hl3 : ∀ D ∈ Ds, D < W5.heap.size := fun D hD => has_lt (hW.marks D hD)
        refine world_wp (fun W => TurnW w W r c w2.heap.size ct 1 leave Ds ∧ W.heap[W5.heap.size]? = some (.cells #[.int .i64 0] 3 (0, 0)))
          ⟨hW.reads ((Below.refl _ _).alloc (Nat.le_refl _) _), heap_alloc_new _ _⟩ ?_
        rintro W6 ⟨hW6, hk⟩
        have hD6 := H.out.reads hW6.st.below
        have hl4 := has_lt hk
        clear hW hD gt
        refine (wpIn_wide (n := 4)).1 ?_
        refine named ?_
        intro fa hfa
        refine wpIn_rangeFunc_ownH rfl (by decide) (gf := 40) (lb := #[.pointer (some ⟨w2.heap.size, 0, none⟩)]) (by rw [hfa]; rfl) trivial enters40
          (all_stops 3 (by decide) c (w2.heap.size) s W6 hD6.can hW6.cap hT) keep2_t (keep2_b (by omega) (by omega)) (Below.refl _ _) (fun _ => rfl)
          (fun (pre : List (Int × Int)) (W : World) => TurnW w W r c w2.heap.size ct 1 leave Ds ∧ W.heap[W5.heap.size]? = some (.cells #[.int .i64 (pre.length : Nat)] 3 (0, 0)))
          (fun (k : Code) (pre : List (Int × Int)) (W : World) => (k = .ret ∧ ¬ pre <+: s.L.reverse) ∨ (k = .exit 2 ∧ (1 : Nat) = 0 ∧ TurnW w W r c w2.heap.size ct 1 leave Ds ∧ W.heap[W5.heap.size]? = some (.cells #[.int .i64 leave] 3 (0, 0))))
          ((turn_own (by omega) (by omega) (by omega) (fun D hD => by have := hl3 D hD; omega)).and (own_has (by omega) _))
          (fun k s' X Y row h hg hr => h.elim .inl fun h => .inr ⟨h.1, h.2.1, turn_own (β := Unit) (B := W6.heap.size) (by omega) (by omega) (by omega) (fun D hD => by have := hl3 D hD; omega) () X Y row h.2.2.1 hg hr, own_at (B := W6.heap.size) (by omega) h.2.2.2 hg hr⟩)
          ⟨hW6, hk⟩
          (fun x a' W => BoxAt fa x a' W) (fun x a' => box_own fa x a')
          ?assign ?body ?done ?stop
        case assign =>
          rintro l' pre x W K ⟨hT7, hk7⟩ hK
          subst hfa
          simp only [encX, zip1, fold1, List.setIfInBounds_toArray, List.set_cons_succ, List.set_cons_zero]
          gi_wp2
          exact hK _ _ ((KeepsOthers.alloc _ _).from _) ⟨Below.heap_alloc _ _ _ (has_lt (H.out.reads hT7.st.below).can), Below.heap_alloc _ _ _ (has_lt hT7.cap)⟩ ⟨hT7.reads ((Below.refl _ _).alloc (Nat.le_refl _) _), below_alloc_has hk7⟩ ⟨W.heap.size, by simp only [List.setIfInBounds_toArray, List.set_cons_succ, List.set_cons_zero], heap_alloc_new _ _⟩
        case body =>
          rintro l' pre x a' W hl0 _ ⟨hT7, hk7⟩ ⟨xb, rfl, hxb⟩ hlen
          subst hfa
          simp only [List.setIfInBounds_toArray, List.set_cons_succ, List.set_cons_zero]
          have hD7 := H.out.reads hT7.st.below
          have g0 := has_cell 0 hT7.st.br rfl
          have gl := has_cell 0 hT7.st.bl rfl
          have gt := has_cell 0 hT7.ct rfl
          have gk := has_cell 0 hk7 rfl
          have gr := has_cell 4 hD7.ref.ref rfl
          have x0 := has_cell 0 hxb rfl
          have x1 := has_cell 1 hxb rfl
          have f1 := has_free hT7.st.bo
          have f2 := has_free hk7
          have c6 := has_cell 0 hT7.st.bo rfl
          have HGS := Lib.hid (good_step (L := s.L) (pre := pre) (x := x))
          by_cases b1 : pre.length < s.L.length
          · obtain ⟨a9, cap9, e9, k9⟩ := own_row hD7.ref.own hD7.ref.nil
            injection e9 with e1 e0 e2
            clear e0
            subst e1
            subst e2
            obtain ⟨g, rfl, _, hg, hcc, kc⟩ := k9 (by omega)
            obtain ⟨n, hn⟩ : ∃ n, n = s.L.length - 1 - pre.length := ⟨_, rfl⟩
            obtain ⟨d0, d1⟩ := kc n (by omega)
            have hne := neq30 x.1 (at0 s.L n) x.2 (at1 s.L n)
            have hi1 : (n : Int) < (s.L.length : Int) := by omega
            have hi2 : (0 : Int) ≤ (n : Int) := by omega
            have hw1 : IntKind.i64.wrap ((s.L.length : Int) - 1) = (s.L.length : Int) - 1 := IntWalk.i64_in _ (by omega)
            have hw2 : IntKind.i64.wrap ((s.L.length : Int) - 1 - (pre.length : Int)) = (n : Int) := by rw [show (s.L.length : Int) - 1 - (pre.length : Int) = n by omega]; exact IntWalk.i64_in _ (by omega)
            have hge : decide (s.L.length ≤ pre.length) = false := by simp; omega
            have HN := Lib.hid hn
            clear hn k9 kc
            by_cases b3 : (x.1, x.2) = (at0 s.L n, at1 s.L n)
            · rw [decide_eq_true b3] at hne
              have hw : IntKind.i64.wrap ((pre.length : Int) + 1) = (pre.length : Int) + 1 := IntWalk.i64_in _ (by omega)
              clear b3
              by_cases b4 : (pre.length : Int) + 1 = leave
              · have b4' : ((pre.length : Int) + 1 == leave) = true := by simpa using b4
                have B4 := Lib.hid b4
                clear b4
                gi_wp2_with fail
                refine region_quietR (by kernel_rfl) (by kernel_rfl) (by kernel_rfl) ?_
                repeat (gi_big_quiet_step (fail))
                refine wpQuietIn_nil ?_
                intro _ hw'
                obtain ⟨nq, hw''⟩ := hw'
                subst hw''
                have U1 := ((Upd.refl hk7).drewN nq).setCell 0 (.int .i64 ((pre.length : Int) + 1))
                have k1 := U1.1
                simp only [List.setIfInBounds_toArray, List.set_cons_zero] at k1
                have hT8 := hT7.upd U1 (by omega) (by omega) (by omega) (fun D hD => by have := hl3 D hD; omega)
                gi_wp2
                exact ⟨(KeepsFrom.trans (keeps_drewN _ _ nq) ((KeepsOthers.setCell _ _ _).from _)), ⟨(Below.heap_setCell _ _ _ _ (by simp; omega)), (Below.heap_setCell _ _ _ _ (by simp; omega))⟩, hT8, by simpa using k1⟩
              · have b4' : ((pre.length : Int) + 1 == leave) = false := by simpa using b4
                clear b4
                gi_wp2_with fail
                refine region_quietR (by kernel_rfl) (by kernel_rfl) (by kernel_rfl) ?_
                repeat (gi_big_quiet_step (fail))
                refine wpQuietIn_nil ?_
                intro _ hw'
                obtain ⟨nq, hw''⟩ := hw'
                subst hw''
                have U1 := ((Upd.refl hk7).drewN nq).setCell 0 (.int .i64 ((pre.length : Int) + 1))
                have k1 := U1.1
                simp only [List.setIfInBounds_toArray, List.set_cons_zero] at k1
                have hT8 := hT7.upd U1 (by omega) (by omega) (by omega) (fun D hD => by have := hl3 D hD; omega)
                gi_wp2
                exact ⟨(KeepsFrom.trans (keeps_drewN _ _ nq) ((KeepsOthers.setCell _ _ _).from _)), ⟨(Below.heap_setCell _ _ _ _ (by simp; omega)), (Below.heap_setCell _ _ _ _ (by simp; omega))⟩, hT8, by simpa using k1⟩
            · have B3 := Lib.hid b3
              rw [decide_eq_false b3] at hne
              clear b3
              gi_wp2_with fail
              refine region_quietR (by kernel_rfl) (by kernel_rfl) (by kernel_rfl) ?_
              repeat (gi_big_quiet_step (fail))
              refine wpQuietIn_nil ?_
              intro _ hw'
              obtain ⟨nq, hw''⟩ := hw'
              subst hw''
              gi_wp2
              exact ⟨(KeepsFrom.trans (keeps_drewN _ _ nq) ((KeepsOthers.setCell _ _ _).from _)), .inl ⟨rfl, fun h => by have h := HGS.out h; have h2 := h.2; rw [← HN.out] at h2; exact B3.out h2⟩⟩
          · have hge : decide (s.L.length ≤ pre.length) = true := by simp; omega
            gi_wp2_with fail
            refine region_quietR (by kernel_rfl) (by kernel_rfl) (by kernel_rfl) ?_
            repeat (gi_big_quiet_step (fail))
            refine wpQuietIn_nil ?_
            intro _ hw'
            obtain ⟨nq, hw''⟩ := hw'
            subst hw''
            gi_wp2
            exact ⟨(KeepsFrom.trans (keeps_drewN _ _ nq) ((KeepsOthers.setCell _ _ _).from _)), .inl ⟨rfl, fun h => by have h := HGS.out h; exact b1 h.1⟩⟩
        case done =>
          rintro D ys W hD0 rfl ⟨hT7, hk7⟩ hK
          subst hfa
          rw [List.length_reverse] at hk7
          have hD7 := H.out.reads hT7.st.below
          have g0 := has_cell 0 hT7.st.br rfl
          have gl := has_cell 0 hT7.st.bl rfl
          have gt := has_cell 0 hT7.ct rfl
          have gk := has_cell 0 hk7 rfl
          have gr := has_cell 4 hD7.ref.ref rfl
          go_upto_region 16 with fail
          go_quiet (fail)
          go_upto_region 18 with fail
          refine world_wp (fun W9 => TurnW w W9 r c w2.heap.size ct 1 leave Ds ∧ W9.heap[D]? = some (.deferred (some []))) ⟨hT7.reads (below_drewN (Below.refl _ _) nq), hK⟩ ?_
          rintro W9 ⟨hT9', hK9⟩
          have gt := has_cell 0 hT9'.ct rfl
          go_wp2_with fail
          first | exact ⟨2, _, D :: Ds, ⟨rfl, rfl⟩, by omega, by simp [hDs], turn_next hT9' hK9 (by omega) (fun D' hD' => by have := hl3 D' hD'; omega)⟩ | exact ⟨⟨2, _, D :: Ds, _, _, _, _, _, _, _, _, _, _, _, _, _, _, _, _, _, _, _, _, _, _, _, _, _, _, _, _, _, _, _, _, _, _, _, _, _, _, _, _, _, _, _, _, _, _, _, _, _, _, _, _, _, _, _, _, _, _, _, _, _, _, _, _, _, _, _, _, _, _, _, _, rfl, by omega, by simp [hDs], turn_next hT9' hK9 (by omega) (fun D' hD' => by have := hl3 D' hD'; omega)⟩, by simp [hDs]⟩
        case stop =>
          rintro D k pre W hD0 hpre (⟨rfl, hn⟩ | ⟨rfl, ht0, hT7, hk7⟩) hK
          · exact absurd hpre hn
          · cases ht0
end Go.Proofs.Ytdpeccbdacdkiaa
