/- Graphs that are not there, and the walk of InheritNil: it returns true, and turns nothing that was there. Conditions: none. -/
import Derived.Test.YtkjcchepgpbiiaaC12Known
namespace Go.Proofs.Ytkjcchepgpbiiaa
open Go.RowKit Go.Shelf
attribute [local go_sem] Oper.semAt_some wide_fn wide_round_fn

/-- A graph that is not there, or that New has not made. -/
def Gone (w : World) (a : Option Addr) : Prop := a = none ∨ ∃ b, a = some ⟨b, 0, none⟩ ∧ w.cell? ⟨b, 0, none⟩ = some (.int .i64 0)
theorem Gone.reads {w w' : World} {a : Option Addr} (h : Gone w a) (hb : Below w.heap.size w w') : Gone w' a := by
  rcases h with rfl | ⟨b, rfl, hc⟩
  · exact .inl rfl
  · exact .inr ⟨b, rfl, (hb.cell (p := ⟨b, 0, none⟩) (World.block_lt_of_cell? w ⟨b, 0, none⟩ hc)).trans hc⟩
theorem gis_c (w : World) (a : Option Addr) (h : Gone w a) : Calls Try.prog 24 #[.pointer a] w fun e w' => e = .returned (.bool false) ∧ w = w' := by
  rcases h with rfl | ⟨b, rfl, hc⟩
  · go_enter Try.func24, Try.ntmps24
    go_wp2
    go_ret
    exact ⟨rfl, rfl⟩
  · go_enter Try.func24, Try.ntmps24
    go_wp2
    go_ret
    exact ⟨rfl, rfl⟩
theorem gmay_c (w : World) (a : Option Addr) (t : Int) (y : Bool) (h : Gone w a) : Calls Try.prog 29 #[.pointer a, .int .i64 t, .bool y] w fun e w' => e = .returned (.int .i64 1) ∧ w = w' := by
  go_enter Try.func29, Try.ntmps29
  go_wp2_with (go_at_call 24; refine (gis_c _ _ h).mono ?_; rintro e w' ⟨rfl, rfl⟩)
  go_ret
  exact ⟨rfl, rfl⟩
theorem gbase_c (w : World) (a : Option Addr) (t p : Int) (h : Gone w a) : Calls Try.prog 15 #[.pointer a, .int .i64 t, .int .i64 p] w fun e w' => e = .returned (.int .i64 1) ∧ w = w' := by
  obtain ⟨y, hy⟩ : ∃ y, prioF p = y := ⟨_, rfl⟩
  go_enter Try.func15, Try.ntmps15
  go_wp2_with (first | (go_at_call 30; refine (prio_c _ _ hy).mono ?_; rintro e w' ⟨rfl, rfl⟩) | (go_at_call 29; refine (gmay_c _ _ _ _ h).mono ?_; rintro e w' ⟨rfl, rfl⟩))
  go_ret
  exact ⟨rfl, rfl⟩
theorem gceil_c (w : World) (a : Option Addr) (t p : Int) (h : Gone w a) : Calls Try.prog 16 #[.pointer a, .int .i64 t, .int .i64 p] w fun e w' => e = .returned (.int .i64 1) ∧ w = w' := by
  obtain ⟨y, hy⟩ : ∃ y, prioF p = y := ⟨_, rfl⟩
  go_enter Try.func16, Try.ntmps16
  go_wp2_with (first | (go_at_call 30; refine (prio_c _ _ hy).mono ?_; rintro e w' ⟨rfl, rfl⟩) | (go_at_call 29; refine (gmay_c _ _ _ _ h).mono ?_; rintro e w' ⟨rfl, rfl⟩))
  go_ret
  exact ⟨rfl, rfl⟩
theorem gwaits_c (w : World) (a : Option Addr) (t o : Int) (h : Gone w a) : Calls Try.prog 17 #[.pointer a, .int .i64 t, .int .i64 o] w fun e w' => e = .returned (.int .i64 1) ∧ w = w' := by
  go_enter Try.func17, Try.ntmps17
  go_wp2_with (first | (go_at_call 24; refine (gis_c _ _ h).mono ?_; rintro e w' ⟨rfl, rfl⟩) | (go_at_call 29; refine (gmay_c _ _ _ _ h).mono ?_; rintro e w' ⟨rfl, rfl⟩))
  go_ret
  exact ⟨rfl, rfl⟩
theorem gofn_c (w : World) (a : Option Addr) (t : Int) (h : Gone w a) : Calls Try.prog 18 #[.pointer a, .int .i64 t] w fun e w' => e = .returned (.tuple #[.int .i64 0, .bool false]) ∧ w = w' := by
  go_enter Try.func18, Try.ntmps18
  go_wp2_with (go_at_call 24; refine (gis_c _ _ h).mono ?_; rintro e w' ⟨rfl, rfl⟩)
  go_ret2
  exact ⟨rfl, rfl⟩
theorem gring_c (w : World) (a : Option Addr) (t : Int) (h : Gone w a) : Calls Try.prog 13 #[.pointer a, .int .i64 t] w fun e w' => e = .returned (.tuple #[.slice none 0 0, .bool false]) ∧ w = w' := by
  go_enter Try.func13, Try.ntmps13
  go_wp2_with (go_at_call 24; refine (gis_c _ _ h).mono ?_; rintro e w' ⟨rfl, rfl⟩)
  go_ret2
  exact ⟨rfl, rfl⟩
theorem gall_none (w : World) (a : Option Addr) (h : Gone w a) : Calls Try.prog 12 #[.pointer a] w fun e w' => e = .returned (.slice none 0 0) ∧ w = w' := by
  go_enter Try.func12, Try.ntmps12
  go_wp2_with (go_at_call 24; refine (gis_c _ _ h).mono ?_; rintro e w' ⟨rfl, rfl⟩)
  go_ret
  exact ⟨rfl, rfl⟩
theorem gcopy_none (w : World) (a : Option Addr) (h : Gone w a) : Calls Try.prog 19 #[.pointer a] w fun e w' => e = .returned (.pointer none) ∧ w = w' := by
  go_enter Try.func19, Try.ntmps19
  go_wp2_with (go_at_call 24; refine (gis_c _ _ h).mono ?_; rintro e w' ⟨rfl, rfl⟩)
  go_ret
  exact ⟨rfl, rfl⟩
theorem gfor_c (w : World) (a : Option Addr) (t : Int) (h : Gone w a) : Calls Try.prog 21 #[.pointer a, .int .i64 t] w fun e w' => e = .returned (.func (.func 31) #[] #[.pointer (some ⟨w.heap.size, 0, none⟩)]) ∧ w'.heap[w.heap.size]? = some (.cells #[.slice none 0 0] 33 (0, 0)) ∧ Below w.heap.size w w' := by
  go_enter Try.func21, Try.ntmps21
  go_upto_region 2 with fail
  refine world_wp (fun W => Below w.heap.size w W ∧ W.heap[w.heap.size]? = some (.cells #[.slice none 0 0] 33 (0, 0))) ⟨(Below.refl _ _).alloc (Nat.le_refl _) _, heap_alloc_new _ _⟩ ?_
  rintro W ⟨hB, hX⟩
  have hG := h.reads hB
  go_wp2_with (go_at_call 24; refine (gis_c _ _ hG).mono ?_; rintro e w' ⟨rfl, rfl⟩)
  go_ret
  exact ⟨rfl, hX, hB⟩
theorem gsame_c (w : World) (a b : Option Addr) (h : Gone w a) (h' : Gone w b) : Calls Try.prog 20 #[.pointer a, .pointer b] w fun e w' => e = .returned (.bool true) ∧ w = w' := by
  have T1 := Lib.hid (gis_c w a h)
  have T2 := Lib.hid (gis_c w b h')
  go_enter Try.func20, Try.ntmps20
  go_wp2_with (go_at_call 24; first | ((with_reducible refine T1.out.mono ?_); rintro e w' ⟨rfl, rfl⟩) | ((with_reducible refine T2.out.mono ?_); rintro e w' ⟨rfl, rfl⟩))
  go_ret
  exact ⟨rfl, rfl⟩
theorem nsame_c (w : World) (b : Nat) (s : Gs) (h : w.heap[b]? = some (gO s)) (ok : GOk s) : Calls Try.prog 20 #[.pointer none, .pointer (some ⟨b, 0, none⟩)] w fun e w' => e = .returned (.bool false) ∧ w = w' := by
  have T1 := Lib.hid (gis_c w none (.inl rfl))
  have T2 := Lib.hid (is_c w b s h ok)
  go_enter Try.func20, Try.ntmps20
  go_wp2_with (go_at_call 24; first | ((with_reducible refine T1.out.mono ?_); rintro e w' ⟨rfl, rfl⟩) | ((with_reducible refine T2.out.mono ?_); rintro e w' ⟨rfl, rfl⟩))
  go_ret
  exact ⟨rfl, rfl⟩
theorem dsame_c (w : World) (b b' : Nat) (s s' : Gs) (h : w.heap[b]? = some (gO s)) (ok : GOk s) (h' : w.heap[b']? = some (gO s')) (ok' : GOk s') (hn : s.n ≠ s'.n) :
    Calls Try.prog 20 #[.pointer (some ⟨b, 0, none⟩), .pointer (some ⟨b', 0, none⟩)] w fun e w' => e = .returned (.bool false) ∧ Below w.heap.size w w' := by
  have T1 := Lib.hid (is_c w b s h ok)
  have T2 := Lib.hid (is_c w b' s' h' ok')
  have c := (g_cells h).1
  have c' := (g_cells h').1
  have hne : ((s.n : Int) == (s'.n : Int)) = false := by rw [beq_eq_false_iff_ne]; omega
  clear h h' hn
  go_enter Try.func20, Try.ntmps20
  go_wp2_with (go_at_call 24; first | ((with_reducible refine T1.out.mono ?_); rintro e w' ⟨rfl, rfl⟩) | ((with_reducible refine T2.out.mono ?_); rintro e w' ⟨rfl, rfl⟩))
  go_quiet (fail)
  go_wp2_with fail
  go_ret
  exact ⟨rfl, below_drewN (Below.refl _ _) _⟩
theorem for_none (n : Nat) (_ : 1 ≤ n) (c : Nat) (w : World) (hb : w.heap[c]? = some (.cells #[.slice none 0 0] 33 (0, 0))) :
    SeqStopsK Fence.wide n Try.prog 31 #[.pointer (some ⟨c, 0, none⟩)] encI (fun _ _ => True) (fun xs => xs = []) (fun _ => False) 0 w := by
  intro l J Jx W hW hJ hJx hY h0
  have hT := below_has hW hb
  refine callsIn_of_wp Try.func31 rfl trivial ?_ rfl
  simp only [Try.ntmps31, List.size_toArray, List.length_cons, List.length_nil, Nat.reduceAdd, Nat.reduceSub, Array.replicate_succ, Array.replicate_zero, List.push_toArray, List.append_toArray, List.nil_append, List.cons_append]
  have cb0 := has_cell 0 hT rfl
  gi_wp2
  gi_loopw [7] (fun i wr => i = .int .i64 0 ∧ J [] wr) (fun _ _ => 0)
  case atStart => exact ⟨rfl, h0⟩
  case round =>
    obtain ⟨rfl, hJ0⟩ := hrel
    gi_wp2
    go_end0
    exact ⟨⟨_, rfl⟩, .inl ⟨_, rfl, hJ0⟩⟩
def mkD (D : Nat) : Deferred := { target := .collected D, args := #[] }
/-- Between two turns. -/
structure NilW (w W : World) (Ds : List Nat) : Prop where
  below : Below w.heap.size w W
  res : W.heap[w.heap.size]? = some (.cells #[.bool false] 4 (0, 0))
  zero : W.heap[w.heap.size + 1]? = some (gO (newG 0))
  lst : W.heap[w.heap.size + 1 + 1]? = some (.cells #[.pointer none, .pointer (some ⟨w.heap.size + 1, 0, none⟩)] 23 (0, 0))
  marks : ∀ D ∈ Ds, W.heap[D]? = some (.deferred (some []))
  lo : ∀ D ∈ Ds, w.heap.size + 2 < D
  nd : Ds.Nodup
theorem NilW.reads {w W W' : World} {Ds : List Nat} (h : NilW w W Ds) (hb : Below W.heap.size W W') : NilW w W' Ds :=
  ⟨below_reads h.below hb h.below.size, below_has hb h.res, below_has hb h.zero, below_has hb h.lst, fun D hD => below_has hb (h.marks D hD), h.lo, h.nd⟩
theorem NilW.gone {w W : World} {Ds : List Nat} (h : NilW w W Ds) : Gone W (some ⟨w.heap.size + 1, 0, none⟩) := .inr ⟨_, rfl, (g_cells h.zero).1⟩

theorem own_at {B b : Nat} (hb : b < B) {o : Obj} {X Y : World} {row : Option Nat} (h : X.heap[b]? = some o) (hg : X.grownBy Y row) (hr : ∀ r, row = some r → B ≤ r ∧ ∃ o : Obj, X.heap[r]? = some o ∧ o.isCells = false) : Y.heap[b]? = some o :=
  own_has (β := Unit) hb (fun _ => o) () X Y row h hg hr
theorem nil_own {β : Type} {B : Nat} {w : World} {Ds : List Nat} (h1 : w.heap.size + 2 < B) (h4 : ∀ D ∈ Ds, D < B) :
    OwnFrom B (fun (_ : β) W => NilW w W Ds) := fun _ X Y row h hg hr =>
  ⟨ownFrom_below (β := Unit) (n₀ := w.heap.size) (B := B) (w₀ := w) (Nat.le_refl _) (by omega) () X Y row h.below hg hr, own_at (by omega) h.res hg hr, own_at (by omega) h.zero hg hr, own_at (by omega) h.lst hg hr,
    fun D hD => own_at (h4 D hD) (h.marks D hD) hg hr, h.lo, h.nd⟩
theorem nil_next {w W : World} {Ds : List Nat} {D : Nat} (h : NilW w W Ds) (hK : W.heap[D]? = some (.deferred (some []))) (hD : w.heap.size + 2 < D) (hn : ∀ D' ∈ Ds, D' ≠ D) : NilW w W (D :: Ds) := by
  refine ⟨h.below, h.res, h.zero, h.lst, fun D' hD' => ?_, fun D' hD' => ?_, ?_⟩
  · rcases List.mem_cons.1 hD' with rfl | h'
    · exact hK
    · exact h.marks D' h'
  · rcases List.mem_cons.1 hD' with rfl | h'
    · exact hD
    · exact h.lo D' h'
  · exact List.nodup_cons.2 ⟨fun h' => hn D h' rfl, h.nd⟩

set_option maxRecDepth 100000 in
set_option maxHeartbeats 4000000 in
theorem nil_claim (w : World) : Calls Try.prog 7 #[] w fun e w' => e = .returned (.bool true) ∧ Below w.heap.size w w' := by
  refine calls_of_marks 4 Try.func7 rfl ?_
  simp only [Try.ntmps7, List.size_toArray, List.length_cons, List.length_nil, Nat.reduceAdd, Nat.reduceSub, Array.replicate_succ, Array.replicate_zero, List.push_toArray, List.append_toArray, List.nil_append, List.cons_append]
  refine wpIn_wide.2 ?_
  go_upto_region 2 with fail
  refine world_wp (fun W => NilW w W []) ⟨(((Below.refl _ w).alloc (Nat.le_refl _) _).alloc (by simp) _).alloc (by simp; omega) _, ?_, ?_, ?_, (fun D hD => by cases hD), (fun D hD => by cases hD), List.nodup_nil⟩ ?_
  · exact below_alloc_has (below_alloc_has (heap_alloc_new w _))
  · have h := heap_alloc_new (w.alloc (.cells #[.bool false] 4)) (gO (newG 0))
    rw [World.size_alloc] at h
    exact below_alloc_has h
  · have := heap_alloc_new ((w.alloc (.cells #[.bool false] 4)).alloc (gO (newG 0))) (.cells #[.pointer none, .pointer (some ⟨w.heap.size + 1, 0, none⟩)] 23)
    rwa [World.size_alloc, World.size_alloc] at this
  intro W hW
  go_wp2_with fail
  refine wp_loop (fun a' W' => ∃ (T : Nat) (Ds : List Nat) (v3 v4 v5 v6 v7 v8 v9 v10 v11 v12 v13 v14 v15 v16 v17 v18 v19 v20 v21 v22 v23 v24 v25 v26 v27 v28 v29 v30 v31 v32 v33 v34 v35 v36 v37 v38 v39 v40 v41 v42 v43 v44 v45 v46 v47 v48 v49 v50 v51 v52 v53 v54 v55 v56 v57 v58 v59 v60 v61 v62 v63 v64 v65 v66 v67 v68 v69 v70 v71 v72 v73 v74 v75 v76 v77 v78 v79 v80 v81 v82 v83 v84 v85 v86 v87 v88 v89 v90 v91 v92 v93 v94 v95 v96 v97 : Value), a' = { tmps := #[.pointer (some ⟨w.heap.size, 0, none⟩), .slice (some ⟨w.heap.size + 1 + 1, 0, none⟩) 2 2, .int .i64 T, v3, v4, v5, v6, v7, v8, v9, v10, v11, v12, v13, v14, v15, v16, v17, v18, v19, v20, v21, v22, v23, v24, v25, v26, v27, v28, v29, v30, v31, v32, v33, v34, v35, v36, v37, v38, v39, v40, v41, v42, v43, v44, v45, v46, v47, v48, v49, v50, v51, v52, v53, v54, v55, v56, v57, v58, v59, v60, v61, v62, v63, v64, v65, v66, v67, v68, v69, v70, v71, v72, v73, v74, v75, v76, v77, v78, v79, v80, v81, v82, v83, v84, v85, v86, v87, v88, v89, v90, v91, v92, v93, v94, v95, v96, v97], defers := Ds.map mkD } ∧ T ≤ 2 ∧ Ds.length = T ∧ NilW w W' Ds) (fun a' _ => 2 - a'.defers.length) ?start ?round
  case start => exact ⟨0, [], _, _, _, _, _, _, _, _, _, _, _, _, _, _, _, _, _, _, _, _, _, _, _, _, _, _, _, _, _, _, _, _, _, _, _, _, _, _, _, _, _, _, _, _, _, _, _, _, _, _, _, _, _, _, _, _, _, _, _, _, _, _, _, _, _, _, _, _, _, _, _, _, _, _, _, _, _, _, _, _, _, _, _, _, _, _, _, _, _, _, _, _, _, _, _, rfl, by omega, rfl, hW⟩
  case round =>
    clear hW
    rintro _ W5 ⟨T, Ds, v3, v4, v5, v6, v7, v8, v9, v10, v11, v12, v13, v14, v15, v16, v17, v18, v19, v20, v21, v22, v23, v24, v25, v26, v27, v28, v29, v30, v31, v32, v33, v34, v35, v36, v37, v38, v39, v40, v41, v42, v43, v44, v45, v46, v47, v48, v49, v50, v51, v52, v53, v54, v55, v56, v57, v58, v59, v60, v61, v62, v63, v64, v65, v66, v67, v68, v69, v70, v71, v72, v73, v74, v75, v76, v77, v78, v79, v80, v81, v82, v83, v84, v85, v86, v87, v88, v89, v90, v91, v92, v93, v94, v95, v96, v97, rfl, hT9, hDs, hW⟩
    by_cases hT2 : T = 2
    · subst hT2
      match Ds, hDs with
      | [D2, D1], _ =>
        go_wp2_with fail
        refine (new_c W5 1 (by decide) (by decide)).mono ?_; rintro e w8 ⟨rfl, hG1, hb, hz⟩
        have hW8 := hW.reads hb
        obtain ⟨b1, hb1⟩ : ∃ b1, b1 = W5.heap.size := ⟨_, rfl⟩
        rw [← hb1] at hG1 ⊢
        clear hW hb hz hb1
        go_wp2_with fail
        refine (new_c w8 2 (by decide) (by decide)).mono ?_; rintro e w9 ⟨rfl, hG2, hb, hz⟩
        have hW9 := hW8.reads hb
        replace hG1 := below_has hb hG1
        obtain ⟨b2, hb2⟩ : ∃ b2, b2 = w8.heap.size := ⟨_, rfl⟩
        rw [← hb2] at hG2 ⊢
        clear hW8 hb hz hb2
        have q1 := has_cell 1 hW9.lst rfl
        go_wp2_with fail
        refine (gsame_c w9 none (some ⟨w.heap.size + 1, 0, none⟩) (.inl rfl) hW9.gone).mono ?_; rintro e w' ⟨rfl, rfl⟩
        go_wp2_with fail
        refine (nsame_c w9 b1 (newG 1) hG1 (newG_ok (by decide) (by decide))).mono ?_; rintro e w' ⟨rfl, rfl⟩
        go_wp2_with fail
        refine (dsame_c w9 b1 b2 (newG 1) (newG 2) hG1 (newG_ok (by decide) (by decide)) hG2 (newG_ok (by decide) (by decide)) (by decide)).mono ?_; rintro e w10 ⟨rfl, hb⟩
        have hW10 := hW9.reads hb
        clear hW9 hb hG1 hG2 q1
        go_wp2_with fail
        refine (known_c w10).mono ?_; rintro e w11 ⟨rfl, hb⟩
        have hW := hW10.reads hb
        clear hW10 hb
        have f8 := has_free hW.res
        have c8 := has_cell 0 hW.res rfl
        have u8 := (Upd.refl hW.res).setCell 0 (.bool true)
        have lo1 := hW.lo D1 (by simp)
        have lo2 := hW.lo D2 (by simp)
        have m2 := u8.other (hW.marks D2 (by simp)) (by omega)
        have m1 := u8.other (hW.marks D1 (by simp)) (by omega)
        have n12 : D1 ≠ D2 := fun e => by have := hW.nd; simp at this; exact this e.symm
        have bl := hW.below.trans (u8.below (by omega) hW.below.size)
        have r8 := u8.1
        simp only [List.setIfInBounds_toArray, List.set_cons_zero] at r8
        go_wp2_with fail
        refine ⟨by simp, .inl ⟨_, _, rfl, run_takeDeferred m2, by simp, .inl ⟨_, _, rfl, run_takeDeferred ((World.putObj_heap_other n12).trans m1), ?_⟩⟩⟩
        have q1 := has_cell (w := World.putObj (World.putObj _ D2 (.deferred none)) D1 (.deferred none)) (b := w.heap.size) 0 (v := .bool true) ((World.putObj_heap_other (by omega)).trans ((World.putObj_heap_other (by omega)).trans r8)) rfl
        refine ⟨.bool true, ?_, rfl, below_mark (below_mark bl (by omega) m2 _) (by omega) ((World.putObj_heap_other n12).trans m1) _⟩
        simp [results, Try.f7, go_sem, q1]
    · have hT1 : T = 0 ∨ T = 1 := by omega
      rcases hT1 with rfl | rfl
      · have hg : Gone W5 (none : Option Addr) := .inl rfl
        have q0 := has_cell 0 hW.lst rfl
        go_upto_region 8 with (first
          | (go_at_call 18; refine (gofn_c _ _ _ hg).mono ?_; rintro e w' ⟨rfl, rfl⟩)
          | (go_at_call 13; refine (gring_c _ _ _ hg).mono ?_; rintro e w' ⟨rfl, rfl⟩))
        go_upto_region 9 with (go_at_call 21; refine (gfor_c _ _ _ hg).mono ?_; rintro e W6 ⟨rfl, hX, hb⟩; have hW6 := hW.reads hb; have hz6 := hb.size)
        have hl5 := has_lt hW.lst
        have hl3 : ∀ D ∈ Ds, D < W5.heap.size := fun D hD => has_lt (hW.marks D hD)
        clear hg q0 hW hb
        have hg : Gone W6 (none : Option Addr) := .inl rfl
        obtain ⟨c, hc⟩ : ∃ c, W5.heap.size = c := ⟨_, rfl⟩
        rw [hc] at hX hl5 hl3 hz6 ⊢
        clear hc
        have hcl := has_lt hX
        have rf := run_eq_fn (.pointer (some ⟨c, 0, none⟩))
        go_upto_region 11 with (first
          | (go_at_call 15; refine (gbase_c _ _ _ _ hg).mono ?_; rintro e w' ⟨rfl, rfl⟩)
          | (go_at_call 16; refine (gceil_c _ _ _ _ hg).mono ?_; rintro e w' ⟨rfl, rfl⟩)
          | (go_at_call 17; refine (gwaits_c _ _ _ _ hg).mono ?_; rintro e w' ⟨rfl, rfl⟩)
          | (go_at_call 12; refine (gall_none _ _ hg).mono ?_; rintro e w' ⟨rfl, rfl⟩)
          | (go_at_call 19; refine (gcopy_none _ _ hg).mono ?_; rintro e w' ⟨rfl, rfl⟩))
        go_wp2_with fail
        have hBS := hW6.below.size
        refine (wpIn_wide (n := 4)).1 ?_
        refine named ?_
        intro fa hfa
        refine wpIn_rangeFunc_ownF rfl (by decide) (gf := 31) (lb := #[.pointer (some ⟨c, 0, none⟩)]) (by rw [hfa]; rfl) trivial enters31
          (for_none 3 (by decide) c W6 hX) (fun _ _ => trivial) (fun _ _ _ _ _ _ _ _ => trivial) (Below.refl _ _) (fun _ => rfl)
          (fun (_ : List Int) (W : World) => NilW w W Ds) (fun _ _ _ => False)
          (nil_own (by omega) (fun D hD => by have := hl3 D hD; omega)) (fun _ => own_pure _) hW6
          (fun x => { tmps := fa.tmps.setIfInBounds 71 (.int .i64 x), defers := [] })
          ?assign ?body ?done ?stop
        case assign =>
          intro l x W K hK
          simp only [encI, zip1, fold1]
          gi_wp2
          exact hK
        case body =>
          intro l pre x W _ hlen
          omega
        case done =>
          rintro D ys W hD _ hW7 hK
          subst hfa
          go_wp2_with fail
          refine ⟨⟨1, D :: Ds, _, _, _, _, _, _, _, _, _, _, _, _, _, _, _, _, _, _, _, _, _, _, _, _, _, _, _, _, _, _, _, _, _, _, _, _, _, _, _, _, _, _, _, _, _, _, _, _, _, _, _, _, _, _, _, _, _, _, _, _, _, _, _, _, _, _, _, _, _, _, _, _, _, _, _, _, _, _, _, _, _, _, _, _, _, _, _, _, _, _, _, _, _, _, _, rfl, by omega, by simp [hDs], nil_next hW7 hK (by omega) (fun D' hD' => by have := hl3 D' hD'; omega)⟩, by simp [hDs]⟩
        case stop =>
          rintro D k pre W _ _ h
          exact h.elim
      · have hg : Gone W5 (some ⟨w.heap.size + 1, 0, none⟩ : Option Addr) := hW.gone
        have q0 := has_cell 1 hW.lst rfl
        go_upto_region 8 with (first
          | (go_at_call 18; refine (gofn_c _ _ _ hg).mono ?_; rintro e w' ⟨rfl, rfl⟩)
          | (go_at_call 13; refine (gring_c _ _ _ hg).mono ?_; rintro e w' ⟨rfl, rfl⟩))
        go_upto_region 9 with (go_at_call 21; refine (gfor_c _ _ _ hg).mono ?_; rintro e W6 ⟨rfl, hX, hb⟩; have hW6 := hW.reads hb; have hz6 := hb.size)
        have hl5 := has_lt hW.lst
        have hl3 : ∀ D ∈ Ds, D < W5.heap.size := fun D hD => has_lt (hW.marks D hD)
        clear hg q0 hW hb
        have hg : Gone W6 (some ⟨w.heap.size + 1, 0, none⟩ : Option Addr) := hW6.gone
        obtain ⟨c, hc⟩ : ∃ c, W5.heap.size = c := ⟨_, rfl⟩
        rw [hc] at hX hl5 hl3 hz6 ⊢
        clear hc
        have hcl := has_lt hX
        have rf := run_eq_fn (.pointer (some ⟨c, 0, none⟩))
        go_upto_region 11 with (first
          | (go_at_call 15; refine (gbase_c _ _ _ _ hg).mono ?_; rintro e w' ⟨rfl, rfl⟩)
          | (go_at_call 16; refine (gceil_c _ _ _ _ hg).mono ?_; rintro e w' ⟨rfl, rfl⟩)
          | (go_at_call 17; refine (gwaits_c _ _ _ _ hg).mono ?_; rintro e w' ⟨rfl, rfl⟩)
          | (go_at_call 12; refine (gall_none _ _ hg).mono ?_; rintro e w' ⟨rfl, rfl⟩)
          | (go_at_call 19; refine (gcopy_none _ _ hg).mono ?_; rintro e w' ⟨rfl, rfl⟩))
        go_wp2_with fail
        have hBS := hW6.below.size
        refine (wpIn_wide (n := 4)).1 ?_
        refine named ?_
        intro fa hfa
        refine wpIn_rangeFunc_ownF rfl (by decide) (gf := 31) (lb := #[.pointer (some ⟨c, 0, none⟩)]) (by rw [hfa]; rfl) trivial enters31
          (for_none 3 (by decide) c W6 hX) (fun _ _ => trivial) (fun _ _ _ _ _ _ _ _ => trivial) (Below.refl _ _) (fun _ => rfl)
          (fun (_ : List Int) (W : World) => NilW w W Ds) (fun _ _ _ => False)
          (nil_own (by omega) (fun D hD => by have := hl3 D hD; omega)) (fun _ => own_pure _) hW6
          (fun x => { tmps := fa.tmps.setIfInBounds 71 (.int .i64 x), defers := [] })
          ?assign ?body ?done ?stop
        case assign =>
          intro l x W K hK
          simp only [encI, zip1, fold1]
          gi_wp2
          exact hK
        case body =>
          intro l pre x W _ hlen
          omega
        case done =>
          rintro D ys W hD _ hW7 hK
          subst hfa
          go_wp2_with fail
          refine ⟨⟨2, D :: Ds, _, _, _, _, _, _, _, _, _, _, _, _, _, _, _, _, _, _, _, _, _, _, _, _, _, _, _, _, _, _, _, _, _, _, _, _, _, _, _, _, _, _, _, _, _, _, _, _, _, _, _, _, _, _, _, _, _, _, _, _, _, _, _, _, _, _, _, _, _, _, _, _, _, _, _, _, _, _, _, _, _, _, _, _, _, _, _, _, _, _, _, _, _, _, _, rfl, by omega, by simp [hDs], nil_next hW7 hK (by omega) (fun D' hD' => by have := hl3 D' hD'; omega)⟩, by simp [hDs]⟩
        case stop =>
          rintro D k pre W _ _ h
          exact h.elim
end Go.Proofs.Ytkjcchepgpbiiaa
