/- One step of the law, the other half: Next, Clear, a copy goes on. Conditions: the two stand alike. -/
import Derived.Test.YtcchebjeohdkfaaC21Do
namespace Go.Proofs.Ytcchebjeohdkfaa
open Go.RowKit

theorem next_bad (w : World) (b : Nat) (s : Ks) (t : Int) (h : w.heap[b]? = some (kO s)) (ok : KOk s) (ht : thF t = false) :
    Calls Try.prog 13 #[.pointer (some ⟨b, 0, none⟩), .int .i64 t] w fun e w' => e = .returned (nextV (0, 0, false)) ∧ Below w.heap.size w w' := by
  have HT := Lib.hid ht
  clear ht
  go_enter Try.func13, Try.ntmps13
  go_upto_region 1 with fail
  refine world_wp (fun W => Below w.heap.size w W ∧ W.heap[w.heap.size]? = some (.cells #[.int .i64 0, .int .i64 0] 37 (0, 0))) ⟨(Below.refl _ _).alloc (Nat.le_refl _) _, heap_alloc_new _ _⟩ ?_
  rintro W ⟨hB, hX⟩
  have hk0 := below_has hB h
  have x0 := has_cell 0 hX rfl
  have x1 := has_cell 1 hX rfl
  have fx := has_free hX
  have X := ((Upd.refl hX).setCell 0 (.int .i64 0)).setCell 1 (.int .i64 0)
  have q0 := has_cell 0 X.1 rfl
  have q1 := has_cell 1 X.1 rfl
  have hb := hB.trans (X.below (Nat.le_refl _) hB.size)
  clear X hX hB
  go_step3
  go_wp2_with (first | (go_at_call 30; refine (there_c _ _ _ hk0 ok).mono ?_; rintro e w' ⟨rfl, rfl⟩) | (go_at_call 34; refine (thread_c _ _ HT.out).mono ?_; rintro e w' ⟨rfl, rfl⟩))
  try simp only [Exit.noGoto, Exit.inBlock, Exit.then]
  refine bodyPost_ret (v := nextV (0, 0, false)) ?_ rfl ⟨rfl, hb⟩
  simp [results, Try.f13, go_sem, q0, q1, nextV]
theorem nx_ok {w : World} {b : Nat} {s : Ks} {t : Nat} {d v : Int} {z : Bool} (h : w.heap[b]? = some (kO s)) (ok : KOk s) (ht : t < 16) (hN : nextD s t = (d, v, z)) :
    Calls Try.prog 13 #[.pointer (some ⟨b, 0, none⟩), .int .i64 t] w fun e w' => e = .returned (.tuple #[.agg #[.int .i64 d, .int .i64 v], .bool z]) ∧ Upd w b (kO (nextS s t)) w' := by
  have := next_c w b s t h ok ht
  rw [hN] at this
  exact this
theorem rnx_ok {w : World} {b g : Nat} {s : Ks} {t : Nat} {d v : Int} {z : Bool} (h : RK w b g s) (ok : KOk s) (ht : t < 16) (hN : nextD s t = (d, v, z)) :
    Calls Try.prog 43 #[.pointer (some ⟨b, 0, none⟩), .int .i64 t] w fun e w' => e = .returned (.tuple #[.agg #[.int .i64 d, .int .i64 v], .bool z]) ∧ RK w' b g (nextS s t) ∧ Upd2 w b g w' := by
  have := rnext_c w b g s t h ok ht
  rw [hN] at this
  exact this
theorem nbad_x {w : World} {b : Nat} {s : Ks} {t : Int} (h : w.heap[b]? = some (kO s)) (ok : KOk s) (ht : thF t = false) :
    Calls Try.prog 13 #[.pointer (some ⟨b, 0, none⟩), .int .i64 t] w fun e w' => e = .returned (.tuple #[.agg #[.int .i64 0, .int .i64 0], .bool false]) ∧ Below w.heap.size w w' := next_bad w b s t h ok ht
theorem rnbad_x {w : World} {b : Nat} {t : Int} (ht : thF t = false) :
    Calls Try.prog 43 #[.pointer (some ⟨b, 0, none⟩), .int .i64 t] w fun e w' => e = .returned (.tuple #[.agg #[.int .i64 0, .int .i64 0], .bool false]) ∧ Below w.heap.size w w' := rnext_bad w b t ht
/-- With the two answers. -/
structure NxW (w W : World) (b r g : Nat) (s t : Ks) (cs : Array Value) (x : Nat) (d v : Int) : Prop where
  dw : DW w W b r g s t cs
  box : W.heap[x]? = some (.cells #[.int .i64 d, .int .i64 v] 37 (0, 0))
theorem DW.ans {w W : World} {b r g : Nat} {s t : Ks} {cs : Array Value} (h : DW w W b r g s t cs) (d v : Int) : NxW w (W.alloc (.cells #[.int .i64 d, .int .i64 v] 37)) b r g s t cs W.heap.size d v := ⟨h.reads ((Below.refl _ _).alloc (Nat.le_refl _) _), heap_alloc_new _ _⟩

set_option maxRecDepth 100000 in
set_option maxHeartbeats 4000000 in
theorem do_next_ok (w : World) (b r g : Nat) (s : Ks) (n key : Int) (t : Nat) (v : Int) (p : KP w b r g s) (ht : t < 16) :
    Calls Try.prog 23 #[.pointer (some ⟨b, 0, none⟩), .pointer (some ⟨r, 0, none⟩), stepV 4 n key t v] w (DoPost w b r g) := by
  have ok := p.ok
  obtain ⟨d1, d2, z, hN⟩ : ∃ d1 d2 z, nextD s t = (d1, d2, z) := ⟨_, _, _, rfl⟩
  have HN := Lib.hid hN
  have eq37 : ∀ w, (binOp .eql 37 (.agg #[.int .i64 d1, .int .i64 d2]) (.agg #[.int .i64 d1, .int .i64 d2])).run Try.prog w = .ok (.bool true) w := fun w => by rw [eql37]; simp
  clear hN
  unfold stepV
  go_enter Try.func23, Try.ntmps23
  go_upto_region 1 with fail
  refine world_wp (fun W => DW w W b r g s s (stepC 4 n key t v)) (do_in p _) ?_
  intro W hD
  obtain ⟨e0, e1, e2, e3, e4⟩ := hD.cells
  clear p
  go_upto_region 15 with (go_at_call 13; refine (nx_ok hD.kb ok ht HN.out).mono ?_; rintro e w1 ⟨rfl, u⟩; have hD1 := hD.prog u)
  obtain ⟨x1, hx1⟩ : ∃ x, w1.heap.size = x := ⟨_, rfl⟩
  have hA := hD1.ans d1 d2
  rw [hx1] at hA ⊢
  refine world_wp (fun W => NxW w W b r g (nextS s t) s (stepC 4 n key t v) x1 d1 d2) hA ?_
  clear hA hD1 hD u e0 e1 e2 e3 e4 hx1
  intro W2 hA
  obtain ⟨e0, e1, e2, e3, e4⟩ := hA.dw.cells
  go_upto_region 16 with (go_at_call 43; refine (rnx_ok hA.dw.rk ok ht HN.out).mono ?_; rintro e w3 ⟨rfl, k, u⟩; have hD3 := hA.dw.doc k u; have hX3 := u.other hA.box)
  obtain ⟨x2, hx2⟩ : ∃ x, w3.heap.size = x := ⟨_, rfl⟩
  have hA3 := hD3.ans d1 d2
  rw [hx2] at hA3 ⊢
  have hX3' : w3.heap[x1]? = some (.cells #[.int .i64 d1, .int .i64 d2] 37 (0, 0)) := by
    refine hX3 ?_ ?_
    · rintro rfl
      have := hA.dw.rk.kb
      rw [hA.box] at this
      injection this with this
      injection this with _ h2
      cases h2
    · rintro rfl
      have := hA.dw.rk.kg
      rw [hA.box] at this
      injection this with this
      injection this with _ h2
      cases h2
  have hX4 := below_alloc_has (o := .cells #[.int .i64 d1, .int .i64 d2] 37) hX3'
  refine world_wp (fun W => NxW w W b r g (nextS s t) (nextS s t) (stepC 4 n key t v) x2 d1 d2 ∧ W.heap[x1]? = some (.cells #[.int .i64 d1, .int .i64 d2] 37 (0, 0))) ⟨hA3, hX4⟩ ?_
  clear hA hA3 hD3 k u e0 e1 e2 e3 e4 hx2 hX3 hX3' hX4
  rintro W4 ⟨hA, hX⟩
  have y0 := has_cell 0 hA.box rfl
  have y1 := has_cell 1 hA.box rfl
  have z0 := has_cell 0 hX rfl
  have z1 := has_cell 1 hX rfl
  have HA := Lib.hid hA
  clear hA hX
  go_wp2_with fail
  go_ret3
  exact ⟨b, _, by simp, HA.out.dw.post (nextS_ok ok t)⟩
set_option maxRecDepth 100000 in
set_option maxHeartbeats 4000000 in
theorem do_next_bad (w : World) (b r g : Nat) (s : Ks) (n key t v : Int) (p : KP w b r g s) (ht : thF t = false) :
    Calls Try.prog 23 #[.pointer (some ⟨b, 0, none⟩), .pointer (some ⟨r, 0, none⟩), stepV 4 n key t v] w (DoPost w b r g) := by
  have ok := p.ok
  have HT := Lib.hid ht
  have eq37 : ∀ w, (binOp .eql 37 (.agg #[.int .i64 0, .int .i64 0]) (.agg #[.int .i64 0, .int .i64 0])).run Try.prog w = .ok (.bool true) w := fun w => by rw [eql37]; simp
  clear ht
  unfold stepV
  go_enter Try.func23, Try.ntmps23
  go_upto_region 1 with fail
  refine world_wp (fun W => DW w W b r g s s (stepC 4 n key t v)) (do_in p _) ?_
  intro W hD
  obtain ⟨e0, e1, e2, e3, e4⟩ := hD.cells
  clear p
  go_upto_region 15 with (go_at_call 13; refine (nbad_x hD.kb ok HT.out).mono ?_; rintro e w1 ⟨rfl, u⟩; have hD1 := hD.reads u)
  obtain ⟨x1, hx1⟩ : ∃ x, w1.heap.size = x := ⟨_, rfl⟩
  have hA := hD1.ans 0 0
  rw [hx1] at hA ⊢
  refine world_wp (fun W => NxW w W b r g s s (stepC 4 n key t v) x1 0 0) hA ?_
  clear hA hD1 hD u e0 e1 e2 e3 e4 hx1
  intro W2 hA
  obtain ⟨e0, e1, e2, e3, e4⟩ := hA.dw.cells
  go_upto_region 16 with (go_at_call 43; refine (rnbad_x HT.out).mono ?_; rintro e w3 ⟨rfl, u⟩; have hD3 := hA.dw.reads u; have hX3 := below_has u hA.box)
  obtain ⟨x2, hx2⟩ : ∃ x, w3.heap.size = x := ⟨_, rfl⟩
  have hA3 := hD3.ans 0 0
  rw [hx2] at hA3 ⊢
  have hX4 := below_alloc_has (o := .cells #[.int .i64 0, .int .i64 0] 37) hX3
  refine world_wp (fun W => NxW w W b r g s s (stepC 4 n key t v) x2 0 0 ∧ W.heap[x1]? = some (.cells #[.int .i64 0, .int .i64 0] 37 (0, 0))) ⟨hA3, hX4⟩ ?_
  clear hA hA3 hD3 u e0 e1 e2 e3 e4 hx2 hX3 hX4
  rintro W4 ⟨hA, hX⟩
  have y0 := has_cell 0 hA.box rfl
  have y1 := has_cell 1 hA.box rfl
  have z0 := has_cell 0 hX rfl
  have z1 := has_cell 1 hX rfl
  have HA := Lib.hid hA
  clear hA hX
  go_wp2_with fail
  go_ret3
  exact ⟨b, _, by simp, HA.out.dw.post ok⟩

set_option maxRecDepth 100000 in
set_option maxHeartbeats 4000000 in
theorem do_clear_bad (w : World) (b r g : Nat) (s : Ks) (n key t v : Int) (p : KP w b r g s) (ht : thF t = false) :
    Calls Try.prog 23 #[.pointer (some ⟨b, 0, none⟩), .pointer (some ⟨r, 0, none⟩), stepV 5 n key t v] w (DoPost w b r g) := by
  have ok := p.ok
  have HT := Lib.hid ht
  clear ht
  unfold stepV
  go_enter Try.func23, Try.ntmps23
  go_upto_region 1 with fail
  refine world_wp (fun W => DW w W b r g s s (stepC 5 n key t v)) (do_in p _) ?_
  intro W hD
  obtain ⟨e0, e1, e2, e3, e4⟩ := hD.cells
  clear p
  go_upto_region 18 with fail
  go_region_held3 (fun W' => W'.cell? ⟨w.heap.size, 3, none⟩ = some (.int .i64 t)) (first | exact e3)
    (first
      | (go_at_call 25; refine (clear_bad _ _ _ _ (by exact hD.kb) ok HT.out).mono ?_; rintro e w' ⟨rfl, rfl⟩)
      | (go_at_call 44; refine (rclear_bad _ _ _ HT.out).mono ?_; rintro e w' ⟨rfl, rfl⟩)
      | (go_at_call 9; refine (num_c _ _).mono ?_; rintro e w' ⟨rfl, rfl⟩))
  all_goals go_wp2_with fail
  all_goals (go_ret3; exact ⟨b, _, rfl, (hD.reads (below_drewN (Below.refl _ _) 1)).post ok⟩)
set_option maxRecDepth 100000 in
set_option maxHeartbeats 4000000 in
theorem do_clear_ok (w : World) (b r g : Nat) (s : Ks) (n key : Int) (t : Nat) (v : Int) (p : KP w b r g s) (ht : t < 16) :
    Calls Try.prog 23 #[.pointer (some ⟨b, 0, none⟩), .pointer (some ⟨r, 0, none⟩), stepV 5 n key t v] w (DoPost w b r g) := by
  have ok := p.ok
  unfold stepV
  go_enter Try.func23, Try.ntmps23
  go_upto_region 1 with fail
  refine world_wp (fun W => DW w W b r g s s (stepC 5 n key t v)) (do_in p _) ?_
  intro W hD
  obtain ⟨e0, e1, e2, e3, e4⟩ := hD.cells
  clear p
  go_upto_region 18 with fail
  go_region_held3 (fun W' => W'.cell? ⟨w.heap.size, 3, none⟩ = some (.int .i64 t)) (first | exact e3 | exact q3 | exact z3)
    (first
      | (go_at_call 25; refine (clear_c _ _ _ _ (by exact hD.kb) ok ht).mono ?_; rintro e w1 ⟨rfl, u⟩; have hD1 := hD.prog (upd_undrew u); have HD1 := Lib.hid hD1; have q3 := hD1.cells.2.2.2.1; clear hD1 u)
      | (go_at_call 44; refine (rclear_c _ _ _ _ _ (by exact HD1.out.rk) ok ht).mono ?_; rintro e w2 ⟨rfl, k2, u2⟩; have hD2 := HD1.out.doc k2 u2; have HD2 := Lib.hid hD2; have z3 := hD2.cells.2.2.2.1; clear hD2 k2 u2)
      | (go_at_call 9; refine (num_c _ _).mono ?_; rintro e w' ⟨rfl, rfl⟩))
  all_goals go_wp2_with fail
  all_goals (go_ret3; exact ⟨b, _, rfl, HD2.out.post (clearF_ok ok _)⟩)

/-! A copy goes on. -/
theorem create_any {w : World} {b : Nat} {s : Ks} {d : Int} (h : w.heap[b]? = some (kO s)) (ok : KOk s) (hd : -1 ≤ d ∧ d < 32) :
    Calls Try.prog 10 #[.pointer (some ⟨b, 0, none⟩), .int .i64 d] w fun e w' => ∃ (x y : Int) (s' : Ks), e = .returned (.tuple #[.int .i64 x, .int .i64 y]) ∧ Upd w b (kO s') w' ∧ KOk s' := by
  cases hF : freeF s with
  | none =>
    refine (create_none h ok hd hF).mono ?_
    rintro e w' ⟨rfl, rfl⟩
    exact ⟨_, _, s, rfl, Upd.refl h, ok⟩
  | some i =>
    refine (create_some h ok hd hF).mono ?_
    rintro e w' ⟨rfl, u⟩
    exact ⟨_, _, _, rfl, u, makeF_ok ok _ _⟩
/-- The copy lies at c. -/
structure CpW (w W : World) (b r g c : Nat) (s t : Ks) (cs : Array Value) : Prop where
  dw : DW w W b r g t s cs
  cp : W.heap[c]? = some (kO s)
  ok : KOk t
  hc : w.heap.size < c
theorem CpW.reads {w W W' : World} {b r g c : Nat} {s t : Ks} {cs : Array Value} (h : CpW w W b r g c s t cs) (u : Below W.heap.size W W') : CpW w W' b r g c s t cs := ⟨h.dw.reads u, below_has u h.cp, h.ok, h.hc⟩
theorem CpW.prog {w W W' : World} {b r g c : Nat} {s t t' : Ks} {cs : Array Value} (h : CpW w W b r g c s t cs) (u : Upd W b (kO t') W') (ok : KOk t') : CpW w W' b r g c s t' cs := ⟨h.dw.prog u, u.other h.cp (by have := h.dw.lt; have := h.hc; omega), ok, h.hc⟩
set_option maxRecDepth 100000 in
set_option maxHeartbeats 4000000 in
theorem do_copy (w : World) (b r g : Nat) (s : Ks) (n key t v : Int) (p : KP w b r g s) :
    Calls Try.prog 23 #[.pointer (some ⟨b, 0, none⟩), .pointer (some ⟨r, 0, none⟩), stepV 6 n key t v] w (DoPost w b r g) := by
  have ok := p.ok
  unfold stepV
  go_enter Try.func23, Try.ntmps23
  go_upto_region 1 with fail
  refine world_wp (fun W => DW w W b r g s s (stepC 6 n key t v)) (do_in p _) ?_
  intro W hD
  obtain ⟨e0, e1, e2, e3, e4⟩ := hD.cells
  clear p
  go_upto_region 21 with (go_at_call 45; refine (kcopy_c _ _ _ hD.kb ok).mono ?_; rintro e w1 ⟨c, rfl, hc, hcp, hb⟩)
  have hC : CpW w w1 b r g c s s (stepC 6 n key t v) := ⟨hD.reads hb, hcp, ok, by have := hD.size; omega⟩
  clear hD hc hcp hb e0 e1 e2 e3 e4
  go_upto_region 22 with (go_at_call 28; refine (ksame_c _ c b s hC.cp hC.dw.kb ok).mono ?_; rintro e w2 ⟨rfl, hb⟩; have hC2 := hC.reads hb)
  clear hC hb
  go_upto_region 23 with (go_at_call 10; refine (create_any hC2.dw.kb ok ⟨by decide, by decide⟩).mono ?_; rintro e w3 ⟨x3, y3, s3, rfl, u, ok3⟩; have hC3 := hC2.prog u ok3)
  clear hC2 u
  go_upto_region 24 with (go_at_call 11; refine (set_c _ _ _ _ _ _ hC3.dw.kb ok3).mono ?_; rintro e w4 ⟨rfl, u⟩; have hC4 := hC3.prog u (setF_ok ok3 _ _ _))
  have ok4 := hC4.ok
  generalize setF s3 1 0 99 = s4 at hC4 ok4 u
  clear hC3 u
  go_upto_region 25 with (go_at_call 13; refine (next_c _ _ _ 1 hC4.dw.kb ok4 (by decide)).mono ?_; rintro e w5 ⟨rfl, u⟩; have hC5 := hC4.prog u (nextS_ok ok4 _))
  have ok5 := hC5.ok
  clear hC4 u
  go_upto_region 26 with (go_at_call 25; refine (clear_c _ _ _ 2 hC5.dw.kb ok5 (by decide)).mono ?_; rintro e w6 ⟨rfl, u⟩; have hC6 := hC5.prog u (clearF_ok ok5 _))
  have HC := Lib.hid hC6
  clear hC5 hC6 u
  go_wp2_with fail
  go_ret3
  exact ⟨c, s, rfl, ⟨HC.out.cp, HC.out.dw.rk, ok⟩, .inr (Nat.le_of_lt HC.out.hc), HC.out.dw.bel⟩
set_option maxRecDepth 100000 in
set_option maxHeartbeats 4000000 in
theorem do_none (w : World) (b r g : Nat) (s : Ks) (kd n key t v : Int) (p : KP w b r g s) (h1 : kd ≠ 1) (h2 : kd ≠ 2) (h3 : kd ≠ 3) (h4 : kd ≠ 4) (h5 : kd ≠ 5) (h6 : kd ≠ 6) :
    Calls Try.prog 23 #[.pointer (some ⟨b, 0, none⟩), .pointer (some ⟨r, 0, none⟩), stepV kd n key t v] w (DoPost w b r g) := by
  have ok := p.ok
  have n1 : (kd == 1) = false := by simpa using h1
  have n2 : (kd == 2) = false := by simpa using h2
  have n3 : (kd == 3) = false := by simpa using h3
  have n4 : (kd == 4) = false := by simpa using h4
  have n5 : (kd == 5) = false := by simpa using h5
  have n6 : (kd == 6) = false := by simpa using h6
  clear h1 h2 h3 h4 h5 h6
  unfold stepV
  go_enter Try.func23, Try.ntmps23
  go_upto_region 1 with fail
  refine world_wp (fun W => DW w W b r g s s (stepC kd n key t v)) (do_in p _) ?_
  intro W hD
  obtain ⟨e0, e1, e2, e3, e4⟩ := hD.cells
  clear p
  go_wp2_with fail
  go_ret3
  exact ⟨b, _, rfl, hD.post ok⟩
theorem do_c (w : World) (b r g : Nat) (s : Ks) (kd n key t v : Int) (p : KP w b r g s) :
    Calls Try.prog 23 #[.pointer (some ⟨b, 0, none⟩), .pointer (some ⟨r, 0, none⟩), stepV kd n key t v] w (DoPost w b r g) := by
  by_cases h1 : kd = 1
  · subst h1
    by_cases hd : -1 ≤ n ∧ n < 32
    · cases hF : freeF s with
      | none => exact do_create_none w b r g s n key t v p hd hF
      | some i => exact do_create_some w b r g s n key t v p hd i hF
    · exact do_create_bad w b r g s n key t v p (by omega)
  by_cases h2 : kd = 2
  · subst h2
    by_cases hm : mkF s key = true
    · obtain ⟨i, rfl, hi, hk⟩ := mkF_nat hm
      exact do_delete_ok w b r g s n i t v p i rfl hi hk
    · exact do_delete_no w b r g s n key t v p (by simpa using hm)
  by_cases h3 : kd = 3
  · subst h3
    exact do_set w b r g s n key t v p
  by_cases h4 : kd = 4
  · subst h4
    by_cases ht : thF t = true
    · obtain ⟨k, rfl, hk⟩ := thF_rng ht
      exact do_next_ok w b r g s n key k v p hk
    · exact do_next_bad w b r g s n key t v p (by simpa using ht)
  by_cases h5 : kd = 5
  · subst h5
    by_cases ht : thF t = true
    · obtain ⟨k, rfl, hk⟩ := thF_rng ht
      exact do_clear_ok w b r g s n key k v p hk
    · exact do_clear_bad w b r g s n key t v p (by simpa using ht)
  by_cases h6 : kd = 6
  · subst h6
    exact do_copy w b r g s n key t v p
  exact do_none w b r g s kd n key t v p h1 h2 h3 h4 h5 h6
end Go.Proofs.Ytcchebjeohdkfaa
