/- One step of a script on both graphs: they go on alike. Conditions: both stand the same. -/
import Derived.Test.YtkjcchepgpbiiaaC12L
import Derived.Test.YtkjcchepgpbiiaaC12G2
namespace Go.Proofs.Ytkjcchepgpbiiaa
open Go.RowKit

/-- Two graphs, the program's and the document's, that stand the same. -/
structure Pair (w : World) (b r : Nat) (s : Gs) : Prop where
  g : w.heap[b]? = some (gO s)
  ref : w.heap[r]? = some (rO s)
  ok : GOk s
theorem Pair.ne {w : World} {b r : Nat} {s : Gs} (h : Pair w b r s) : b ≠ r := by
  rintro rfl
  have := h.g.symm.trans h.ref
  injection this with e
  injection e with _ e _
  exact absurd e (by decide)
theorem Pair.reads {w w' : World} {b r : Nat} {s : Gs} (h : Pair w b r s) (hb : Below w.heap.size w w') : Pair w' b r s := ⟨below_has hb h.g, below_has hb h.ref, h.ok⟩
def stepF (s : Gs) (kd th nn : Int) : Gs :=
  if kd = 1 then (if (inF s th && prioF nn) = true then { s with ba := upd s.ba th.toNat nn } else s)
  else if kd = 2 then (if (inF s th && prioF nn) = true then { s with ce := upd s.ce th.toNat nn } else s)
  else if kd = 3 then (if (inF s th && ownerF s nn) = true then { s with wt := upd s.wt th.toNat nn } else s)
  else s
theorem inF_nat {s : Gs} {t : Int} (h : inF s t = true) : ∃ k : Nat, t = k ∧ k < s.n := by
  simp [inF] at h
  exact ⟨t.toNat, by omega, by omega⟩
theorem prioF_rng {p : Int} (h : prioF p = true) : 0 ≤ p ∧ p ≤ 31 := by simpa [prioF] using h
theorem ownerF_rng {s : Gs} {p : Int} (h : ownerF s p = true) : -1 ≤ p ∧ p < s.n := by simpa [ownerF] using h
theorem upd_rng {f : Nat → Int} {t : Nat} {x : Int} {P : Int → Prop} (h : ∀ i, i < 16 → P (f i)) (hx : P x) : ∀ i, i < 16 → P (upd f t x i) := fun i hi => by
  unfold upd
  split
  · exact hx
  · exact h i hi
theorem upd_at_out {f : Nat → Int} {t n : Nat} {x z : Int} (ht : t < n) {i : Nat} (hi : n ≤ i) (h : f i = z) : upd f t x i = z := by
  unfold upd
  rw [if_neg (by omega)]
  exact h
theorem GOk.ba' {s : Gs} (ok : GOk s) {t : Nat} {x : Int} (ht : t < s.n) (hx : 0 ≤ x ∧ x ≤ 31) : GOk { s with ba := upd s.ba t x } :=
  ⟨ok.n1, ok.n2, upd_rng (P := fun x => 0 ≤ x ∧ x ≤ 31) ok.ba hx, ok.ce, ok.wt, fun i h1 h2 => ⟨upd_at_out ht h1 (ok.out i h1 h2).1, (ok.out i h1 h2).2⟩⟩
theorem GOk.ce' {s : Gs} (ok : GOk s) {t : Nat} {x : Int} (ht : t < s.n) (hx : 0 ≤ x ∧ x ≤ 31) : GOk { s with ce := upd s.ce t x } :=
  ⟨ok.n1, ok.n2, ok.ba, upd_rng (P := fun x => 0 ≤ x ∧ x ≤ 31) ok.ce hx, ok.wt, fun i h1 h2 => ⟨(ok.out i h1 h2).1, upd_at_out ht h1 (ok.out i h1 h2).2.1, (ok.out i h1 h2).2.2⟩⟩
theorem GOk.wt' {s : Gs} (ok : GOk s) {t : Nat} {x : Int} (ht : t < s.n) (hx : -1 ≤ x ∧ x < s.n) : GOk { s with wt := upd s.wt t x } :=
  ⟨ok.n1, ok.n2, ok.ba, ok.ce, upd_rng (P := fun x => -1 ≤ x ∧ x < s.n) ok.wt hx, fun i h1 h2 => ⟨(ok.out i h1 h2).1, (ok.out i h1 h2).2.1, upd_at_out ht h1 (ok.out i h1 h2).2.2⟩⟩
theorem stepF_n (s : Gs) (kd th nn : Int) : (stepF s kd th nn).n = s.n := by
  unfold stepF
  repeat' split
  all_goals rfl
theorem stepF_ok {s : Gs} (ok : GOk s) (kd th nn : Int) : GOk (stepF s kd th nn) := by
  unfold stepF
  split
  · split
    · rename_i h
      simp only [Bool.and_eq_true] at h
      obtain ⟨k, rfl, hk⟩ := inF_nat h.1
      exact ok.ba' (by simpa using hk) (prioF_rng h.2)
    · exact ok
  · split
    · split
      · rename_i h
        simp only [Bool.and_eq_true] at h
        obtain ⟨k, rfl, hk⟩ := inF_nat h.1
        exact ok.ce' (by simpa using hk) (prioF_rng h.2)
      · exact ok
    · split
      · split
        · rename_i h
          simp only [Bool.and_eq_true] at h
          obtain ⟨k, rfl, hk⟩ := inF_nat h.1
          exact ok.wt' (by simpa using hk) (ownerF_rng h.2)
        · exact ok
      · exact ok
def stepV (kd th nn : Int) : Value := .agg #[.int .i64 kd, .int .i64 th, .int .i64 nn]
/-- What one step leaves. -/
def DoPost (w : World) (b r : Nat) (s' : Gs) (e : Ending) (w' : World) : Prop := e = .returned (.bool true) ∧ Pair w' b r s' ∧ Upd2 w b r w'
/-- The step's own block. -/
structure DoW (w : World) (b r : Nat) (s : Gs) (kd th nn : Int) (W : World) : Prop where
  p : Pair W b r s
  u : Upd2 w b r W
  x0 : W.cell? ⟨w.heap.size, 0, none⟩ = some (.int .i64 kd)
  x1 : W.cell? ⟨w.heap.size, 1, none⟩ = some (.int .i64 th)
  x2 : W.cell? ⟨w.heap.size, 2, none⟩ = some (.int .i64 nn)
  lt : w.heap.size < W.heap.size
theorem do_in {w : World} {b r : Nat} {s : Gs} (h : Pair w b r s) (kd th nn : Int) : DoW w b r s kd th nn (w.alloc (.cells #[.int .i64 kd, .int .i64 th, .int .i64 nn] 32)) :=
  ⟨h.reads ((Below.refl _ _).alloc (Nat.le_refl _) _), (Upd2.refl _ _ _).reads ((Below.refl _ _).alloc (Nat.le_refl _) _), has_cell 0 (heap_alloc_new _ _) rfl, has_cell 1 (heap_alloc_new _ _) rfl, has_cell 2 (heap_alloc_new _ _) rfl, by simp⟩
theorem cell_kept {w w' : World} {b p i : Nat} {o : Obj} {v : Value} (u : Upd w b o w') (hp : p ≠ b) (h : w.cell? ⟨p, i, none⟩ = some v) : w'.cell? ⟨p, i, none⟩ = some v := by
  have hlt := World.block_lt_of_cell? w ⟨p, i, none⟩ h
  have e := u.2.block p hlt (by simpa using hp)
  unfold World.cell? at h ⊢
  rw [e]
  exact h
/-- The program's graph has turned. -/
theorem DoW.g1 {w W W1 : World} {b r : Nat} {s s' : Gs} {kd th nn : Int} (h : DoW w b r s kd th nn W) (hb : b < w.heap.size) (u : Upd W b (gO s') W1) :
    W1.heap[r]? = some (rO s) ∧ Upd2 w b r W1 ∧ W1.cell? ⟨w.heap.size, 1, none⟩ = some (.int .i64 th) ∧ W1.cell? ⟨w.heap.size, 2, none⟩ = some (.int .i64 nn) ∧ w.heap.size < W1.heap.size :=
  ⟨u.other h.p.ref (Ne.symm h.p.ne), h.u.left u, cell_kept u (by omega) h.x1, cell_kept u (by omega) h.x2, Nat.lt_of_lt_of_le h.lt u.size⟩

theorem do_none (w : World) (b r : Nat) (s : Gs) (kd th nn : Int) (p : Pair w b r s) (h1 : kd ≠ 1) (h2 : kd ≠ 2) (h3 : kd ≠ 3) :
    Calls Try.prog 11 #[.pointer (some ⟨b, 0, none⟩), .pointer (some ⟨r, 0, none⟩), stepV kd th nn] w (DoPost w b r s) := by
  obtain ⟨y, hy⟩ : ∃ y, inF s th = y := ⟨_, rfl⟩
  have b1 : (kd == 1) = false := by simpa using h1
  have b2 : (kd == 2) = false := by simpa using h2
  have b3 : (kd == 3) = false := by simpa using h3
  clear h1 h2 h3
  have D0 := do_in p kd th nn
  go_enter Try.func11, Try.ntmps11
  go_upto_region 1 with fail
  refine world_wp (DoW w b r s kd th nn) D0 ?_
  clear D0
  intro W D
  have x0 := D.x0
  have x1 := D.x1
  have x2 := D.x2
  go_wp2_with (go_at_call 23; refine (rin_c _ _ _ _ D.p.ref hy).mono ?_; rintro e w' ⟨rfl, rfl⟩)
  go_ret
  exact ⟨rfl, D.p, D.u⟩

theorem do_base_ok (w : World) (b r : Nat) (s : Gs) (t : Nat) (nn : Int) (p : Pair w b r s) (ht : t < s.n) (hp : 0 ≤ nn ∧ nn ≤ 31) :
    Calls Try.prog 11 #[.pointer (some ⟨b, 0, none⟩), .pointer (some ⟨r, 0, none⟩), stepV 1 t nn] w (DoPost w b r { s with ba := upd s.ba t nn }) := by
  have hi : inF s t = true := by simp [inF, ht]
  have n2 := p.ok.n2
  have hti : (t : Int) < 16 := by omega
  have hp0 := hp.1
  have hp1 := hp.2
  have hbw := has_lt p.g
  have hrw := has_lt p.ref
  have HP := Lib.hid hp
  clear hp
  have D0 := do_in p 1 t nn
  go_enter Try.func11, Try.ntmps11
  go_upto_region 1 with fail
  refine world_wp (DoW w b r s 1 t nn) D0 ?_
  clear D0
  intro W D
  have x0 := D.x0
  have x1 := D.x1
  have x2 := D.x2
  have cn := (r_cells D.p.ref).1
  go_upto_region 8 with (go_at_call 23; refine (rin_c _ _ _ _ D.p.ref hi).mono ?_; rintro e w' ⟨rfl, rfl⟩)
  go_upto_region 10 with (go_at_call 15; refine (base_c _ _ s t nn D.p.g D.p.ok ht HP.out).mono ?_; rintro e w1 ⟨rfl, u⟩)
  obtain ⟨hR, u2, y1, y2, hz⟩ := D.g1 hbw u
  have hG := u.1
  have hOk : GOk { s with ba := upd s.ba t nn } := p.ok.ba' ht HP.out
  have U : Upd w1 r (rO { s with ba := upd s.ba t nn }) _ := ((Upd.refl hR).setCell (1 + t) (.int .i64 nn)).drew.to (by rw [four_set1 _ _ _ _ _ (by omega)]; rfl)
  have fz := has_free hR
  have hc := ((r_cells hR).2 t (by omega)).1
  clear D x0 x1 x2 u
  refine still_tail 8 (by kernel_rfl) (by kernel_rfl) ?_
  simp only [List.take_succ_cons, List.take_zero, List.drop_succ_cons, List.drop_zero]
  repeat still_step
  refine wpStill_nil ?_
  go_wp2_with fail
  go_ret
  exact ⟨rfl, ⟨U.other hG p.ne, U.1, hOk⟩, u2.right U⟩

theorem do_base_no (w : World) (b r : Nat) (s : Gs) (th nn : Int) (p : Pair w b r s) (hn : (inF s th && prioF nn) = false) :
    Calls Try.prog 11 #[.pointer (some ⟨b, 0, none⟩), .pointer (some ⟨r, 0, none⟩), stepV 1 th nn] w (DoPost w b r s) := by
  have D0 := do_in p 1 th nn
  obtain ⟨y, hy⟩ : ∃ y, inF s th = y := ⟨_, rfl⟩
  have HN := Lib.hid hn
  rw [hy] at hn
  cases y with
  | false =>
    clear hn
    go_enter Try.func11, Try.ntmps11
    go_upto_region 1 with fail
    refine world_wp (DoW w b r s 1 th nn) D0 ?_
    clear D0
    intro W D
    have x0 := D.x0
    have x1 := D.x1
    have x2 := D.x2
    go_wp2_with (first | (go_at_call 23; refine (rin_c _ _ _ _ D.p.ref hy).mono ?_; rintro e w' ⟨rfl, rfl⟩) | (go_at_call 15; refine (base_no _ _ s th nn D.p.g D.p.ok HN.out).mono ?_; rintro e w' ⟨rfl, rfl⟩))
    go_ret
    exact ⟨rfl, D.p, D.u⟩
  | true =>
    by_cases h0 : 0 ≤ nn
    · have h1 : ¬ nn ≤ 31 := by
        intro h1
        simp [prioF, h0, h1] at hn
      clear hn
      go_enter Try.func11, Try.ntmps11
      go_upto_region 1 with fail
      refine world_wp (DoW w b r s 1 th nn) D0 ?_
      clear D0
      intro W D
      have x0 := D.x0
      have x1 := D.x1
      have x2 := D.x2
      go_wp2_with (first | (go_at_call 23; refine (rin_c _ _ _ _ D.p.ref hy).mono ?_; rintro e w' ⟨rfl, rfl⟩) | (go_at_call 15; refine (base_no _ _ s th nn D.p.g D.p.ok HN.out).mono ?_; rintro e w' ⟨rfl, rfl⟩))
      go_ret
      exact ⟨rfl, D.p, D.u⟩
    · clear hn
      have hd : decide (0 ≤ nn) = false := decide_eq_false h0
      go_enter Try.func11, Try.ntmps11
      go_upto_region 1 with fail
      refine world_wp (DoW w b r s 1 th nn) D0 ?_
      clear D0
      intro W D
      have x0 := D.x0
      have x1 := D.x1
      have x2 := D.x2
      go_wp2_with (first | (go_at_call 23; refine (rin_c _ _ _ _ D.p.ref hy).mono ?_; rintro e w' ⟨rfl, rfl⟩) | (go_at_call 15; refine (base_no _ _ s th nn D.p.g D.p.ok HN.out).mono ?_; rintro e w' ⟨rfl, rfl⟩))
      go_ret
      exact ⟨rfl, D.p, D.u⟩

theorem do_ceil_ok (w : World) (b r : Nat) (s : Gs) (t : Nat) (nn : Int) (p : Pair w b r s) (ht : t < s.n) (hp : 0 ≤ nn ∧ nn ≤ 31) :
    Calls Try.prog 11 #[.pointer (some ⟨b, 0, none⟩), .pointer (some ⟨r, 0, none⟩), stepV 2 t nn] w (DoPost w b r { s with ce := upd s.ce t nn }) := by
  have hi : inF s t = true := by simp [inF, ht]
  have n2 := p.ok.n2
  have hti : (t : Int) < 16 := by omega
  have hp0 := hp.1
  have hp1 := hp.2
  have hbw := has_lt p.g
  have hrw := has_lt p.ref
  have HP := Lib.hid hp
  clear hp
  have D0 := do_in p 2 t nn
  go_enter Try.func11, Try.ntmps11
  go_upto_region 1 with fail
  refine world_wp (DoW w b r s 2 t nn) D0 ?_
  clear D0
  intro W D
  have x0 := D.x0
  have x1 := D.x1
  have x2 := D.x2
  have cn := (r_cells D.p.ref).1
  go_upto_region 11 with (go_at_call 23; refine (rin_c _ _ _ _ D.p.ref hi).mono ?_; rintro e w' ⟨rfl, rfl⟩)
  go_upto_region 13 with (go_at_call 16; refine (ceil_c _ _ s t nn D.p.g D.p.ok ht HP.out).mono ?_; rintro e w1 ⟨rfl, u⟩)
  obtain ⟨hR, u2, y1, y2, hz⟩ := D.g1 hbw u
  have hG := u.1
  have hOk : GOk { s with ce := upd s.ce t nn } := p.ok.ce' ht HP.out
  have U : Upd w1 r (rO { s with ce := upd s.ce t nn }) _ := ((Upd.refl hR).setCell (17 + t) (.int .i64 nn)).drew.to (by rw [four_set2 _ _ _ _ _ (by omega)]; rfl)
  have fz := has_free hR
  have hc := ((r_cells hR).2 t (by omega)).2.1
  clear D x0 x1 x2 u
  refine still_tail 8 (by kernel_rfl) (by kernel_rfl) ?_
  simp only [List.take_succ_cons, List.take_zero, List.drop_succ_cons, List.drop_zero]
  repeat still_step
  refine wpStill_nil ?_
  go_wp2_with fail
  go_ret
  exact ⟨rfl, ⟨U.other hG p.ne, U.1, hOk⟩, u2.right U⟩

theorem do_ceil_no (w : World) (b r : Nat) (s : Gs) (th nn : Int) (p : Pair w b r s) (hn : (inF s th && prioF nn) = false) :
    Calls Try.prog 11 #[.pointer (some ⟨b, 0, none⟩), .pointer (some ⟨r, 0, none⟩), stepV 2 th nn] w (DoPost w b r s) := by
  have D0 := do_in p 2 th nn
  obtain ⟨y, hy⟩ : ∃ y, inF s th = y := ⟨_, rfl⟩
  have HN := Lib.hid hn
  rw [hy] at hn
  cases y with
  | false =>
    clear hn
    go_enter Try.func11, Try.ntmps11
    go_upto_region 1 with fail
    refine world_wp (DoW w b r s 2 th nn) D0 ?_
    clear D0
    intro W D
    have x0 := D.x0
    have x1 := D.x1
    have x2 := D.x2
    go_wp2_with (first | (go_at_call 23; refine (rin_c _ _ _ _ D.p.ref hy).mono ?_; rintro e w' ⟨rfl, rfl⟩) | (go_at_call 16; refine (ceil_no _ _ s th nn D.p.g D.p.ok HN.out).mono ?_; rintro e w' ⟨rfl, rfl⟩))
    go_ret
    exact ⟨rfl, D.p, D.u⟩
  | true =>
    by_cases h0 : 0 ≤ nn
    · have h1 : ¬ nn ≤ 31 := by
        intro h1
        simp [prioF, h0, h1] at hn
      clear hn
      go_enter Try.func11, Try.ntmps11
      go_upto_region 1 with fail
      refine world_wp (DoW w b r s 2 th nn) D0 ?_
      clear D0
      intro W D
      have x0 := D.x0
      have x1 := D.x1
      have x2 := D.x2
      go_wp2_with (first | (go_at_call 23; refine (rin_c _ _ _ _ D.p.ref hy).mono ?_; rintro e w' ⟨rfl, rfl⟩) | (go_at_call 16; refine (ceil_no _ _ s th nn D.p.g D.p.ok HN.out).mono ?_; rintro e w' ⟨rfl, rfl⟩))
      go_ret
      exact ⟨rfl, D.p, D.u⟩
    · clear hn
      have hd : decide (0 ≤ nn) = false := decide_eq_false h0
      go_enter Try.func11, Try.ntmps11
      go_upto_region 1 with fail
      refine world_wp (DoW w b r s 2 th nn) D0 ?_
      clear D0
      intro W D
      have x0 := D.x0
      have x1 := D.x1
      have x2 := D.x2
      go_wp2_with (first | (go_at_call 23; refine (rin_c _ _ _ _ D.p.ref hy).mono ?_; rintro e w' ⟨rfl, rfl⟩) | (go_at_call 16; refine (ceil_no _ _ s th nn D.p.g D.p.ok HN.out).mono ?_; rintro e w' ⟨rfl, rfl⟩))
      go_ret
      exact ⟨rfl, D.p, D.u⟩

theorem do_wait_ok (w : World) (b r : Nat) (s : Gs) (t : Nat) (nn : Int) (p : Pair w b r s) (ht : t < s.n) (hp : -1 ≤ nn ∧ nn < s.n) :
    Calls Try.prog 11 #[.pointer (some ⟨b, 0, none⟩), .pointer (some ⟨r, 0, none⟩), stepV 3 t nn] w (DoPost w b r { s with wt := upd s.wt t nn }) := by
  have hi : inF s t = true := by simp [inF, ht]
  have n2 := p.ok.n2
  have hti : (t : Int) < 16 := by omega
  have hp0 := hp.1
  have hp1 := hp.2
  have hbw := has_lt p.g
  have hrw := has_lt p.ref
  have HP := Lib.hid hp
  clear hp
  have D0 := do_in p 3 t nn
  go_enter Try.func11, Try.ntmps11
  go_upto_region 1 with fail
  refine world_wp (DoW w b r s 3 t nn) D0 ?_
  clear D0
  intro W D
  have x0 := D.x0
  have x1 := D.x1
  have x2 := D.x2
  have cn := (r_cells D.p.ref).1
  go_upto_region 16 with (go_at_call 23; refine (rin_c _ _ _ _ D.p.ref hi).mono ?_; rintro e w' ⟨rfl, rfl⟩)
  go_quiet (fail)
  go_upto_region 17 with fail
  refine world_wp (DoW w b r s 3 t nn) ⟨D.p.reads (below_drewN (Below.refl _ _) _), D.u.reads (below_drewN (Below.refl _ _) _), x0, x1, x2, D.lt⟩ ?_
  clear x0 x1 x2 cn D
  intro W D
  have x0 := D.x0
  have x1 := D.x1
  have x2 := D.x2
  go_upto_region 19 with (go_at_call 17; refine (waits_c _ _ s t nn D.p.g D.p.ok ht HP.out).mono ?_; rintro e w1 ⟨rfl, u⟩)
  obtain ⟨hR, u2, y1, y2, hz⟩ := D.g1 hbw u
  have hG := u.1
  have hOk : GOk { s with wt := upd s.wt t nn } := p.ok.wt' ht HP.out
  have U : Upd w1 r (rO { s with wt := upd s.wt t nn }) _ := ((Upd.refl hR).setCell (33 + t) (.int .i64 nn)).drew.to (by rw [four_set3 _ _ _ _ _ (by omega)]; rfl)
  have fz := has_free hR
  have hc := ((r_cells hR).2 t (by omega)).2.2
  clear D x0 x1 x2 u
  refine still_tail 8 (by kernel_rfl) (by kernel_rfl) ?_
  simp only [List.take_succ_cons, List.take_zero, List.drop_succ_cons, List.drop_zero]
  repeat still_step
  refine wpStill_nil ?_
  go_wp2_with fail
  go_ret
  exact ⟨rfl, ⟨U.other hG p.ne, U.1, hOk⟩, u2.right U⟩

theorem do_wait_no (w : World) (b r : Nat) (s : Gs) (th nn : Int) (p : Pair w b r s) (hn : (inF s th && ownerF s nn) = false) :
    Calls Try.prog 11 #[.pointer (some ⟨b, 0, none⟩), .pointer (some ⟨r, 0, none⟩), stepV 3 th nn] w (DoPost w b r s) := by
  have D0 := do_in p 3 th nn
  obtain ⟨y, hy⟩ : ∃ y, inF s th = y := ⟨_, rfl⟩
  have HN := Lib.hid hn
  rw [hy] at hn
  cases y with
  | false =>
    clear hn
    go_enter Try.func11, Try.ntmps11
    go_upto_region 1 with fail
    refine world_wp (DoW w b r s 3 th nn) D0 ?_
    clear D0
    intro W D
    have x0 := D.x0
    have x1 := D.x1
    have x2 := D.x2
    have cn := (r_cells D.p.ref).1
    go_upto_region 16 with (go_at_call 23; refine (rin_c _ _ _ _ D.p.ref hy).mono ?_; rintro e w' ⟨rfl, rfl⟩)
    go_quiet (fail)
    go_upto_region 17 with fail
    refine world_wp (DoW w b r s 3 th nn) ⟨D.p.reads (below_drewN (Below.refl _ _) _), D.u.reads (below_drewN (Below.refl _ _) _), x0, x1, x2, D.lt⟩ ?_
    clear x0 x1 x2 cn D
    intro W D
    have x0 := D.x0
    have x1 := D.x1
    have x2 := D.x2
    go_wp2_with (go_at_call 17; refine (waits_no _ _ s th nn D.p.g D.p.ok HN.out).mono ?_; rintro e w' ⟨rfl, rfl⟩)
    go_ret
    exact ⟨rfl, D.p, D.u⟩
  | true =>
    by_cases h0 : -1 ≤ nn
    · have h1 : ¬ nn < s.n := by
        intro h1
        simp [ownerF, h0, h1] at hn
      clear hn
      go_enter Try.func11, Try.ntmps11
      go_upto_region 1 with fail
      refine world_wp (DoW w b r s 3 th nn) D0 ?_
      clear D0
      intro W D
      have x0 := D.x0
      have x1 := D.x1
      have x2 := D.x2
      have cn := (r_cells D.p.ref).1
      go_upto_region 16 with (go_at_call 23; refine (rin_c _ _ _ _ D.p.ref hy).mono ?_; rintro e w' ⟨rfl, rfl⟩)
      go_quiet (fail)
      go_upto_region 17 with fail
      refine world_wp (DoW w b r s 3 th nn) ⟨D.p.reads (below_drewN (Below.refl _ _) _), D.u.reads (below_drewN (Below.refl _ _) _), x0, x1, x2, D.lt⟩ ?_
      clear x0 x1 x2 cn D
      intro W D
      have x0 := D.x0
      have x1 := D.x1
      have x2 := D.x2
      go_wp2_with (go_at_call 17; refine (waits_no _ _ s th nn D.p.g D.p.ok HN.out).mono ?_; rintro e w' ⟨rfl, rfl⟩)
      go_ret
      exact ⟨rfl, D.p, D.u⟩
    · clear hn
      have hd : decide (-1 ≤ nn) = false := decide_eq_false h0
      go_enter Try.func11, Try.ntmps11
      go_upto_region 1 with fail
      refine world_wp (DoW w b r s 3 th nn) D0 ?_
      clear D0
      intro W D
      have x0 := D.x0
      have x1 := D.x1
      have x2 := D.x2
      have cn := (r_cells D.p.ref).1
      go_upto_region 16 with (go_at_call 23; refine (rin_c _ _ _ _ D.p.ref hy).mono ?_; rintro e w' ⟨rfl, rfl⟩)
      go_quiet (fail)
      go_upto_region 17 with fail
      refine world_wp (DoW w b r s 3 th nn) ⟨D.p.reads (below_drewN (Below.refl _ _) _), D.u.reads (below_drewN (Below.refl _ _) _), x0, x1, x2, D.lt⟩ ?_
      clear x0 x1 x2 cn D
      intro W D
      have x0 := D.x0
      have x1 := D.x1
      have x2 := D.x2
      go_wp2_with (go_at_call 17; refine (waits_no _ _ s th nn D.p.g D.p.ok HN.out).mono ?_; rintro e w' ⟨rfl, rfl⟩)
      go_ret
      exact ⟨rfl, D.p, D.u⟩

theorem does_c (w : World) (b r : Nat) (s : Gs) (kd th nn : Int) (p : Pair w b r s) :
    Calls Try.prog 11 #[.pointer (some ⟨b, 0, none⟩), .pointer (some ⟨r, 0, none⟩), stepV kd th nn] w (DoPost w b r (stepF s kd th nn)) := by
  unfold stepF
  by_cases h1 : kd = 1
  · subst h1
    rw [if_pos rfl]
    by_cases h : (inF s th && prioF nn) = true
    · rw [if_pos h]
      simp only [Bool.and_eq_true] at h
      obtain ⟨k, rfl, hk⟩ := inF_nat h.1
      exact do_base_ok w b r s k nn p hk (prioF_rng h.2)
    · rw [if_neg h]
      exact do_base_no w b r s th nn p (by simpa using h)
  rw [if_neg h1]
  by_cases h2 : kd = 2
  · subst h2
    rw [if_pos rfl]
    by_cases h : (inF s th && prioF nn) = true
    · rw [if_pos h]
      simp only [Bool.and_eq_true] at h
      obtain ⟨k, rfl, hk⟩ := inF_nat h.1
      exact do_ceil_ok w b r s k nn p hk (prioF_rng h.2)
    · rw [if_neg h]
      exact do_ceil_no w b r s th nn p (by simpa using h)
  rw [if_neg h2]
  by_cases h3 : kd = 3
  · subst h3
    rw [if_pos rfl]
    by_cases h : (inF s th && ownerF s nn) = true
    · rw [if_pos h]
      simp only [Bool.and_eq_true] at h
      obtain ⟨k, rfl, hk⟩ := inF_nat h.1
      exact do_wait_ok w b r s k nn p hk (ownerF_rng h.2)
    · rw [if_neg h]
      exact do_wait_no w b r s th nn p (by simpa using h)
  rw [if_neg h3]
  exact do_none w b r s kd th nn p h1 h2 h3
end Go.Proofs.Ytkjcchepgpbiiaa
