/- One step of the law: both do the same. Conditions: the two stand alike. -/
import Derived.Test.YtcchebjeohdkfaaC21M
import Derived.Deep.RegionHeld3
namespace Go.Proofs.Ytcchebjeohdkfaa
open Go.RowKit

theorem upd_undrew {w w' : World} {b : Nat} {o : Obj} (h : Upd w.drew b o w') : Upd w b o w' := ⟨h.1, h.2.os, h.2.tape, h.2.output, h.2.size, h.2.block⟩
theorem upd2_undrew {w w' : World} {b c : Nat} (h : Upd2 w.drew b c w') : Upd2 w b c w' := ⟨h.os, h.tape, h.output, h.size, h.block⟩
/-- The program's keys and the document's, alike. -/
structure KP (w : World) (b r g : Nat) (s : Ks) : Prop where
  kb : w.heap[b]? = some (kO s)
  rk : RK w r g s
  ok : KOk s
theorem kb_ne {w : World} {b r g : Nat} {s t : Ks} (h : w.heap[b]? = some (kO s)) (k : RK w r g t) : b ≠ r ∧ b ≠ g := by
  constructor
  · rintro rfl
    have := k.kb
    rw [h] at this
    injection this with this
    injection this with _ h2
    cases h2
  · rintro rfl
    have := k.kg
    rw [h] at this
    injection this with this
    injection this with _ h2
    cases h2
theorem KP.reads {w w' : World} {b r g : Nat} {s : Ks} (h : KP w b r g s) (u : Below w.heap.size w w') : KP w' b r g s := ⟨below_has u h.kb, h.rk.reads u, h.ok⟩
/-- Within one step. -/
structure DW (w W : World) (b r g : Nat) (s t : Ks) (cs : Array Value) : Prop where
  kb : W.heap[b]? = some (kO s)
  rk : RK W r g t
  bel : ∀ B, B ≤ b → B ≤ r → B ≤ g → B ≤ w.heap.size → Below B w W
  box : W.heap[w.heap.size]? = some (.cells cs 65 (0, 0))
  lt : b < w.heap.size ∧ r < w.heap.size ∧ g < w.heap.size
theorem DW.size {w W : World} {b r g : Nat} {s t : Ks} {cs : Array Value} (h : DW w W b r g s t cs) : w.heap.size < W.heap.size := has_lt h.box
theorem DW.prog {w W W' : World} {b r g : Nat} {s s' t : Ks} {cs : Array Value} (h : DW w W b r g s t cs) (u : Upd W b (kO s') W') : DW w W' b r g s' t cs :=
  ⟨u.1, ⟨u.other h.rk.kb (Ne.symm (kb_ne h.kb h.rk).1), u.other h.rk.kg (Ne.symm (kb_ne h.kb h.rk).2)⟩, fun B h1 h2 h3 h4 => (h.bel B h1 h2 h3 h4).trans (u.below h1 (Nat.le_trans h4 (Nat.le_of_lt h.size))), u.other h.box (by have := h.lt; omega), h.lt⟩
theorem DW.doc {w W W' : World} {b r g : Nat} {s t t' : Ks} {cs : Array Value} (h : DW w W b r g s t cs) (k : RK W' r g t') (u : Upd2 W r g W') : DW w W' b r g s t' cs :=
  ⟨u.other h.kb (kb_ne h.kb h.rk).1 (kb_ne h.kb h.rk).2, k, fun B h1 h2 h3 h4 => (h.bel B h1 h2 h3 h4).trans (u.below h2 h3 (Nat.le_trans h4 (Nat.le_of_lt h.size))), u.other h.box (by have := h.lt; omega) (by have := h.lt; omega), h.lt⟩
theorem DW.reads {w W W' : World} {b r g : Nat} {s t : Ks} {cs : Array Value} (h : DW w W b r g s t cs) (u : Below W.heap.size W W') : DW w W' b r g s t cs :=
  ⟨below_has u h.kb, h.rk.reads u, fun B h1 h2 h3 h4 => below_reads (h.bel B h1 h2 h3 h4) u (Nat.le_trans h4 (Nat.le_of_lt h.size)), below_has u h.box, h.lt⟩
theorem do_in {w : World} {b r g : Nat} {s : Ks} (h : KP w b r g s) (cs : Array Value) : DW w (w.alloc (.cells cs 65)) b r g s s cs :=
  have u : Below w.heap.size w (w.alloc (.cells cs 65)) := (Below.refl _ _).alloc (Nat.le_refl _) _
  ⟨below_has u h.kb, h.rk.reads u, fun B _ _ _ h4 => u.mono h4, heap_alloc_new _ _, ⟨has_lt h.kb, has_lt h.rk.kb, has_lt h.rk.kg⟩⟩
/-- What a step leaves. -/
def DoPost (w : World) (b r g : Nat) (e : Ending) (w' : World) : Prop := ∃ (b' : Nat) (s' : Ks), e = .returned (.tuple #[.pointer (some ⟨b', 0, none⟩), .pointer (some ⟨r, 0, none⟩), .bool true]) ∧ KP w' b' r g s' ∧ (b' = b ∨ w.heap.size ≤ b') ∧ ∀ B, B ≤ b → B ≤ r → B ≤ g → B ≤ w.heap.size → Below B w w'
theorem DW.post {w W : World} {b r g : Nat} {s : Ks} {cs : Array Value} (h : DW w W b r g s s cs) (ok : KOk s) : KP W b r g s ∧ (b = b ∨ w.heap.size ≤ b) ∧ ∀ B, B ≤ b → B ≤ r → B ≤ g → B ≤ w.heap.size → Below B w W := ⟨⟨h.kb, h.rk, ok⟩, .inl rfl, h.bel⟩
def stepV (kd n key t v : Int) : Value := .agg #[.int .i64 kd, .int .i64 n, .int .i64 key, .int .i64 t, .int .i64 v]
def stepC (kd n key t v : Int) : Array Value := #[.int .i64 kd, .int .i64 n, .int .i64 key, .int .i64 t, .int .i64 v]

theorem DW.cells {w W : World} {b r g : Nat} {s t : Ks} {k n y u v : Int} (h : DW w W b r g s t (stepC k n y u v)) : W.cell? ⟨w.heap.size, 0, none⟩ = some (.int .i64 k) ∧ W.cell? ⟨w.heap.size, 1, none⟩ = some (.int .i64 n) ∧ W.cell? ⟨w.heap.size, 2, none⟩ = some (.int .i64 y) ∧ W.cell? ⟨w.heap.size, 3, none⟩ = some (.int .i64 u) ∧ W.cell? ⟨w.heap.size, 4, none⟩ = some (.int .i64 v) :=
  ⟨has_cell 0 h.box rfl, has_cell 1 h.box rfl, has_cell 2 h.box rfl, has_cell 3 h.box rfl, has_cell 4 h.box rfl⟩
theorem create_some {w : World} {b i : Nat} {s : Ks} {d : Int} (h : w.heap[b]? = some (kO s)) (ok : KOk s) (hd : -1 ≤ d ∧ d < 32) (hF : freeF s = some i) :
    Calls Try.prog 10 #[.pointer (some ⟨b, 0, none⟩), .int .i64 d] w fun e w' => e = .returned (.tuple #[.int .i64 i, .int .i64 0]) ∧ Upd w b (kO (makeF s i d)) w' := by
  have := create_c w b s d h ok hd
  rw [hF] at this
  exact this
theorem create_none {w : World} {b : Nat} {s : Ks} {d : Int} (h : w.heap[b]? = some (kO s)) (ok : KOk s) (hd : -1 ≤ d ∧ d < 32) (hF : freeF s = none) :
    Calls Try.prog 10 #[.pointer (some ⟨b, 0, none⟩), .int .i64 d] w fun e w' => e = .returned (.tuple #[.int .i64 0, .int .i64 5]) ∧ w = w' := by
  have := create_c w b s d h ok hd
  rw [hF] at this
  exact this
theorem rcreate_some {w : World} {b g i : Nat} {s : Ks} {d : Int} (h : RK w b g s) (ok : KOk s) (hd : -1 ≤ d ∧ d < 32) (hF : freeF s = some i) :
    Calls Try.prog 39 #[.pointer (some ⟨b, 0, none⟩), .int .i64 d] w fun e w' => e = .returned (.tuple #[.int .i64 i, .int .i64 0]) ∧ RK w' b g (makeF s i d) ∧ Upd2 w b g w' := by
  have := rcreate_c w b g s d h ok hd
  rw [hF] at this
  exact this
theorem rcreate_none {w : World} {b g : Nat} {s : Ks} {d : Int} (h : RK w b g s) (ok : KOk s) (hd : -1 ≤ d ∧ d < 32) (hF : freeF s = none) :
    Calls Try.prog 39 #[.pointer (some ⟨b, 0, none⟩), .int .i64 d] w fun e w' => e = .returned (.tuple #[.int .i64 0, .int .i64 5]) ∧ w = w' := by
  have := rcreate_c w b g s d h ok hd
  rw [hF] at this
  exact this

set_option maxRecDepth 100000 in
set_option maxHeartbeats 4000000 in
theorem do_create_bad (w : World) (b r g : Nat) (s : Ks) (n key t v : Int) (p : KP w b r g s) (hd : n < -1 ∨ 32 ≤ n) :
    Calls Try.prog 23 #[.pointer (some ⟨b, 0, none⟩), .pointer (some ⟨r, 0, none⟩), stepV 1 n key t v] w (DoPost w b r g) := by
  have ok := p.ok
  unfold stepV
  go_enter Try.func23, Try.ntmps23
  go_upto_region 1 with fail
  refine world_wp (fun W => DW w W b r g s s (stepC 1 n key t v)) (do_in p _) ?_
  intro W hD
  obtain ⟨e0, e1, e2, e3, e4⟩ := hD.cells
  have P := Lib.hid p
  clear p
  have HDD := Lib.hid hd
  clear hd
  go_wp2_with (first
    | (go_at_call 10; refine (create_bad _ _ _ _ hD.kb ok HDD.out).mono ?_; rintro e w' ⟨rfl, rfl⟩)
    | (go_at_call 39; refine (rcreate_bad _ _ _ HDD.out).mono ?_; rintro e w' ⟨rfl, rfl⟩)
    | (go_at_call 9; refine (num_c _ _).mono ?_; rintro e w' ⟨rfl, rfl⟩))
  go_ret3
  exact ⟨b, _, rfl, hD.post ok⟩

set_option maxRecDepth 100000 in
set_option maxHeartbeats 4000000 in
theorem do_create_none (w : World) (b r g : Nat) (s : Ks) (n key t v : Int) (p : KP w b r g s) (hd : -1 ≤ n ∧ n < 32) (hF : freeF s = none) :
    Calls Try.prog 23 #[.pointer (some ⟨b, 0, none⟩), .pointer (some ⟨r, 0, none⟩), stepV 1 n key t v] w (DoPost w b r g) := by
  have ok := p.ok
  unfold stepV
  go_enter Try.func23, Try.ntmps23
  go_upto_region 1 with fail
  refine world_wp (fun W => DW w W b r g s s (stepC 1 n key t v)) (do_in p _) ?_
  intro W hD
  obtain ⟨e0, e1, e2, e3, e4⟩ := hD.cells
  have P := Lib.hid p
  clear p
  have HDD := Lib.hid hd
  have HFF := Lib.hid hF
  clear hd hF
  go_wp2_with (first
    | (go_at_call 10; refine (create_none hD.kb ok HDD.out HFF.out).mono ?_; rintro e w' ⟨rfl, rfl⟩)
    | (go_at_call 39; refine (rcreate_none hD.rk ok HDD.out HFF.out).mono ?_; rintro e w' ⟨rfl, rfl⟩)
    | (go_at_call 9; refine (num_c _ _).mono ?_; rintro e w' ⟨rfl, rfl⟩))
  go_ret3
  exact ⟨b, _, rfl, hD.post ok⟩

set_option maxRecDepth 100000 in
set_option maxHeartbeats 4000000 in
theorem do_create_some (w : World) (b r g : Nat) (s : Ks) (n key t v : Int) (p : KP w b r g s) (hd : -1 ≤ n ∧ n < 32) (i : Nat) (hF : freeF s = some i) :
    Calls Try.prog 23 #[.pointer (some ⟨b, 0, none⟩), .pointer (some ⟨r, 0, none⟩), stepV 1 n key t v] w (DoPost w b r g) := by
  have ok := p.ok
  unfold stepV
  go_enter Try.func23, Try.ntmps23
  go_upto_region 1 with fail
  refine world_wp (fun W => DW w W b r g s s (stepC 1 n key t v)) (do_in p _) ?_
  intro W hD
  obtain ⟨e0, e1, e2, e3, e4⟩ := hD.cells
  have P := Lib.hid p
  clear p
  have HDD := Lib.hid hd
  have HFF := Lib.hid hF
  clear hd hF
  go_wp2_with (first
    | (go_at_call 10; refine (create_some hD.kb ok HDD.out HFF.out).mono ?_; rintro e w1 ⟨rfl, u⟩; have hD1 := hD.prog u; have HD1 := Lib.hid hD1; have q1 := hD1.cells.2.1; clear hD1 u)
    | (go_at_call 39; refine (rcreate_some HD1.out.rk ok HDD.out HFF.out).mono ?_; rintro e w2 ⟨rfl, k2, u2⟩; have HD2 := Lib.hid (HD1.out.doc k2 u2); clear k2 u2)
    | (go_at_call 9; refine (num_c _ _).mono ?_; rintro e w' ⟨rfl, rfl⟩))
  go_ret3
  exact ⟨b, _, rfl, HD2.out.post (makeF_ok ok _ _)⟩

set_option maxRecDepth 100000 in
set_option maxHeartbeats 4000000 in
theorem do_delete_no (w : World) (b r g : Nat) (s : Ks) (n key t v : Int) (p : KP w b r g s) (hm : mkF s key = false) :
    Calls Try.prog 23 #[.pointer (some ⟨b, 0, none⟩), .pointer (some ⟨r, 0, none⟩), stepV 2 n key t v] w (DoPost w b r g) := by
  have ok := p.ok
  unfold stepV
  go_enter Try.func23, Try.ntmps23
  go_upto_region 1 with fail
  refine world_wp (fun W => DW w W b r g s s (stepC 2 n key t v)) (do_in p _) ?_
  intro W hD
  obtain ⟨e0, e1, e2, e3, e4⟩ := hD.cells
  have P := Lib.hid p
  clear p
  have HM := Lib.hid hm
  clear hm
  go_upto_region 7 with fail
  go_region_held3 (fun W' => W'.cell? ⟨w.heap.size, 2, none⟩ = some (.int .i64 key)) (first | exact e2)
    (first
      | (go_at_call 26; refine (delete_no _ _ _ _ (by exact hD.kb) ok HM.out).mono ?_; rintro e w' ⟨rfl, rfl⟩)
      | (go_at_call 40; refine (rdelete_no _ _ _ _ _ (by exact hD.rk.drewN 1) ok HM.out).mono ?_; rintro e w' ⟨rfl, rfl⟩)
      | (go_at_call 9; refine (num_c _ _).mono ?_; rintro e w' ⟨rfl, rfl⟩))
  all_goals go_wp2_with fail
  all_goals (go_ret3; exact ⟨b, _, rfl, (hD.reads (below_drewN (Below.refl _ _) 1)).post ok⟩)

set_option maxRecDepth 100000 in
set_option maxHeartbeats 4000000 in
theorem do_delete_ok (w : World) (b r g : Nat) (s : Ks) (n key t v : Int) (p : KP w b r g s) (i : Nat) (hk : key = i) (hi : i < s.n) (hm : (s.k i).is = true) :
    Calls Try.prog 23 #[.pointer (some ⟨b, 0, none⟩), .pointer (some ⟨r, 0, none⟩), stepV 2 n key t v] w (DoPost w b r g) := by
  have ok := p.ok
  subst hk
  unfold stepV
  go_enter Try.func23, Try.ntmps23
  go_upto_region 1 with fail
  refine world_wp (fun W => DW w W b r g s s (stepC 2 n i t v)) (do_in p _) ?_
  intro W hD
  obtain ⟨e0, e1, e2, e3, e4⟩ := hD.cells
  have P := Lib.hid p
  clear p
  have HM := Lib.hid hm
  have HI := Lib.hid hi
  clear hm hi
  go_upto_region 7 with fail
  go_region_held3 (fun W' => W'.cell? ⟨w.heap.size, 2, none⟩ = some (.int .i64 i)) (first | exact e2 | exact q2 | exact z2)
    (first
      | (go_at_call 26; refine (delete_c _ _ _ _ (by exact hD.kb) ok HI.out HM.out).mono ?_; rintro e w1 ⟨rfl, u⟩; have hD1 := hD.prog (upd_undrew u); have HD1 := Lib.hid hD1; have q2 := hD1.cells.2.2.1; clear hD1 u)
      | (go_at_call 40; refine (rdelete_c _ _ _ _ _ (by exact HD1.out.rk) ok HI.out HM.out).mono ?_; rintro e w2 ⟨rfl, k2, u2⟩; have hD2 := HD1.out.doc k2 u2; have HD2 := Lib.hid hD2; have z2 := hD2.cells.2.2.1; clear hD2 k2 u2)
      | (go_at_call 9; refine (num_c _ _).mono ?_; rintro e w' ⟨rfl, rfl⟩))
  all_goals go_wp2_with fail
  all_goals (go_ret3; exact ⟨b, _, rfl, HD2.out.post (dropF_ok ok _)⟩)

set_option maxRecDepth 100000 in
set_option maxHeartbeats 4000000 in
theorem do_set (w : World) (b r g : Nat) (s : Ks) (n key t v : Int) (p : KP w b r g s) :
    Calls Try.prog 23 #[.pointer (some ⟨b, 0, none⟩), .pointer (some ⟨r, 0, none⟩), stepV 3 n key t v] w (DoPost w b r g) := by
  have ok := p.ok
  unfold stepV
  go_enter Try.func23, Try.ntmps23
  go_upto_region 1 with fail
  refine world_wp (fun W => DW w W b r g s s (stepC 3 n key t v)) (do_in p _) ?_
  intro W hD
  obtain ⟨e0, e1, e2, e3, e4⟩ := hD.cells
  have P := Lib.hid p
  clear p
  go_upto_region 9 with fail
  go_region_held3 (fun W' => W'.cell? ⟨w.heap.size, 2, none⟩ = some (.int .i64 key) ∧ W'.cell? ⟨w.heap.size, 3, none⟩ = some (.int .i64 t) ∧ W'.cell? ⟨w.heap.size, 4, none⟩ = some (.int .i64 v)) (first | exact ⟨e2, e3, e4⟩ | exact ⟨q2, q3, q4⟩ | exact ⟨z2, z3, z4⟩)
    (first
      | (go_at_call 11; refine (set_c _ _ _ _ _ _ (by exact hD.kb) ok).mono ?_; rintro e w1 ⟨rfl, u⟩; have hD1 := hD.prog (upd_undrew u); have HD1 := Lib.hid hD1; have q2 := hD1.cells.2.2.1; have q3 := hD1.cells.2.2.2.1; have q4 := hD1.cells.2.2.2.2; clear hD1 u)
      | (go_at_call 41; refine (rset_c _ _ _ _ _ _ _ (by exact HD1.out.rk) ok).mono ?_; rintro e w2 ⟨rfl, k2, u2⟩; have hD2 := HD1.out.doc k2 u2; have HD2 := Lib.hid hD2; have z2 := hD2.cells.2.2.1; have z3 := hD2.cells.2.2.2.1; have z4 := hD2.cells.2.2.2.2; clear hD2 k2 u2))
  all_goals (
    have ok2 := setF_ok ok t key v
    generalize setF s t key v = s2 at HD2 ok2
    generalize eF s t key = z
    clear hD HD1 e0 e1 e2 e3 e4
    go_wp2_with (first
      | (go_at_call 12; refine (get_c _ _ _ _ _ HD2.out.kb ok2).mono ?_; rintro e w3 ⟨rfl, hb3⟩; have hD3 := HD2.out.reads hb3; have HD3 := Lib.hid hD3; have y2 := hD3.cells.2.2.1; have y3 := hD3.cells.2.2.2.1; clear hD3 hb3)
      | (go_at_call 42; refine (rget_c _ _ _ _ _ _ HD3.out.rk ok2).mono ?_; rintro e w' ⟨rfl, rfl⟩)
      | (go_at_call 9; refine (num_c _ _).mono ?_; rintro e w' ⟨rfl, rfl⟩))
    go_ret3
    exact ⟨b, _, by simp, HD3.out.post ok2⟩)
end Go.Proofs.Ytcchebjeohdkfaa
