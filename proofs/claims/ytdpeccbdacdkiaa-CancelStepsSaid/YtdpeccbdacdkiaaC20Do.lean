/- One step of a script, for both cancellations: they go on alike. Conditions: the blocks that are named hold what is said. -/
import Derived.Test.YtdpeccbdacdkiaaC20RefSame
namespace Go.Proofs.Ytdpeccbdacdkiaa
open Go.RowKit

theorem type_ne {w : World} {a b : Nat} {cs ds : Array Value} {T U : TypeId} (h : w.heap[a]? = some (.cells cs T (0, 0))) (k : w.heap[b]? = some (.cells ds U (0, 0))) (hT : T ≠ U) : a ≠ b := by
  rintro rfl
  have := h.symm.trans k
  injection this with e; injection e with _ e _; exact hT e
structure CSt (w : World) (B c r : Nat) (s : Cs) (v : Value) : Prop where
  can : w.heap[c]? = some (canO s)
  ref : RRef w B r s v
  top : s.L.length ≤ 8
  lc : B ≤ c
  lr : B ≤ r
  hB : B ≤ w.heap.size
theorem upd_undrew {w w' : World} {b : Nat} {o : Obj} (h : Upd w.drew b o w') : Upd w b o w' := ⟨h.1, h.2.os, h.2.tape, h.2.output, h.2.size, h.2.block⟩
theorem CSt.ne {w : World} {B c r : Nat} {s : Cs} {v : Value} (h : CSt w B c r s v) : c ≠ r := type_ne h.can h.ref.ref (by decide)
theorem CSt.reads {w w' : World} {B c r : Nat} {s : Cs} {v : Value} (h : CSt w B c r s v) (u : Below w.heap.size w w') : CSt w' B c r s v :=
  ⟨below_has u h.can, h.ref.reads u, h.top, h.lc, h.lr, Nat.le_trans h.hB u.size⟩
/-- The document's flags are turned. -/
theorem RRef.flag {w w' : World} {B r : Nat} {s t : Cs} {v : Value} (h : RRef w B r s v) (u : Upd w r (refO t v) w') (hL : t.L = s.L) : RRef w' B r t v :=
  ⟨u.1, by rw [hL]; exact own_upd h.own u (own_far h.own h.ref (by decide)), by rw [hL]; exact h.nil⟩
theorem RRef.far {w w' : World} {B c r : Nat} {s t u' : Cs} {v : Value} (h : RRef w B r s v) (hc : w.heap[c]? = some (canO t)) (u : Upd w c (canO u') w') : RRef w' B r s v :=
  h.upd u (type_ne h.ref hc (by decide)) (own_far h.own hc (by decide))
def DoPost (w : World) (B c r : Nat) (e : Ending) (w' : World) : Prop :=
  ∃ c' s' v', e = .returned (.tuple #[.pointer (some ⟨c', 0, none⟩), .pointer (some ⟨r, 0, none⟩), .bool true]) ∧ CSt w' B c' r s' v' ∧ Upd2 w c r w' ∧ (c' = c ∨ w.heap.size ≤ c')
abbrev stepV (kd : Int) (on : Bool) (p q : Int) : Value := .agg #[.int .i64 kd, .bool on, .int .i64 p, .int .i64 q]
abbrev stepO (kd : Int) (on : Bool) (p q : Int) : Obj := .cells #[.int .i64 kd, .bool on, .int .i64 p, .int .i64 q] 32 (0, 0)
set_option maxRecDepth 100000 in
set_option maxHeartbeats 1000000 in
theorem do_ask (w : World) (B c r : Nat) (s : Cs) (v : Value) (x : Bool) (p q : Int) (h : CSt w B c r s v) :
    Calls Try.prog 9 #[.pointer (some ⟨c, 0, none⟩), .pointer (some ⟨r, 0, none⟩), stepV 1 x p q] w (DoPost w B c r) := by
  have H := Lib.hid h
  clear h
  go_enter Try.func9, Try.ntmps9
  go_upto_region 1 with fail
  refine world_wp (fun W => Below w.heap.size w W ∧ W.heap[w.heap.size]? = some (stepO 1 x p q)) ⟨(Below.refl _ _).alloc (Nat.le_refl _) _, heap_alloc_new _ _⟩ ?_
  rintro W ⟨hB, hX⟩
  have hD := H.out.reads hB
  have u0 : Upd2 w c r W := (Upd2.refl w c r).reads hB
  have e0 := has_cell 0 hX rfl
  have e1 := has_cell 1 hX rfl
  have e2 := has_cell 2 hX rfl
  have e3 := has_cell 3 hX rfl
  have hr := hD.ref.ref
  have f0 := has_cell 0 hr rfl
  have fz := has_free hr
  go_upto_region 5 with fail
  refine upd_wp ((Upd.refl hr).setCell 0 (.bool true)) ?_
  intro W1 u1
  have u1' : Upd W r (refO { s with ak := true } v) W1 := u1.to rfl
  have hR1 := hD.ref.flag u1' rfl
  have hC1 := u1.other hD.can hD.ne
  have hX1 := u1.other hX (by have := has_lt H.out.ref.ref; omega)
  have e0 := has_cell 0 hX1 rfl
  have e1 := has_cell 1 hX1 rfl
  have v1 := u0.right u1
  have hT := hD.top
  have hz := u1.size
  clear f0 fz hr
  go_wp2_with fail
  refine (ask_c _ _ _ (by exact hC1) hT).mono ?_; rintro e w2 ⟨rfl, u2⟩
  have hR2 := hR1.far hC1 u2
  have v2 := v1.left u2
  have hF : CSt w2 B c r { s with ak := true } v := ⟨u2.1, hR2, hT, hD.lc, hD.lr, by have := hD.hB; have := u2.size; omega⟩
  clear hR1 hC1 hX1 u1 u1' u2 hR2 u0 v1
  go_wp2_with (go_at_call 16; refine (num_c _ _).mono ?_; rintro e w' ⟨rfl, rfl⟩)
  go_ret3
  exact ⟨c, _, v, by simp, hF, v2, .inl rfl⟩
set_option maxRecDepth 100000 in
set_option maxHeartbeats 1000000 in
theorem do_en (w : World) (B c r : Nat) (s : Cs) (v : Value) (x : Bool) (p q : Int) (h : CSt w B c r s v) :
    Calls Try.prog 9 #[.pointer (some ⟨c, 0, none⟩), .pointer (some ⟨r, 0, none⟩), stepV 2 x p q] w (DoPost w B c r) := by
  have H := Lib.hid h
  clear h
  go_enter Try.func9, Try.ntmps9
  go_upto_region 1 with fail
  refine world_wp (fun W => Below w.heap.size w W ∧ W.heap[w.heap.size]? = some (stepO 2 x p q)) ⟨(Below.refl _ _).alloc (Nat.le_refl _) _, heap_alloc_new _ _⟩ ?_
  rintro W ⟨hB, hX⟩
  have hD := H.out.reads hB
  have u0 : Upd2 w c r W := (Upd2.refl w c r).reads hB
  have e0 := has_cell 0 hX rfl
  have e1 := has_cell 1 hX rfl
  have e2 := has_cell 2 hX rfl
  have e3 := has_cell 3 hX rfl
  have hr := hD.ref.ref
  have f1 := has_cell 1 hr rfl
  have fz := has_free hr
  go_upto_region 10 with fail
  refine upd_wp ((Upd.refl hr).setCell 1 (.bool (!x))) ?_
  intro W1 u1
  have u1' : Upd W r (refO { s with on := x } v) W1 := u1.to rfl
  have hR1 := hD.ref.flag u1' rfl
  have hC1 := u1.other hD.can hD.ne
  have hX1 := u1.other hX (by have := has_lt H.out.ref.ref; omega)
  have e0 := has_cell 0 hX1 rfl
  have e1 := has_cell 1 hX1 rfl
  have v1 := u0.right u1
  have hT := hD.top
  have hz := u1.size
  clear f1 fz hr
  go_wp2_with fail
  refine (enable_c _ _ _ x (by exact hC1) hT).mono ?_; rintro e w2 ⟨rfl, u2⟩
  have hR2 := hR1.far hC1 u2
  have v2 := v1.left u2
  have hF : CSt w2 B c r { s with on := x } v := ⟨u2.1, hR2, hT, hD.lc, hD.lr, by have := hD.hB; have := u2.size; omega⟩
  clear hR1 hC1 hX1 u1 u1' u2 hR2 u0 v1
  go_wp2_with (go_at_call 16; refine (num_c _ _).mono ?_; rintro e w' ⟨rfl, rfl⟩)
  go_ret3
  exact ⟨c, _, v, by simp, hF, v2, .inl rfl⟩
set_option maxRecDepth 100000 in
set_option maxHeartbeats 1000000 in
theorem do_asy (w : World) (B c r : Nat) (s : Cs) (v : Value) (x : Bool) (p q : Int) (h : CSt w B c r s v) :
    Calls Try.prog 9 #[.pointer (some ⟨c, 0, none⟩), .pointer (some ⟨r, 0, none⟩), stepV 3 x p q] w (DoPost w B c r) := by
  have H := Lib.hid h
  clear h
  go_enter Try.func9, Try.ntmps9
  go_upto_region 1 with fail
  refine world_wp (fun W => Below w.heap.size w W ∧ W.heap[w.heap.size]? = some (stepO 3 x p q)) ⟨(Below.refl _ _).alloc (Nat.le_refl _) _, heap_alloc_new _ _⟩ ?_
  rintro W ⟨hB, hX⟩
  have hD := H.out.reads hB
  have u0 : Upd2 w c r W := (Upd2.refl w c r).reads hB
  have e0 := has_cell 0 hX rfl
  have e1 := has_cell 1 hX rfl
  have e2 := has_cell 2 hX rfl
  have e3 := has_cell 3 hX rfl
  have hr := hD.ref.ref
  have f2 := has_cell 2 hr rfl
  have fz := has_free hr
  go_upto_region 15 with fail
  refine upd_wp ((Upd.refl hr).setCell 2 (.bool x)) ?_
  intro W1 u1
  have u1' : Upd W r (refO { s with ay := x } v) W1 := u1.to rfl
  have hR1 := hD.ref.flag u1' rfl
  have hC1 := u1.other hD.can hD.ne
  have hX1 := u1.other hX (by have := has_lt H.out.ref.ref; omega)
  have e0 := has_cell 0 hX1 rfl
  have e1 := has_cell 1 hX1 rfl
  have v1 := u0.right u1
  have hT := hD.top
  have hz := u1.size
  clear f2 fz hr
  go_wp2_with fail
  refine (async_c _ _ _ x (by exact hC1) hT).mono ?_; rintro e w2 ⟨rfl, u2⟩
  have hR2 := hR1.far hC1 u2
  have v2 := v1.left u2
  have hF : CSt w2 B c r { s with ay := x } v := ⟨u2.1, hR2, hT, hD.lc, hD.lr, by have := hD.hB; have := u2.size; omega⟩
  clear hR1 hC1 hX1 u1 u1' u2 hR2 u0 v1
  go_wp2_with (go_at_call 16; refine (num_c _ _).mono ?_; rintro e w' ⟨rfl, rfl⟩)
  go_ret3
  exact ⟨c, _, v, by simp, hF, v2, .inl rfl⟩
set_option maxRecDepth 100000 in
set_option maxHeartbeats 1000000 in
theorem do_other (w : World) (B c r : Nat) (s : Cs) (v : Value) (x : Bool) (p q : Int) (h : CSt w B c r s v) (kd : Int) (h1 : kd ≠ 1) (h2 : kd ≠ 2) (h3 : kd ≠ 3) (h4 : kd ≠ 4) (h5 : kd ≠ 5) (h6 : kd ≠ 6) (h7 : kd ≠ 7) :
    Calls Try.prog 9 #[.pointer (some ⟨c, 0, none⟩), .pointer (some ⟨r, 0, none⟩), stepV kd x p q] w (DoPost w B c r) := by
  have b1 : (kd == 1) = false := by simpa using h1
  have b2 : (kd == 2) = false := by simpa using h2
  have b3 : (kd == 3) = false := by simpa using h3
  have b4 : (kd == 4) = false := by simpa using h4
  have b5 : (kd == 5) = false := by simpa using h5
  have b6 : (kd == 6) = false := by simpa using h6
  have b7 : (kd == 7) = false := by simpa using h7
  clear h1 h2 h3 h4 h5 h6 h7
  have H := Lib.hid h
  clear h
  go_enter Try.func9, Try.ntmps9
  go_upto_region 1 with fail
  refine world_wp (fun W => Below w.heap.size w W ∧ W.heap[w.heap.size]? = some (stepO kd x p q)) ⟨(Below.refl _ _).alloc (Nat.le_refl _) _, heap_alloc_new _ _⟩ ?_
  rintro W ⟨hB, hX⟩
  have hD := H.out.reads hB
  have u0 : Upd2 w c r W := (Upd2.refl w c r).reads hB
  have e0 := has_cell 0 hX rfl
  have e1 := has_cell 1 hX rfl
  have e2 := has_cell 2 hX rfl
  have e3 := has_cell 3 hX rfl
  go_wp2_with fail
  go_ret3
  exact ⟨c, s, v, rfl, hD, u0, .inl rfl⟩
set_option maxRecDepth 100000 in
set_option maxHeartbeats 1000000 in
theorem do_unw (w : World) (B c r : Nat) (s : Cs) (v : Value) (x : Bool) (p q : Int) (h : CSt w B c r s v) :
    Calls Try.prog 9 #[.pointer (some ⟨c, 0, none⟩), .pointer (some ⟨r, 0, none⟩), stepV 6 x p q] w (DoPost w B c r) := by
  have H := Lib.hid h
  clear h
  go_enter Try.func9, Try.ntmps9
  go_upto_region 1 with fail
  refine world_wp (fun W => Below w.heap.size w W ∧ W.heap[w.heap.size]? = some (stepO 6 x p q)) ⟨(Below.refl _ _).alloc (Nat.le_refl _) _, heap_alloc_new _ _⟩ ?_
  rintro W ⟨hB, hX⟩
  have hD := H.out.reads hB
  have u0 : Upd2 w c r W := (Upd2.refl w c r).reads hB
  have e0 := has_cell 0 hX rfl
  have e1 := has_cell 1 hX rfl
  have e2 := has_cell 2 hX rfl
  have e3 := has_cell 3 hX rfl
  have hT := hD.top
  go_wp2_with fail
  refine (unwind_c _ _ _ (by exact hD.can) hT).mono ?_; rintro e w2 ⟨rfl, u2⟩
  have hR2 := hD.ref.far hD.can u2
  have v2 := u0.left u2
  have hX2 := u2.other hX (by have := has_lt H.out.can; omega)
  obtain ⟨z, hz⟩ : ∃ z : Int, (if s.un = true then (7 : Int) else 0) = z := ⟨_, rfl⟩
  have HZ := Lib.hid hz
  rw [hz]
  clear hz
  go_wp2_with (go_at_call 16; refine (num_c _ _).mono ?_; rintro e w' ⟨rfl, rfl⟩)
  refine (runwind_c _ B r _ v hR2).mono ?_; rintro e w3 ⟨rfl, hR3, u3⟩
  rw [HZ.out]
  have hC3 := u3.other u2.1 hD.ne
  have v3 := v2.right u3
  have hF : CSt w3 B c r { s with un := true } v := ⟨hC3, hR3, hT, hD.lc, hD.lr, by have := hD.hB; have := u2.size; have := u3.size; omega⟩
  clear u2 hR2 v2 u3 hR3 hC3 hX2 u0
  go_wp2_with fail
  go_ret3
  exact ⟨c, _, v, by simp, hF, v3, .inl rfl⟩
set_option maxRecDepth 100000 in
set_option maxHeartbeats 1000000 in
theorem do_push (w : World) (B c r : Nat) (s : Cs) (v : Value) (x : Bool) (p q : Int) (h : CSt w B c r s v) :
    Calls Try.prog 9 #[.pointer (some ⟨c, 0, none⟩), .pointer (some ⟨r, 0, none⟩), stepV 4 x p q] w (DoPost w B c r) := by
  have H := Lib.hid h
  clear h
  go_enter Try.func9, Try.ntmps9
  go_upto_region 1 with fail
  refine world_wp (fun W => Below w.heap.size w W ∧ W.heap[w.heap.size]? = some (stepO 4 x p q)) ⟨(Below.refl _ _).alloc (Nat.le_refl _) _, heap_alloc_new _ _⟩ ?_
  rintro W ⟨hB, hX⟩
  have hD := H.out.reads hB
  have u0 : Upd2 w c r W := (Upd2.refl w c r).reads hB
  have e0 := has_cell 0 hX rfl
  have e1 := has_cell 1 hX rfl
  have e2 := has_cell 2 hX rfl
  have e3 := has_cell 3 hX rfl
  have hT := hD.top
  have hlw := has_lt H.out.can
  have hlr := has_lt H.out.ref.ref
  by_cases hp : p < 0 ∨ 32 ≤ p
  · go_upto_region 18 with fail
    go_region_held3 (fun W' => W'.cell? ⟨w.heap.size, 2, none⟩ = some (.int .i64 p) ∧ W'.cell? ⟨w.heap.size, 3, none⟩ = some (.int .i64 q)) (first | exact ⟨e2, e3⟩ | exact ⟨y2, y3⟩ | exact ⟨z2, z3⟩)
      (first
        | (go_at_call 17; refine (push_bad _ _ _ _ _ (by exact hD.can) hT hp).mono ?_; rintro e w2 ⟨rfl, b2⟩; have hD2 := hD.reads (below_undrew b2); have hX2 := below_has (below_undrew b2) hX; have y2 := has_cell 2 hX2 rfl; have y3 := has_cell 3 hX2 rfl)
        | (go_at_call 28; refine (rpush_bad _ _ s v _ _ hp).mono ?_; rintro e w3 ⟨rfl, b3⟩; have hD3 := hD2.reads b3; have hX3 := below_has b3 hX2; have z2 := has_cell 2 hX3 rfl; have z3 := has_cell 3 hX3 rfl)
        | (go_at_call 16; refine (num_c _ _).mono ?_; rintro e w' ⟨rfl, rfl⟩))
    have v3 : Upd2 w c r w3 := (u0.reads (below_undrew b2)).reads b3
    go_wp2_with fail
    go_ret3
    exact ⟨c, s, v, by simp, hD3, v3, .inl rfl⟩
  · have hp0 : 0 ≤ p := by omega
    have hp1 : p < 32 := by omega
    by_cases hf : s.L.length = 8
    · go_upto_region 18 with fail
      go_region_held3 (fun W' => W'.cell? ⟨w.heap.size, 2, none⟩ = some (.int .i64 p) ∧ W'.cell? ⟨w.heap.size, 3, none⟩ = some (.int .i64 q)) (first | exact ⟨e2, e3⟩ | exact ⟨y2, y3⟩ | exact ⟨z2, z3⟩)
        (first
          | (go_at_call 17; refine (push_full _ _ _ _ _ (by exact hD.can) hf hp0 hp1).mono ?_; rintro e w2 ⟨rfl, b2⟩; have hD2 := hD.reads (below_undrew b2); have hX2 := below_has (below_undrew b2) hX; have y2 := has_cell 2 hX2 rfl; have y3 := has_cell 3 hX2 rfl)
          | (go_at_call 28; refine (rpush_full _ B _ s v _ _ hD2.ref hf hp0 hp1).mono ?_; rintro e w3 ⟨rfl, b3⟩; have hD3 := hD2.reads b3; have hX3 := below_has b3 hX2; have z2 := has_cell 2 hX3 rfl; have z3 := has_cell 3 hX3 rfl)
          | (go_at_call 16; refine (num_c _ _).mono ?_; rintro e w' ⟨rfl, rfl⟩))
      have v3 : Upd2 w c r w3 := (u0.reads (below_undrew b2)).reads b3
      go_wp2_with fail
      go_ret3
      exact ⟨c, s, v, by simp, hD3, v3, .inl rfl⟩
    · have hf8 : s.L.length < 8 := by omega
      go_upto_region 18 with fail
      go_region_held3 (fun W' => W'.cell? ⟨w.heap.size, 2, none⟩ = some (.int .i64 p) ∧ W'.cell? ⟨w.heap.size, 3, none⟩ = some (.int .i64 q)) (first | exact ⟨e2, e3⟩ | exact ⟨y2, y3⟩ | exact ⟨z2, z3⟩)
        (first
          | (go_at_call 17; refine (push_c _ _ _ _ _ (by exact hD.can) hf8 hp0 hp1).mono ?_; rintro e w2 ⟨rfl, b2⟩; have u2 := upd_undrew b2; have hR2 := hD.ref.far hD.can u2; have hX2 := u2.other hX (by omega); have hB2 : B ≤ w2.heap.size := Nat.le_trans hD.hB u2.size; have y2 := has_cell 2 hX2 rfl; have y3 := has_cell 3 hX2 rfl)
          | (go_at_call 28; refine (rpush_c _ B _ s v _ _ hR2 hf8 hp0 hp1 hB2).mono ?_; rintro e w3 ⟨v', rfl, hR3, u3⟩; have hX3 := u3.other hX2 (by omega); have z2 := has_cell 2 hX3 rfl; have z3 := has_cell 3 hX3 rfl)
          | (go_at_call 16; refine (num_c _ _).mono ?_; rintro e w' ⟨rfl, rfl⟩))
      have v3 : Upd2 w c r w3 := (u0.left u2).right u3
      have hF : CSt w3 B c r { s with L := s.L ++ [(p, q)] } v' := ⟨u3.other u2.1 hD.ne, hR3, by simp; omega, hD.lc, hD.lr, Nat.le_trans hB2 u3.size⟩
      go_wp2_with fail
      go_ret3
      exact ⟨c, _, v', by simp, hF, v3, .inl rfl⟩
end Go.Proofs.Ytdpeccbdacdkiaa
