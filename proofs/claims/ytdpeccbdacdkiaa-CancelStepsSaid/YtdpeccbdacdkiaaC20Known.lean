/- The chapter's rows: known tells true. Conditions: none. -/
import Derived.Test.YtdpeccbdacdkiaaC20Do2
namespace Go.Proofs.Ytdpeccbdacdkiaa
open Go.RowKit

section
variable {w : World} {b : Nat} {s s' : Cs} {y : Bool}
theorem ask_x (h : w.heap[b]? = some (canO s)) (hl : s.L.length ≤ 8) (hy : (!s.ak) = y) (hs : { s with ak := true } = s') :
    Calls Try.prog 13 #[.pointer (some ⟨b, 0, none⟩)] w fun e w' => e = .returned (.tuple #[.bool y, .int .i64 0]) ∧ Upd w b (canO s') w' := by subst hy hs; exact ask_c w b s h hl
theorem enable_x (x : Bool) (h : w.heap[b]? = some (canO s)) (hl : s.L.length ≤ 8) (hy : s.on = y) (hs : { s with on := x } = s') :
    Calls Try.prog 14 #[.pointer (some ⟨b, 0, none⟩), .bool x] w fun e w' => e = .returned (.tuple #[.bool y, .int .i64 0]) ∧ Upd w b (canO s') w' := by subst hy hs; exact enable_c w b s x h hl
theorem async_x (x : Bool) (h : w.heap[b]? = some (canO s)) (hl : s.L.length ≤ 8) (hy : s.ay = y) (hs : { s with ay := x } = s') :
    Calls Try.prog 15 #[.pointer (some ⟨b, 0, none⟩), .bool x] w fun e w' => e = .returned (.tuple #[.bool y, .int .i64 0]) ∧ Upd w b (canO s') w' := by subst hy hs; exact async_c w b s x h hl
theorem unwind_x {z : Int} (h : w.heap[b]? = some (canO s)) (hl : s.L.length ≤ 8) (hy : (if s.un = true then 7 else 0) = z) (hs : { s with un := true } = s') :
    Calls Try.prog 19 #[.pointer (some ⟨b, 0, none⟩)] w fun e w' => e = .returned (.int .i64 z) ∧ Upd w b (canO s') w' := by subst hy hs; exact unwind_c w b s h hl
theorem acts_x (p : Bool) (h : w.heap[b]? = some (canO s)) (hl : s.L.length ≤ 8) (hy : actsF s p = y) :
    Calls Try.prog 20 #[.pointer (some ⟨b, 0, none⟩), .bool p] w fun e w' => e = .returned (.bool y) ∧ w = w' := by subst hy; exact acts_c w b s p h hl
theorem push_x (p v : Int) (h : w.heap[b]? = some (canO s)) (hl : s.L.length < 8) (h0 : 0 ≤ p) (h1 : p < 32) (hs : { s with L := s.L ++ [(p, v)] } = s') :
    Calls Try.prog 17 #[.pointer (some ⟨b, 0, none⟩), .agg #[.int .i64 p, .int .i64 v]] w fun e w' => e = .returned (.int .i64 0) ∧ Upd w b (canO s') w' := by subst hs; exact push_c w b s p v h hl h0 h1
theorem pop_x (M : List (Int × Int)) (p v : Int) (h : w.heap[b]? = some (canO s)) (hl : s.L.length ≤ 8) (hM : s.L = M ++ [(p, v)]) (hs : { s with L := M } = s') :
    Calls Try.prog 18 #[.pointer (some ⟨b, 0, none⟩)] w fun e w' => e = .returned (.tuple #[.agg #[.int .i64 p, .int .i64 v], .int .i64 0]) ∧ Upd w b (canO s') w' := by subst hs; exact pop_c w b s M p v h hl hM
end
theorem eqt30 (a x : Int) (w : World) : (binOp .eql 30 (.agg #[.int .i64 a, .int .i64 x]) (.agg #[.int .i64 a, .int .i64 x])).run Try.prog w = .ok (.bool true) w := by
  rw [eql30, decide_eq_true rfl]

set_option maxRecDepth 100000 in
set_option maxHeartbeats 2000000 in
theorem known_c (w : World) : Calls Try.prog 12 #[] w fun e w' => e = .returned (.bool true) ∧ Below w.heap.size w w' := by
  go_enter Try.func12, Try.ntmps12
  go_wp2_with fail
  refine (new_c _).mono ?_; rintro e w0 ⟨rfl, hC0, hB0, _⟩
  have hB0' := has_lt hC0
  have hC0 : w0.heap[w.heap.size]? = some (canO ⟨false, true, false, false, []⟩) := hC0
  go_wp2_with fail
  refine (ask_x (y := true) (s' := ⟨true, true, false, false, []⟩) hC0 (by decide) rfl rfl).mono ?_; rintro e w1 ⟨rfl, hU⟩
  have hC1 := hU.1
  have hB1 := hB0.trans (hU.below (Nat.le_refl _) hB0.size)
  clear hU hC0 hB0
  go_wp2_with fail
  refine (ask_x (y := false) (s' := ⟨true, true, false, false, []⟩) hC1 (by decide) rfl rfl).mono ?_; rintro e w2 ⟨rfl, hU⟩
  have hC2 := hU.1
  have hB2 := hB1.trans (hU.below (Nat.le_refl _) hB1.size)
  clear hU hC1 hB1
  go_wp2_with fail
  refine (acts_x (y := false) false hC2 (by decide) rfl).mono ?_; rintro e w' ⟨rfl, rfl⟩
  go_wp2_with fail
  refine (acts_x (y := true) true hC2 (by decide) rfl).mono ?_; rintro e w' ⟨rfl, rfl⟩
  go_wp2_with fail
  refine (enable_x (y := true) (s' := ⟨true, false, false, false, []⟩) false hC2 (by decide) rfl rfl).mono ?_; rintro e w3 ⟨rfl, hU⟩
  have hC3 := hU.1
  have hB3 := hB2.trans (hU.below (Nat.le_refl _) hB2.size)
  clear hU hC2 hB2
  go_wp2_with fail
  refine (acts_x (y := false) true hC3 (by decide) rfl).mono ?_; rintro e w' ⟨rfl, rfl⟩
  go_wp2_with fail
  refine (async_x (y := false) (s' := ⟨true, false, true, false, []⟩) true hC3 (by decide) rfl rfl).mono ?_; rintro e w4 ⟨rfl, hU⟩
  have hC4 := hU.1
  have hB4 := hB3.trans (hU.below (Nat.le_refl _) hB3.size)
  clear hU hC3 hB3
  go_wp2_with fail
  refine (enable_x (y := false) (s' := ⟨true, true, true, false, []⟩) true hC4 (by decide) rfl rfl).mono ?_; rintro e w5 ⟨rfl, hU⟩
  have hC5 := hU.1
  have hB5 := hB4.trans (hU.below (Nat.le_refl _) hB4.size)
  clear hU hC4 hB4
  go_wp2_with fail
  refine (acts_x (y := true) false hC5 (by decide) rfl).mono ?_; rintro e w' ⟨rfl, rfl⟩
  go_wp2_with fail
  refine (push_x (s' := ⟨true, true, true, false, [(3, 7)]⟩) 3 7 hC5 (by decide) (by decide) (by decide) rfl).mono ?_; rintro e w6 ⟨rfl, hU⟩
  have hC6 := hU.1
  have hB6 := hB5.trans (hU.below (Nat.le_refl _) hB5.size)
  clear hU hC5 hB5
  go_wp2_with fail
  refine (push_x (s' := ⟨true, true, true, false, [(3, 7), (4, 8)]⟩) 4 8 hC6 (by decide) (by decide) (by decide) rfl).mono ?_; rintro e w7 ⟨rfl, hU⟩
  have hC7 := hU.1
  have hB7 := hB6.trans (hU.below (Nat.le_refl _) hB6.size)
  clear hU hC6 hB6
  go_wp2_with fail
  refine (push_bad _ _ _ 32 0 hC7 (by decide) (Or.inr (by decide))).mono ?_; rintro e w8 ⟨rfl, hb⟩
  have hC8 := below_has hb hC7
  have hB8 := below_reads hB7 hb hB7.size
  clear hb hC7 hB7
  go_wp2_with fail
  refine (unwind_x (z := 0) (s' := ⟨true, true, true, true, [(3, 7), (4, 8)]⟩) hC8 (by decide) rfl rfl).mono ?_; rintro e w9 ⟨rfl, hU⟩
  have hC9 := hU.1
  have hB9 := hB8.trans (hU.below (Nat.le_refl _) hB8.size)
  clear hU hC8 hB8
  go_wp2_with fail
  refine (unwind_x (z := 7) (s' := ⟨true, true, true, true, [(3, 7), (4, 8)]⟩) hC9 (by decide) rfl rfl).mono ?_; rintro e w10 ⟨rfl, hU⟩
  have hC10 := hU.1
  have hB10 := hB9.trans (hU.below (Nat.le_refl _) hB9.size)
  clear hU hC9 hB9
  go_wp2_with fail
  refine (acts_x (y := false) true hC10 (by decide) rfl).mono ?_; rintro e w' ⟨rfl, rfl⟩
  go_wp2_with fail
  refine (pop_x (s' := ⟨true, true, true, true, [(3, 7)]⟩) [(3, 7)] 4 8 hC10 (by decide) rfl rfl).mono ?_; rintro e w11 ⟨rfl, hU⟩
  have hC11 := hU.1
  have hB11 := hB10.trans (hU.below (Nat.le_refl _) hB10.size)
  clear hU hC10 hB10
  go_wp2_with fail
  refine calls_world (fun W => Below w11.heap.size w11 W ∧ W.heap[w11.heap.size]? = some (.cells #[.int .i64 4, .int .i64 8] 30 (0, 0))) ⟨(Below.refl _ _).alloc (Nat.le_refl _) _, heap_alloc_new _ _⟩ ?_
  rintro V1 ⟨hb, hA1⟩
  have hC12 := below_has hb hC11
  have hB12 := below_reads hB11 hb hB11.size
  have hlt0 := has_lt hC11
  clear hb
  refine (pop_x (s' := ⟨true, true, true, true, []⟩) [] 3 7 hC12 (by decide) rfl rfl).mono ?_; rintro e w13 ⟨rfl, hU⟩
  have hC13 := hU.1
  have hB13 := hB12.trans (hU.below (Nat.le_refl _) hB12.size)
  have hA1' := hU.other hA1 (by have := hlt0; omega)
  clear hU
  go_wp2_with fail
  refine calls_world (fun W => Below w13.heap.size w13 W ∧ W.heap[w13.heap.size]? = some (.cells #[.int .i64 3, .int .i64 7] 30 (0, 0))) ⟨(Below.refl _ _).alloc (Nat.le_refl _) _, heap_alloc_new _ _⟩ ?_
  rintro V2 ⟨hb, hA2⟩
  have hC14 := below_has hb hC13
  have hB14 := below_reads hB13 hb hB13.size
  have hA1'' := below_has hb hA1'
  clear hb
  refine (pop_none _ _ _ hC14 rfl).mono ?_; rintro e w15 ⟨rfl, hb⟩
  have hB15 := below_reads hB14 hb hB14.size
  have hA1 := below_has hb hA1''
  have hA2 := below_has hb hA2
  clear hb
  go_upto_region 18 with fail
  refine world_wp (fun W => Below w15.heap.size w15 W) ((Below.refl _ _).alloc (Nat.le_refl _) _) ?_
  intro W5 hb
  have hB16 := below_reads hB15 hb hB15.size
  have hA1 := below_has hb hA1
  have hA2 := below_has hb hA2
  have x0 := has_cell 0 hA1 rfl
  have x1 := has_cell 1 hA1 rfl
  have z0 := has_cell 0 hA2 rfl
  have z1 := has_cell 1 hA2 rfl
  have he := eqt30 3 7
  have he' := eqt30 4 8
  clear hA1 hA2
  go_wp2_with (go_at_call 16; refine (num_c _ _).mono ?_; rintro e w' ⟨rfl, rfl⟩)
  go_ret
  exact ⟨rfl, hB16⟩
end Go.Proofs.Ytdpeccbdacdkiaa
