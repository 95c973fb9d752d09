/- Same of two cancellations, over the translation of this seat. Conditions: the blocks that are named hold what is said. -/
import Derived.Test.YtdpeccbdacdkiaaC20Can3
namespace Go.Proofs.Ytdpeccbdacdkiaa
open Go.RowKit

theorem flat53 : flatAt Try.prog 4 53 = some (List.replicate 8 [Sc.i .i64, Sc.i .i64]).flatten := by kernel_rfl
theorem agg53 : aggT Try.prog 53 = true := by kernel_rfl
theorem fit_rowC : ∀ (L : List (Int × Int)), Fit (List.replicate L.length [Sc.i .i64, Sc.i .i64]).flatten (rowC L)
  | [] => trivial
  | p :: L => ⟨⟨p.1, rfl⟩, ⟨p.2, rfl⟩, fit_rowC L⟩
theorem rowC_inj : ∀ {L M : List (Int × Int)}, rowC L = rowC M → L = M
  | [], [], _ => rfl
  | [], q :: M, h => by cases h
  | p :: L, [], h => by cases h
  | p :: L, q :: M, h => by
    have e : ∀ (q : Int × Int) (M : List (Int × Int)), rowC (q :: M) = .int .i64 q.1 :: .int .i64 q.2 :: rowC M := fun _ _ => rfl
    rw [e, e] at h
    injection h with h1 h
    injection h with h2 h
    injection h1 with _ h1
    injection h2 with _ h2
    rw [rowC_inj h, show p = q from Prod.ext h1 h2]
theorem padL_inj {L M : List (Int × Int)} (hl : L.length = M.length) (h : padL L = padL M) : L = M := (List.append_inj h hl).1
theorem eql53 (L M : List (Int × Int)) (hl : L.length ≤ 8) (hm : M.length ≤ 8) (w : World) : (binOp .eql 53 (.agg (rowC (padL L)).toArray) (.agg (rowC (padL M)).toArray)).run Try.prog w = .ok (.bool (decide (padL L = padL M))) w := by
  have f1 : Fit (List.replicate 8 [Sc.i .i64, Sc.i .i64]).flatten (rowC (padL L)) := by have := fit_rowC (padL L); rwa [padL_length hl] at this
  have f2 : Fit (List.replicate 8 [Sc.i .i64, Sc.i .i64]).flatten (rowC (padL M)) := by have := fit_rowC (padL M); rwa [padL_length hm] at this
  rw [run_eql_flat w 4 flat53 (by decide) agg53 (xs := (rowC (padL L)).toArray) (ys := (rowC (padL M)).toArray) f1 f2]
  congr 2
  rw [Bool.eq_iff_iff, eqs_iff f1 f2]
  simp only [decide_eq_true_eq]
  exact ⟨rowC_inj, fun h => by rw [h]⟩
def sameC (s t : Cs) : Bool := s.ak == t.ak && s.on == t.on && s.ay == t.ay && s.un == t.un && decide (s.L = t.L)
theorem sameC_self (s : Cs) : sameC s s = true := by simp [sameC]

set_option maxHeartbeats 1000000 in
theorem same_c (w : World) (b b' : Nat) (s t : Cs) (h : w.heap[b]? = some (canO s)) (hl : s.L.length ≤ 8) (h' : w.heap[b']? = some (canO t)) (hl' : t.L.length ≤ 8) :
    Calls Try.prog 10 #[.pointer (some ⟨b, 0, none⟩), .pointer (some ⟨b', 0, none⟩)] w fun e w' => e = .returned (.bool (sameC s t)) ∧ Below w.heap.size w w' := by
  have T1 := Lib.hid (there_c w b s h hl)
  have T2 := Lib.hid (there_c w b' t h' hl')
  obtain ⟨c0, c1, c2, c3, c4, c5⟩ := can_flags h hl
  obtain ⟨d0, d1, d2, d3, d4, d5⟩ := can_flags h' hl'
  have he := eql53 s.L t.L hl hl'
  have hr : w.rangeAt b 5 (rowC (padL s.L)) := has_range h _ _ (by intro j hj; simp [canC, show 5 + j = j + 1 + 1 + 1 + 1 + 1 by omega, List.getElem?_append, hj])
  have hr' : w.rangeAt b' 5 (rowC (padL t.L)) := has_range h' _ _ (by intro j hj; simp [canC, show 5 + j = j + 1 + 1 + 1 + 1 + 1 by omega, List.getElem?_append, hj])
  have hs : ∀ N : List (Int × Int), N.length ≤ 8 → (Try.prog.info? 53).map (·.size) = some (rowC (padL N)).length := fun N hN => by rw [rowC_length, padL_length hN]; kernel_rfl
  have s1 := Lib.hid (hs s.L hl)
  have s2 := Lib.hid (hs t.L hl')
  have hlm := @padL_inj s.L t.L
  clear hs h h' hl hl'
  obtain ⟨ak, on, ay, un, L⟩ := s
  obtain ⟨ak', on', ay', un', M⟩ := t
  dsimp only at *
  unfold sameC
  dsimp only
  by_cases k1 : ak = ak'
  case neg =>
    have k1' : (ak == ak') = false := by simpa using k1
    rw [k1']
    clear he hlm k1
    go_enter Try.func10, Try.ntmps10
    go_wp2_with (go_at_call 32; first | ((with_reducible refine T1.out.mono ?_); rintro e w' ⟨rfl, rfl⟩) | ((with_reducible refine T2.out.mono ?_); rintro e w' ⟨rfl, rfl⟩))
    go_quiet (fail)
    go_wp2_with fail
    go_quiet (fail)
    go_wp2_with fail
    go_ret
    exact ⟨by simp, below_drewN (below_drewN (Below.refl _ _) _) _⟩
  subst k1
  by_cases k1 : on = on'
  case neg =>
    have k1' : (on == on') = false := by simpa using k1
    rw [k1']
    clear he hlm k1
    go_enter Try.func10, Try.ntmps10
    go_wp2_with (go_at_call 32; first | ((with_reducible refine T1.out.mono ?_); rintro e w' ⟨rfl, rfl⟩) | ((with_reducible refine T2.out.mono ?_); rintro e w' ⟨rfl, rfl⟩))
    go_quiet (fail)
    go_wp2_with fail
    go_quiet (fail)
    go_wp2_with fail
    go_ret
    exact ⟨by simp, below_drewN (below_drewN (Below.refl _ _) _) _⟩
  subst k1
  by_cases k1 : ay = ay'
  case neg =>
    have k1' : (ay == ay') = false := by simpa using k1
    rw [k1']
    clear he hlm k1
    go_enter Try.func10, Try.ntmps10
    go_wp2_with (go_at_call 32; first | ((with_reducible refine T1.out.mono ?_); rintro e w' ⟨rfl, rfl⟩) | ((with_reducible refine T2.out.mono ?_); rintro e w' ⟨rfl, rfl⟩))
    go_quiet (fail)
    go_wp2_with fail
    go_quiet (fail)
    go_wp2_with fail
    go_ret
    exact ⟨by simp, below_drewN (below_drewN (Below.refl _ _) _) _⟩
  subst k1
  by_cases k1 : un = un'
  case neg =>
    have k1' : (un == un') = false := by simpa using k1
    rw [k1']
    clear he hlm k1
    go_enter Try.func10, Try.ntmps10
    go_wp2_with (go_at_call 32; first | ((with_reducible refine T1.out.mono ?_); rintro e w' ⟨rfl, rfl⟩) | ((with_reducible refine T2.out.mono ?_); rintro e w' ⟨rfl, rfl⟩))
    go_quiet (fail)
    go_wp2_with fail
    go_quiet (fail)
    go_wp2_with fail
    go_ret
    exact ⟨by simp, below_drewN (below_drewN (Below.refl _ _) _) _⟩
  subst k1
  by_cases k1 : L.length = M.length
  case neg =>
    have k2' : ((L.length : Int) == (M.length : Int)) = false := by rw [beq_eq_false_iff_ne]; omega
    have hd : decide (L = M) = false := by simp only [decide_eq_false_iff_not]; intro h; exact k1 (by rw [h])
    rw [hd]
    clear he hlm k1 hd
    go_enter Try.func10, Try.ntmps10
    go_wp2_with (go_at_call 32; first | ((with_reducible refine T1.out.mono ?_); rintro e w' ⟨rfl, rfl⟩) | ((with_reducible refine T2.out.mono ?_); rintro e w' ⟨rfl, rfl⟩))
    go_quiet (fail)
    go_wp2_with fail
    go_quiet (fail)
    go_wp2_with fail
    go_ret
    exact ⟨by simp, below_drewN (below_drewN (Below.refl _ _) _) _⟩
  have hd : decide (padL L = padL M) = decide (L = M) := by
    rw [Bool.eq_iff_iff]; simp only [decide_eq_true_eq]
    exact ⟨hlm k1, fun h => by rw [h]⟩
  rw [← k1] at d5
  rw [hd] at he
  clear hd k1 hlm
  go_enter Try.func10, Try.ntmps10
  go_wp2_with (go_at_call 32; first | ((with_reducible refine T1.out.mono ?_); rintro e w' ⟨rfl, rfl⟩) | ((with_reducible refine T2.out.mono ?_); rintro e w' ⟨rfl, rfl⟩))
  go_quiet (fail)
  go_wp2_with fail
  have hr2 := range_drewN hr nq
  have hr2' := range_drewN hr' nq
  refine wp_region_quiet_lit (by kernel_rfl) (by kernel_rfl) ?_
  repeat (first | (refine BigFrame.wpQuiet_want rfl (fun K hK => quiet_load_mid 53 (.tmp 76) rfl b 5 rfl (rowC (padL L)) _ hr2 Try.underlying53 rfl s1.out ?_); refine hK _ ?_; clear hK K) | (refine BigFrame.wpQuiet_want rfl (fun K hK => quiet_load_mid 53 (.tmp 80) rfl b' 5 rfl (rowC (padL M)) _ hr2' Try.underlying53 rfl s2.out ?_); refine hK _ ?_; clear hK K) | quiet_step (fail))
  refine wpQuiet_nil ?_
  rintro _ ⟨nq', rfl⟩
  go_wp2_with fail
  go_ret
  exact ⟨by simp, below_drewN (below_drewN (Below.refl _ _) _) _⟩
end Go.Proofs.Ytdpeccbdacdkiaa
