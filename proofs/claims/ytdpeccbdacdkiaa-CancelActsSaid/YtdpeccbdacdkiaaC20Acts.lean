/- The walk of CancelActs: it returns true, and turns nothing that was there. Conditions: the script is a slice of steps. -/
import Derived.Test.YtdpeccbdacdkiaaC20Same
import Derived.Test.YtdpeccbdacdkiaaC20Iter
namespace Go.Proofs.Ytdpeccbdacdkiaa
open Go.RowKit

theorem app_one {ops : Array Oper} {rest : List Oper} {o : Oper} {a : Act} {Q : Exit → Act → World → Prop} {w : World} {base : Nat} (hgd : o.guard = none) (s x : Operand)
    (ho : o.op = .call { callee := .builtin .append, args := #[s, x], argTypes := #[37, 37] }) (v : Value) (m : Nat) (xs : List Value) (hs : a.eval s = v) (hown : w.ownsRow base 30 2 v m xs)
    (g : Nat) (hx : a.eval x = .slice (some ⟨g, 0, none⟩) 1 1) (p q : Int) (h0 : w.cell? ⟨g, 0, none⟩ = some (.int .i64 p)) (h1 : w.cell? ⟨g, 1, none⟩ = some (.int .i64 q)) (hm : m ≤ 1000) (hbase : base ≤ w.heap.size)
    (h : ∀ v' w', w'.ownsRow base 30 2 v' (m + 1) (xs ++ [.int .i64 p, .int .i64 q]) → w.grownBy w' v.ownBlock → wpList Try.prog ops Q rest (a.put o.dst v') w') : wpList Try.prog ops Q (o :: rest) a w := by
  obtain ⟨i, hi, hz0, hz1, hz2⟩ := info_parts info30
  exact wpList_append_own w hgd s x 37 ho base 30 i (.agg #[.int .i64 0, .int .i64 0]) 2 16 Try.underlying37 hi hz0 hz1 hz2 rfl (by decide) v m xs hs hown ⟨g, 0, none⟩ 1 1 [.int .i64 p, .int .i64 q] hx rfl
    (fun j y hy => by
      match j with
      | 0 => simp at hy; subst hy; simpa [Addr.add] using h0
      | 1 => simp at hy; subst hy; simpa [Addr.add] using h1
      | j + 2 => simp at hy) (by intro y hy; simp at hy; rcases hy with rfl | rfl <;> rfl) (by unfold maxLen; omega) (by omega) hbase (fun v' w' h1 h2 _ => h v' w' h1 h2)
/-- The program's cancellation, and the list of what was pushed. -/
structure ASt (w W : World) (c : Nat) (s : Cs) (v : Value) : Prop where
  can : W.heap[c]? = some (canO s)
  own : W.ownsRow w.heap.size 30 2 v s.L.length (rowC s.L)
  top : s.L.length ≤ 8
  lc : w.heap.size ≤ c
  below : Below w.heap.size w W
theorem ASt.reads {w W W' : World} {c : Nat} {s : Cs} {v : Value} (h : ASt w W c s v) (u : Below W.heap.size W W') : ASt w W' c s v :=
  ⟨below_has u h.can, own_below h.own u, h.top, h.lc, below_reads h.below u h.below.size⟩
theorem ASt.upd {w W W' : World} {c : Nat} {s t : Cs} {v : Value} (h : ASt w W c s v) (u : Upd W c (canO t) W') (hL : t.L = s.L) : ASt w W' c t v :=
  ⟨u.1, by rw [hL]; exact own_upd h.own u (own_far h.own h.can (by decide)), by rw [hL]; exact h.top, h.lc, h.below.trans (u.below h.lc h.below.size)⟩
theorem ASt.push {w W W1 W2 W3 : World} {c : Nat} {s : Cs} {v v' : Value} {p q : Int} (h : ASt w W c s v) (u : Upd W c (canO { s with L := s.L ++ [(p, q)] }) W1) (hl : s.L.length < 8) (b : Below W1.heap.size W1 W2)
    (h1 : W3.ownsRow w.heap.size 30 2 v' (s.L.length + 1) (rowC s.L ++ [.int .i64 p, .int .i64 q])) (h2 : W2.grownBy W3 v.ownBlock) : ASt w W3 c { s with L := s.L ++ [(p, q)] } v' := by
  have o1 := own_upd h.own u (own_far h.own h.can (by decide))
  have o2 := own_below o1 b
  have hc := below_has b u.1
  have ne := own_far o2 hc (by decide)
  have z1 := u.size
  have z2 := b.size
  have z3 := h.below.size
  refine ⟨(h2.block c (has_lt hc) (fun e => ne e.symm)).trans hc, by simpa [rowC_append, rowC, plc] using h1, by simp; omega, h.lc, ?_⟩
  exact ((h.below.trans (u.below h.lc h.below.size)).trans (b.mono (by omega))).trans (below_of_grown o2 h2 (Nat.le_refl _) (by omega))
theorem own_cut {w : World} {B n cap : Nat} {a : Option Addr} {M : List (Int × Int)} {x : Int × Int} (h : w.ownsRow B 30 2 (.slice a (n + 1) cap) (n + 1) (rowC (M ++ [x]))) (hn : n = M.length) : w.ownsRow B 30 2 (.slice a n cap) n (rowC M) := by
  subst hn
  obtain ⟨g, e⟩ : ∃ g, a = some ⟨g, 0, none⟩ := by
    rcases h.2 with ⟨_, h0⟩ | ⟨g, cap, cur, hv, _⟩
    · omega
    · injection hv with h1
      exact ⟨g, h1⟩
  subst e
  exact own_init h
theorem ASt.pop {w W W1 : World} {c n cap : Nat} {a : Option Addr} {s : Cs} {M : List (Int × Int)} {x : Int × Int} (h : ASt w W c s (.slice a (n + 1) cap)) (u : Upd W c (canO { s with L := M }) W1) (hL : s.L = M ++ [x]) (hn : n = M.length) :
    ASt w W1 c { s with L := M } (.slice a n cap) := by
  have o1 := own_upd h.own u (own_far h.own h.can (by decide))
  have hl : s.L.length = n + 1 := by rw [hL, hn]; simp
  rw [hl, hL] at o1
  have ht := h.top
  exact ⟨u.1, by show World.ownsRow _ _ _ _ _ M.length _; rw [← hn]; exact own_cut o1 hn, by show M.length ≤ 8; omega, h.lc, h.below.trans (u.below h.lc h.below.size)⟩

set_option maxRecDepth 100000 in
set_option maxHeartbeats 4000000 in
theorem acts_walk (w : World) (a : Option Addr) (len cap : Nat) (hs : IsRows w stepSc a len) :
    Calls Try.prog 4 #[.slice a len cap] w fun e w' => e = .returned (.bool true) ∧ Below w.heap.size w w' := by
  have hm := hs.max
  unfold maxLen at hm
  have HS := Lib.hid hs
  clear hs
  go_enter Try.func4, Try.ntmps4
  go_wp2_with fail
  refine (known_c _).mono ?_; rintro e w0 ⟨rfl, b0⟩
  go_wp2_with fail
  refine (new_c _).mono ?_; rintro e w1 ⟨rfl, hC1, b1, z1⟩
  have hA : ASt w w1 w0.heap.size newS (.slice none 0 0) := ⟨hC1, World.ownsRow_nil _ _ _ _, by decide, b0.size, b0.trans (b1.mono b0.size)⟩
  obtain ⟨c, hc⟩ : ∃ c, w0.heap.size = c := ⟨_, rfl⟩
  rw [hc] at hA
  rw [hc]
  clear hC1 b1 z1 b0 hc
  go_wp2_with fail
  go_loopw [4, 5, 6, 7] (fun ak un v i wr => ∃ (s : Cs) (j : Nat), ak = .bool s.ak ∧ un = .bool s.un ∧ i = .int .i64 j ∧ j ≤ len ∧ ASt w wr c s v) (fun _ _ _ i _ => len - (intOf i).toNat)
  case atStart => exact ⟨newS, 0, rfl, rfl, rfl, by omega, hA⟩
  case round =>
    clear hA
    obtain ⟨s, j, rfl, rfl, rfl, hj, hA⟩ := hrel
    by_cases hgo : j < len ∧ j < 200
    · obtain ⟨g1, g2⟩ := hgo
      obtain ⟨b, off, kd, on, p, q, rfl, hq⟩ := rows_cells HS.out g1
      obtain ⟨e0, e1, e2, e3⟩ := hq wr hA.below
      clear hq
      obtain ⟨a7, cap7, e7⟩ := own_shp hA.own
      subst e7
      go_upto_region 12 with fail
      refine world_wp (fun W => Below wr.heap.size wr W ∧ W.heap[wr.heap.size]? = some (stepO kd on p q)) ⟨(Below.refl _ _).alloc (Nat.le_refl _) _, heap_alloc_new _ _⟩ ?_
      rintro W2 ⟨hB2, hX⟩
      have hA2 := hA.reads hB2
      have x0 := has_cell 0 hX rfl
      have x1 := has_cell 1 hX rfl
      have x2 := has_cell 2 hX rfl
      have x3 := has_cell 3 hX rfl
      have hcx : c ≠ wr.heap.size := by have := has_lt hA.can; omega
      have hwz := hA.below.size
      clear hA hB2 e0 e1 e2 e3
      go_upto_block 2 with fail
      go_cut [4, 5, 6] (fun s4 s5 s6 wx => ∃ (s' : Cs), s4 = .bool s'.ak ∧ s5 = .bool s'.un ∧ ASt w wx c s' s6)
      case first =>
        have hT := hA2.top
        by_cases k1 : kd = 1
        · subst k1
          go_wp2_with fail
          refine (ask_c _ _ _ (by exact hA2.can) hT).mono ?_; rintro e w3 ⟨rfl, u⟩
          go_wp2_with fail
          go_meet
          exact ⟨{ s with ak := true }, rfl, rfl, hA2.upd u rfl⟩
        have b1 : (kd == 1) = false := by simpa using k1
        by_cases k2 : kd = 2
        · subst k2
          clear b1 k1
          go_wp2_with fail
          refine (enable_c _ _ _ on (by exact hA2.can) hT).mono ?_; rintro e w3 ⟨rfl, u⟩
          go_wp2_with fail
          go_meet
          exact ⟨{ s with on := on }, rfl, rfl, hA2.upd u rfl⟩
        have b2 : (kd == 2) = false := by simpa using k2
        by_cases k3 : kd = 3
        · subst k3
          clear b1 b2 k1 k2
          go_wp2_with fail
          refine (async_c _ _ _ on (by exact hA2.can) hT).mono ?_; rintro e w3 ⟨rfl, u⟩
          go_wp2_with fail
          go_meet
          exact ⟨{ s with ay := on }, rfl, rfl, hA2.upd u rfl⟩
        have b3 : (kd == 3) = false := by simpa using k3
        by_cases k4 : kd = 4
        · subst k4
          clear b1 b2 b3 k1 k2 k3
          by_cases hp : p < 0 ∨ 32 ≤ p
          · go_wp2_with fail
            refine (push_bad _ _ _ _ _ (by exact hA2.can) hT hp).mono ?_; rintro e w3 ⟨rfl, b3⟩
            clear hp
            go_wp2_with (go_at_call 16; refine (num_c _ _).mono ?_; rintro e w' ⟨rfl, rfl⟩)
            go_meet
            exact ⟨s, rfl, rfl, hA2.reads b3⟩
          · have hp0 : 0 ≤ p := by omega
            have hp1 : p < 32 := by omega
            clear hp
            by_cases hf : s.L.length = 8
            · go_wp2_with fail
              refine (push_full _ _ _ _ _ (by exact hA2.can) hf hp0 hp1).mono ?_; rintro e w3 ⟨rfl, b3⟩
              clear hf
              go_wp2_with (go_at_call 16; refine (num_c _ _).mono ?_; rintro e w' ⟨rfl, rfl⟩)
              go_meet
              exact ⟨s, rfl, rfl, hA2.reads b3⟩
            · have hf8 : s.L.length < 8 := by omega
              have hf9 : s.L.length ≤ 1000 := by omega
              clear hf
              go_wp2_with fail
              refine (push_c _ _ _ _ _ (by exact hA2.can) hf8 hp0 hp1).mono ?_; rintro e w3 ⟨rfl, u⟩
              have hX3 := u.other hX (Ne.symm hcx)
              have y2 := has_cell 2 hX3 rfl
              have y3 := has_cell 3 hX3 rfl
              have o3 := own_upd hA2.own u (own_far hA2.own hA2.can (by decide))
              have z3 : w.heap.size ≤ w3.heap.size := Nat.le_trans hA2.below.size u.size
              clear x0 x1 x2 x3
              go_wp2_with (first
                | (go_at_call 16; refine (num_c _ _).mono ?_; rintro e w' ⟨rfl, rfl⟩)
                | (refine app_one (base := w.heap.size) rfl (.tmp 58) (.tmp 61) rfl (.slice a7 s.L.length cap7) s.L.length (rowC s.L) ?hs ?own w3.heap.size ?hx p q ?h0 ?h1 hf9 ?hb ?h))
              case hs => rfl
              case hx => rfl
              case h0 => exact has_cell 0 (heap_alloc_new _ _) rfl
              case h1 => exact has_cell 1 (heap_alloc_new _ _) rfl
              case own => exact o3.alloc _
              case hb => simp; omega
              case h =>
                intro v4 W4 p4 q4
                have hfin := hA2.push u hf8 ((Below.refl _ _).alloc (Nat.le_refl _) _) p4 q4
                clear hA2 u p4 q4 o3
                go_wp2_with fail
                go_meet
                exact ⟨{ s with L := s.L ++ [(p, q)] }, rfl, rfl, hfin⟩
        have b4 : (kd == 4) = false := by simpa using k4
        by_cases k5 : kd = 5
        · subst k5
          clear b1 b2 b3 b4 k1 k2 k3 k4
          rcases nil_or_snoc s.L with hL | ⟨M, a1, a2, hL⟩
          · have hl0 : s.L.length = 0 := by rw [hL]; rfl
            rw [hl0] at hA2
            rw [hl0]
            go_wp2_with fail
            refine (pop_none _ _ _ (by exact hA2.can) hL).mono ?_; rintro e w3 ⟨rfl, b3⟩
            have hA3 := hA2.reads b3
            clear hA2 hL hl0
            go_upto_region 25 with fail
            refine world_wp (fun W => ASt w W c s (.slice a7 0 cap7)) (hA3.reads ((Below.refl _ _).alloc (Nat.le_refl _) _)) ?_
            clear hA3
            intro W4 hA4
            go_quiet ((go_at_call 16; exact quiet_left (num_c _ _)))
            go_wp2_with (go_at_call 16; refine (num_c _ _).mono ?_; rintro e w' ⟨rfl, rfl⟩)
            go_meet
            exact ⟨s, rfl, rfl, hA4.reads (below_drewN (Below.refl _ _) _)⟩
          · have hn : s.L.length = M.length + 1 := by rw [hL]; simp
            obtain ⟨n, hnn⟩ : ∃ n, n = M.length := ⟨_, rfl⟩
            rw [← hnn] at hn
            rw [hn] at hA2
            rw [hn]
            obtain ⟨m, hm2⟩ : ∃ m, m = n + 1 := ⟨_, rfl⟩
            rw [← hm2] at hA2
            rw [← hm2]
            go_wp2_with fail
            refine (pop_c _ _ s M a1 a2 (by exact hA2.can) hT hL).mono ?_; rintro e w3 ⟨rfl, u⟩
            have o3 := own_upd hA2.own u (own_far hA2.own hA2.can (by decide))
            have HM := Lib.hid hm2
            have hA2' := hA2
            rw [HM.out] at hA2'
            have hA3 := hA2'.pop u hL hnn
            have hmi : (n : Int) < (m : Int) := by omega
            have hm0 : decide (0 < m) = true := by simp; omega
            have hwr : IntKind.i64.wrap ((m : Int) - 1) = (n : Int) := by rw [show (m : Int) - 1 = n by omega]; exact IntWalk.i64_in _ (by omega)
            have HNN := Lib.hid hnn
            have HL := Lib.hid hL
            clear hA2 hA2' hm2 hnn hL
            go_upto_region 25 with fail
            refine world_wp (fun W => Below w3.heap.size w3 W ∧ W.heap[w3.heap.size]? = some (.cells #[.int .i64 a1, .int .i64 a2] 30 (0, 0))) ⟨(Below.refl _ _).alloc (Nat.le_refl _) _, heap_alloc_new _ _⟩ ?_
            rintro W4 ⟨b4, hY⟩
            have o4 := own_below o3 b4
            have hA4 := hA3.reads b4
            obtain ⟨a9, cap9, e9, k9⟩ := own_row o4 (fun h => by have := HL.out; rw [h] at this; simp at this)
            injection e9 with e1 e0 e2
            clear e0
            subst e1
            subst e2
            obtain ⟨g, rfl, _, hg, hcc, kc⟩ := k9 (by omega)
            obtain ⟨d0, d1⟩ := kc n (by omega)
            have hat := at_last M a1 a2
            rw [← HL.out, ← HNN.out] at hat
            rw [hat.1] at d0
            rw [hat.2] at d1
            have y0 := has_cell 0 hY rfl
            have y1 := has_cell 1 hY rfl
            have he := neq30 a1 a1 a2 a2
            rw [decide_eq_true rfl] at he
            have hcap : (n : Int) ≤ (cap7 : Int) := by omega
            have hn0 : (0 : Int) ≤ (n : Int) := by omega
            have hmc : (m : Int) ≤ (cap7 : Int) := by have := HM.out; omega
            clear k9 kc o4 o3 hA3 hat x0 x1 x2 x3 hn
            go_quiet ((go_at_call 16; exact quiet_left (num_c _ _)))
            go_wp2_with (go_at_call 16; refine (num_c _ _).mono ?_; rintro e w' ⟨rfl, rfl⟩)
            go_meet
            exact ⟨{ s with L := M }, rfl, rfl, hA4.reads (below_drewN (Below.refl _ _) _)⟩
        have b5 : (kd == 5) = false := by simpa using k5
        by_cases k6 : kd = 6
        · subst k6
          clear b1 b2 b3 b4 b5 k1 k2 k3 k4 k5
          go_wp2_with fail
          refine (unwind_c _ _ _ (by exact hA2.can) hT).mono ?_; rintro e w3 ⟨rfl, u⟩
          generalize (if s.un = true then (7 : Int) else 0) = zz
          go_wp2_with fail
          go_meet
          exact ⟨{ s with un := true }, rfl, rfl, hA2.upd u rfl⟩
        have b6 : (kd == 6) = false := by simpa using k6
        clear k1 k2 k3 k4 k5 k6
        go_wp2_with fail
        go_meet
        exact ⟨s, rfl, rfl, hA2⟩
      case rest =>
        clear hA2 hX x0 x1 x2 x3
        obtain ⟨s', rfl, rfl, hA⟩ := hcut
        obtain ⟨a8, cap8, e8⟩ := own_shp hA.own
        subst e8
        have hT := hA.top
        have hd8 : decide (8 < s'.L.length) = false := by simpa using hT
        obtain ⟨ak, on', ay, un, L⟩ := s'
        dsimp only at hT hd8 ⊢
        cases ak <;> cases on' <;> cases ay <;> cases un
        all_goals
          go_wp2_with (first
            | (go_at_call 20; refine (acts_c _ _ _ _ (by exact hA.can) hT).mono ?_; simp only [actsF, Bool.and_true, Bool.true_and, Bool.and_false, Bool.false_and, Bool.not_true, Bool.not_false, Bool.or_true, Bool.true_or, Bool.or_false, Bool.false_or]; rintro e w' ⟨rfl, rfl⟩)
            | (go_at_call 21; (with_reducible refine (enabled_c _ _ _ hA.can hT).mono ?_); rintro e w' ⟨rfl, rfl⟩)
            | (go_at_call 21; (with_reducible refine (enabled_c _ _ _ (below_has b5 hA.can) hT).mono ?_); rintro e w' ⟨rfl, rfl⟩)
            | (go_at_call 22; (with_reducible refine (once_c _ _ _ hA.can hT).mono ?_); rintro e w' ⟨rfl, rfl⟩)
            | (go_at_call 23; refine (len_c _ _ _ (by exact hA.can) hT).mono ?_; rintro e w5 ⟨rfl, b5⟩))
          go_roundw
          case rel => exact ⟨_, j + 1, rfl, rfl, by go_num, by omega, hA.reads b5⟩
          case measure => simp [intOf]; omega
    · rcases out2 hgo with g1 | ⟨g1, g2⟩
      all_goals
        clear hgo
        go_wp2_with fail
        go_ret
        exact ⟨rfl, hA.below⟩
end Go.Proofs.Ytdpeccbdacdkiaa
