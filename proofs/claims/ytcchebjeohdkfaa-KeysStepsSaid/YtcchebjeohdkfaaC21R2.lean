/- The document's Create, Delete, Clear, over the translation of this seat. Conditions: the blocks that are named hold what is said. -/
import Derived.Test.YtcchebjeohdkfaaC21R
namespace Go.Proofs.Ytcchebjeohdkfaa
open Go.RowKit

theorem rstore_key {ops : Array Oper} {rest : List Oper} {Q : Exit → Act → World → Prop} {a : Act} {o : Oper} {w : World} {g i : Nat} {s : Ks} (x y : Operand) (k : Ky) (h1 : o.guard = none) (h2 : o.op = .store 104 x y) (h3 : a.eval x = .pointer (some ⟨g, i * 18, none⟩)) (h4 : a.eval y = .agg (keyC k).toArray) (hb : w.heap[g]? = some (rL s)) (hi : i < s.n)
    (h6 : ∀ W, Upd w g (rL { s with k := put s.k i k }) W → wpList Try.prog ops Q rest (a.put o.dst undef) W) : wpList Try.prog ops Q (o :: rest) a w := by
  have hle : (i + 1) * 18 ≤ s.n * 18 := Nat.mul_le_mul_right _ hi
  refine wpList_store_mid h1 104 x y h2 g (i * 18) (keyC k).toArray h3 h4 ?ht ?hi ?ho ?_
  case ht => exact has_there hb _ _ (by simp [rlC_length, keyC_length]; omega)
  case hi => rw [List.size_toArray, keyC_length]; kernel_rfl
  case ho => exact all_oneCell_toArray (key_one _)
  refine h6 _ ((Upd.setCells (keyC k) (i * 18) _ _ (Upd.refl hb)).to ?_)
  rw [rl_putk s hi]
  rfl
theorem rcreate_bad (w : World) (b : Nat) (d : Int) (hd : d < -1 ∨ 32 ≤ d) :
    Calls Try.prog 39 #[.pointer (some ⟨b, 0, none⟩), .int .i64 d] w fun e w' => e = .returned (.tuple #[.int .i64 0, .int .i64 2]) ∧ w = w' := by
  by_cases h0 : d < -1
  · clear hd
    go_enter Try.func39, Try.ntmps39
    go_wp2
    go_ret2
    exact ⟨rfl, rfl⟩
  · have h1 : 32 ≤ d := by omega
    clear hd
    go_enter Try.func39, Try.ntmps39
    go_wp2
    go_ret2
    exact ⟨rfl, rfl⟩
set_option maxHeartbeats 1000000 in
theorem rcreate_c (w : World) (b g : Nat) (s : Ks) (d : Int) (h : RK w b g s) (ok : KOk s) (hd : -1 ≤ d ∧ d < 32) :
    Calls Try.prog 39 #[.pointer (some ⟨b, 0, none⟩), .int .i64 d] w fun e w' => match freeF s with
      | some i => e = .returned (.tuple #[.int .i64 i, .int .i64 0]) ∧ RK w' b g (makeF s i d) ∧ Upd2 w b g w'
      | none => e = .returned (.tuple #[.int .i64 0, .int .i64 5]) ∧ w = w' := by
  have n2 := ok.n2
  have h0 : ¬ d < -1 := by omega
  have h1 : ¬ 32 ≤ d := by omega
  obtain ⟨c0, c1, _⟩ := rk_cells h
  have HC := Lib.hid c1
  clear hd c1
  obtain ⟨F, hF⟩ : ∃ F, F = freeF s := ⟨_, rfl⟩
  rw [← hF]
  have HF := Lib.hid hF
  clear hF
  go_enter Try.func39, Try.ntmps39
  go_wp2
  go_loopw [6] (fun i wr => ∃ j : Nat, i = .int .i64 j ∧ j ≤ s.n ∧ wr = w ∧ ∀ k, k < j → (s.k k).is = true) (fun i _ => s.n - (intOf i).toNat)
  case atStart => exact ⟨0, rfl, Nat.zero_le _, rfl, fun k hk => absurd hk (Nat.not_lt_zero _)⟩
  case round =>
    obtain ⟨j, rfl, hj, rfl, hI⟩ := hrel
    have HI := Lib.hid hI
    clear hI
    by_cases hlt : j < s.n
    · have k0 := (HC.out j hlt).1
      have hjn : (j : Int) < s.n := by omega
      have HK := Lib.hid hlt
      clear hlt
      cases hm : (s.k j).is with
      | true =>
        rw [hm] at k0
        have HM := Lib.hid hm
        clear hm
        go_wp2_with fail
        go_roundw
        case rel => exact ⟨j + 1, by go_num, HK.out, by simp, fun k hk => by
          by_cases e : k = j
          · rw [e]; exact HM.out
          · exact HI.out k (by omega)⟩
        case measure => have := HK.out; simp [intOf]; omega
      | false =>
        rw [hm] at k0
        have hf : F = some j := by
          rw [HF.out]
          exact first_of (Nat.zero_le _) HK.out (by simp [hm]) (fun k _ hk => by simp [HI.out k hk])
        subst hf
        clear hm
        go_wp2_with (refine rstore_key (s := s) (i := j) (.tmp 40) (.tmp 39) ⟨true, d, fun _ => 0⟩ rfl rfl rfl rfl h.kg HK.out ?_; intro W u)
        go_ret2
        exact ⟨rfl, h.key u, (Upd2.refl _ _ _).right u⟩
    · have hf : F = none := by
        rw [HF.out]
        exact first_not (fun k _ hk => by simp [HI.out k (by omega)])
      subst hf
      go_wp2_with fail
      go_ret2
      exact ⟨rfl, rfl⟩
theorem rdelete_c (w : World) (b g : Nat) (s : Ks) (i : Nat) (h : RK w b g s) (ok : KOk s) (hi : i < s.n) (hm : (s.k i).is = true) :
    Calls Try.prog 40 #[.pointer (some ⟨b, 0, none⟩), .int .i64 i] w fun e w' => e = .returned (.int .i64 0) ∧ RK w' b g (dropF s i) ∧ Upd2 w b g w' := by
  have n2 := ok.n2
  have hy : mkF s i = true := by simp [mkF, hi, hm]
  have hii : (i : Int) < s.n := by omega
  have c0 := (rk_cells h).1
  have HH := Lib.hid hi
  clear hi hm
  go_enter Try.func40, Try.ntmps40
  go_wp2_with (first | (go_at_call 50; refine (rmade_c _ _ _ _ _ h ok hy).mono ?_; rintro e w' ⟨rfl, rfl⟩) | (refine rstore_key (s := s) (i := i) (.tmp 17) (.tmp 16) noKey rfl rfl rfl rfl h.kg HH.out ?_; intro W u))
  go_ret
  exact ⟨rfl, h.key u, (Upd2.refl _ _ _).right u⟩
theorem rdelete_no (w : World) (b g : Nat) (s : Ks) (i : Int) (h : RK w b g s) (ok : KOk s) (hm : mkF s i = false) :
    Calls Try.prog 40 #[.pointer (some ⟨b, 0, none⟩), .int .i64 i] w fun e w' => e = .returned (.int .i64 6) ∧ w = w' := by
  go_enter Try.func40, Try.ntmps40
  go_wp2_with (go_at_call 50; refine (rmade_c _ _ _ _ _ h ok hm).mono ?_; rintro e w' ⟨rfl, rfl⟩)
  go_ret
  exact ⟨rfl, rfl⟩
theorem rstore_end {ops : Array Oper} {rest : List Oper} {Q : Exit → Act → World → Prop} {a : Act} {o : Oper} {w : World} {b g t : Nat} {s : Ks} (x y : Operand) (k : En) (h1 : o.guard = none) (h2 : o.op = .store 91 x y) (h3 : a.eval x = .pointer (some ⟨b, 1 + t * 4, none⟩)) (h4 : a.eval y = .agg (endC k).toArray) (hb : w.heap[b]? = some (rO s g)) (ht : t < 16)
    (h6 : ∀ W, Upd w b (rO { s with e := put s.e t k } g) W → wpList Try.prog ops Q rest (a.put o.dst undef) W) : wpList Try.prog ops Q (o :: rest) a w := by
  refine wpList_store_mid h1 91 x y h2 b (1 + t * 4) (endC k).toArray h3 h4 ?ht ?hi ?ho ?_
  case ht => exact has_there hb _ _ (by simp [rsC_length, endC_length]; omega)
  case hi => rw [List.size_toArray, endC_length]; kernel_rfl
  case ho => exact all_oneCell_toArray (end_one _)
  refine h6 _ ((Upd.setCells (endC k) (1 + t * 4) _ _ (Upd.refl hb)).to ?_)
  rw [rs_pute s g ht]
  rfl
theorem rclear_bad (w : World) (b : Nat) (t : Int) (ht : thF t = false) :
    Calls Try.prog 44 #[.pointer (some ⟨b, 0, none⟩), .int .i64 t] w fun e w' => e = .returned (.int .i64 2) ∧ w = w' := by
  by_cases h0 : t < 0
  · clear ht
    go_enter Try.func44, Try.ntmps44
    go_wp2
    go_ret
    exact ⟨rfl, rfl⟩
  · have h1 : 16 ≤ t := by
      simp [thF] at ht
      omega
    clear ht
    go_enter Try.func44, Try.ntmps44
    go_wp2
    go_ret
    exact ⟨rfl, rfl⟩
theorem rl_wipe (s : Ks) (t : Nat) (h : s.n ≤ 8) : rL (wipeF s t s.n) = rL (wipeF s t 8) := by
  have e : rowsF (fun i => keyC ((wipeF s t s.n).k i)) s.n = rowsF (fun i => keyC ((wipeF s t 8).k i)) s.n := rowsF_congr (fun i hi => by simp only [wipeF]; rw [if_pos hi, if_pos (by omega)])
  unfold rL rlC
  exact congrArg (fun l : List Value => Obj.cells l.toArray 104 (0, 0)) e
set_option maxHeartbeats 1000000 in
theorem rclear_c (w : World) (b g : Nat) (s : Ks) (t : Nat) (h : RK w b g s) (ok : KOk s) (ht : t < 16) :
    Calls Try.prog 44 #[.pointer (some ⟨b, 0, none⟩), .int .i64 t] w fun e w' => e = .returned (.int .i64 0) ∧ RK w' b g (clearF s t) ∧ Upd2 w b g w' := by
  have n2 := ok.n2
  have hti : (t : Int) < 16 := by omega
  go_enter Try.func44, Try.ntmps44
  go_wp2
  go_loopw [5] (fun i wr => ∃ j : Nat, i = .int .i64 j ∧ j ≤ s.n ∧ RK wr b g (wipeF s t j) ∧ Upd2 w b g wr) (fun i _ => s.n - (intOf i).toNat)
  case atStart => exact ⟨0, rfl, Nat.zero_le _, by rw [wipe_zero]; exact h, Upd2.refl _ _ _⟩
  case round =>
    obtain ⟨j, rfl, hj, hR, U⟩ := hrel
    have c0 := (rk_cells hR).1
    have hsn : (wipeF s t j).n = s.n := rfl
    rw [hsn] at c0
    by_cases hlt : j < s.n
    · have k0 := ((rk_cells hR).2.1 j hlt).2.2 t ht
      have fz := has_free hR.kg
      have hjn : (j : Int) < s.n := by omega
      have u2 := (Upd.refl hR.kg).setCell (j * 18 + 2 + t) (.int .i64 0)
      rw [rl_val (wipeF s t j) hlt ht] at u2
      have hR2 := hR.key u2
      rw [wipe_next] at hR2
      have HR := Lib.hid (And.intro hR2 (U.right u2))
      have HK := Lib.hid hlt
      clear hlt hR U u2 hR2 hsn
      go_wp2_with fail
      go_roundw
      case rel => exact ⟨j + 1, by go_num, HK.out, HR.out⟩
      case measure => have := HK.out; simp [intOf]; omega
    · obtain rfl : j = s.n := by omega
      have hR8 : RK wr b g (wipeF s t 8) := ⟨hR.kb, by rw [← rl_wipe s t n2]; exact hR.kg⟩
      have HRR := Lib.hid hR8
      have HU := Lib.hid U
      clear hR hsn hR8 U
      go_wp2_with (refine rstore_end (s := wipeF s t 8) (g := g) (t := t) (.tmp 37) (.tmp 34) noEnd rfl rfl rfl rfl HRR.out.kb ht ?_; intro W u2)
      go_ret
      exact ⟨rfl, HRR.out.end_ u2, HU.out.left u2⟩
end Go.Proofs.Ytcchebjeohdkfaa
