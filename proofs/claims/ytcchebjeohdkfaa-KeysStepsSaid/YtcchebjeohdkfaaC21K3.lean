/- Create, Delete, Clear of keys, over the translation of this seat. Conditions: the blocks that are named hold what is said. -/
import Derived.Test.YtcchebjeohdkfaaC21K2
namespace Go.Proofs.Ytcchebjeohdkfaa
open Go.RowKit

/-- The lowest free key. -/
def freeF (s : Ks) : Option Nat := firstFrom (fun i => !(s.k i).is) 0 s.n
def makeF (s : Ks) (i : Nat) (d : Int) : Ks := { s with k := put s.k i ⟨true, d, fun _ => 0⟩ }
theorem create_bad (w : World) (b : Nat) (s : Ks) (d : Int) (h : w.heap[b]? = some (kO s)) (ok : KOk s) (hd : d < -1 ∨ 32 ≤ d) :
    Calls Try.prog 10 #[.pointer (some ⟨b, 0, none⟩), .int .i64 d] w fun e w' => e = .returned (.tuple #[.int .i64 0, .int .i64 2]) ∧ w = w' := by
  by_cases h0 : d < -1
  · clear hd
    go_enter Try.func10, Try.ntmps10
    go_wp2_with (go_at_call 30; refine (there_c _ _ _ h ok).mono ?_; rintro e w' ⟨rfl, rfl⟩)
    go_ret2
    exact ⟨rfl, rfl⟩
  · have h1 : 32 ≤ d := by omega
    clear hd
    go_enter Try.func10, Try.ntmps10
    go_wp2_with (go_at_call 30; refine (there_c _ _ _ h ok).mono ?_; rintro e w' ⟨rfl, rfl⟩)
    go_ret2
    exact ⟨rfl, rfl⟩
theorem key_lit (z : Bool) (d : Int) : keyC ⟨z, d, fun _ => 0⟩ = [.bool z, .int .i64 d, .int .i64 0, .int .i64 0, .int .i64 0, .int .i64 0, .int .i64 0, .int .i64 0, .int .i64 0, .int .i64 0, .int .i64 0, .int .i64 0, .int .i64 0, .int .i64 0, .int .i64 0, .int .i64 0, .int .i64 0, .int .i64 0] := rfl
theorem key_one (x : Ky) : ∀ v ∈ keyC x, v.oneCell' = true := by
  intro v hv
  simp only [keyC, List.mem_cons] at hv
  rcases hv with rfl | rfl | hv
  · rfl
  · rfl
  · exact rowI_one _ _ v hv
theorem store_key {ops : Array Oper} {rest : List Oper} {Q : Exit → Act → World → Prop} {a : Act} {o : Oper} {w : World} {b i : Nat} {s : Ks} (x y : Operand) (k : Ky) (h1 : o.guard = none) (h2 : o.op = .store 74 x y) (h3 : a.eval x = .pointer (some ⟨b, 1 + i * 18, none⟩)) (h4 : a.eval y = .agg (keyC k).toArray) (hb : w.heap[b]? = some (kO s)) (hi : i < 8)
    (h6 : ∀ W, Upd w b (kO { s with k := put s.k i k }) W → wpList Try.prog ops Q rest (a.put o.dst undef) W) : wpList Try.prog ops Q (o :: rest) a w := by
  refine wpList_store_mid h1 74 x y h2 b (1 + i * 18) (keyC k).toArray h3 h4 ?ht ?hi ?ho ?_
  case ht => exact has_there hb _ _ (by simp [ksC_length, keyC_length]; omega)
  case hi => rw [List.size_toArray, keyC_length]; kernel_rfl
  case ho => exact all_oneCell_toArray (key_one _)
  refine h6 _ ((Upd.setCells (keyC k) (1 + i * 18) _ _ (Upd.refl hb)).to ?_)
  rw [ks_putk s hi]
  rfl
set_option maxHeartbeats 1000000 in
theorem create_c (w : World) (b : Nat) (s : Ks) (d : Int) (h : w.heap[b]? = some (kO s)) (ok : KOk s) (hd : -1 ≤ d ∧ d < 32) :
    Calls Try.prog 10 #[.pointer (some ⟨b, 0, none⟩), .int .i64 d] w fun e w' => match freeF s with
      | some i => e = .returned (.tuple #[.int .i64 i, .int .i64 0]) ∧ Upd w b (kO (makeF s i d)) w'
      | none => e = .returned (.tuple #[.int .i64 0, .int .i64 5]) ∧ w = w' := by
  have n2 := ok.n2
  have h0 : ¬ d < -1 := by omega
  have h1 : ¬ 32 ≤ d := by omega
  have c0 := (k_cells h).1
  clear hd
  obtain ⟨F, hF⟩ : ∃ F, F = freeF s := ⟨_, rfl⟩
  rw [← hF]
  have HF := Lib.hid hF
  clear hF
  go_enter Try.func10, Try.ntmps10
  go_wp2_with (go_at_call 30; refine (there_c _ _ _ h ok).mono ?_; rintro e w' ⟨rfl, rfl⟩)
  clear c0
  go_loopw [22] (fun i wr => ∃ j : Nat, i = .int .i64 j ∧ j ≤ s.n ∧ wr = w ∧ ∀ k, k < j → (s.k k).is = true) (fun i _ => s.n - (intOf i).toNat)
  case atStart => exact ⟨0, rfl, Nat.zero_le _, rfl, fun k hk => absurd hk (Nat.not_lt_zero _)⟩
  case round =>
    obtain ⟨j, rfl, hj, rfl, hI⟩ := hrel
    have HI := Lib.hid hI
    clear hI
    by_cases hlt : j < s.n
    · have hj8 : j < 8 := by omega
      have k0 := ((k_cells h).2.1 j hj8).1
      have hji : (j : Int) < 8 := by omega
      have hjn : (j : Int) < s.n := by omega
      have HK := Lib.hid hlt
      clear hlt
      cases hm : (s.k j).is with
      | true =>
        rw [hm] at k0
        have HM := Lib.hid hm
        clear hm
        go_wp2_with fail
        go_roundw
        case rel => exact ⟨j + 1, by go_num, HK.out, by simp, fun k hk => by
          by_cases e : k = j
          · rw [e]; exact HM.out
          · exact HI.out k (by omega)⟩
        case measure => have := HK.out; simp [intOf]; omega
      | false =>
        rw [hm] at k0
        have hf : F = some j := by
          rw [HF.out]
          exact first_of (Nat.zero_le _) HK.out (by simp [hm]) (fun k _ hk => by simp [HI.out k hk])
        subst hf
        clear hm
        go_wp2_with (refine store_key (s := s) (i := j) (.tmp 39) (.tmp 36) ⟨true, d, fun _ => 0⟩ rfl rfl rfl rfl h hj8 ?_; intro W u)
        go_ret2
        exact ⟨rfl, u⟩
    · have hf : F = none := by
        rw [HF.out]
        exact first_not (fun k _ hk => by simp [HI.out k (by omega)])
      subst hf
      go_wp2_with fail
      go_ret2
      exact ⟨rfl, rfl⟩
def dropF (s : Ks) (i : Nat) : Ks := { s with k := put s.k i noKey }
theorem delete_c (w : World) (b : Nat) (s : Ks) (i : Nat) (h : w.heap[b]? = some (kO s)) (ok : KOk s) (hi : i < s.n) (hm : (s.k i).is = true) :
    Calls Try.prog 26 #[.pointer (some ⟨b, 0, none⟩), .int .i64 i] w fun e w' => e = .returned (.int .i64 0) ∧ Upd w b (kO (dropF s i)) w' := by
  have n2 := ok.n2
  go_enter Try.func26, Try.ntmps26
  go_wp2_with (first | (go_at_call 49; refine (of_c _ _ _ _ h ok hi hm).mono ?_; rintro e w' ⟨rfl, rfl⟩) | (refine store_key (s := s) (i := i) (.tmp 17) (.tmp 16) noKey rfl rfl rfl rfl h (by omega) ?_; intro W u))
  go_ret
  exact ⟨rfl, u⟩
theorem delete_no (w : World) (b : Nat) (s : Ks) (i : Int) (h : w.heap[b]? = some (kO s)) (ok : KOk s) (hm : mkF s i = false) :
    Calls Try.prog 26 #[.pointer (some ⟨b, 0, none⟩), .int .i64 i] w fun e w' => e = .returned (.int .i64 6) ∧ w = w' := by
  go_enter Try.func26, Try.ntmps26
  go_wp2_with (go_at_call 49; refine (of_no _ _ _ _ h ok hm).mono ?_; rintro e w' ⟨rfl, rfl⟩)
  go_ret
  exact ⟨rfl, rfl⟩
theorem end_one (x : En) : ∀ v ∈ endC x, v.oneCell' = true := by
  intro v hv
  simp only [endC, List.mem_cons, List.not_mem_nil, or_false] at hv
  rcases hv with rfl | rfl | rfl | rfl <;> rfl
theorem store_end {ops : Array Oper} {rest : List Oper} {Q : Exit → Act → World → Prop} {a : Act} {o : Oper} {w : World} {b t : Nat} {s : Ks} (x y : Operand) (k : En) (h1 : o.guard = none) (h2 : o.op = .store 77 x y) (h3 : a.eval x = .pointer (some ⟨b, 145 + t * 4, none⟩)) (h4 : a.eval y = .agg (endC k).toArray) (hb : w.heap[b]? = some (kO s)) (ht : t < 16)
    (h6 : ∀ W, Upd w b (kO { s with e := put s.e t k }) W → wpList Try.prog ops Q rest (a.put o.dst undef) W) : wpList Try.prog ops Q (o :: rest) a w := by
  refine wpList_store_mid h1 77 x y h2 b (145 + t * 4) (endC k).toArray h3 h4 ?ht ?hi ?ho ?_
  case ht => exact has_there hb _ _ (by simp [ksC_length, endC_length]; omega)
  case hi => rw [List.size_toArray, endC_length]; kernel_rfl
  case ho => exact all_oneCell_toArray (end_one _)
  refine h6 _ ((Upd.setCells (endC k) (145 + t * 4) _ _ (Upd.refl hb)).to ?_)
  rw [ks_pute s ht]
  rfl
/-- The values of a thread in the first j keys are no more. -/
def wipeF (s : Ks) (t j : Nat) : Ks := { s with k := fun i => if i < j then { s.k i with v := put (s.k i).v t 0 } else s.k i }
def clearF (s : Ks) (t : Nat) : Ks := { wipeF s t 8 with e := put s.e t noEnd }
theorem wipe_next (s : Ks) {t j : Nat} : { wipeF s t j with k := put (wipeF s t j).k j { (wipeF s t j).k j with v := put ((wipeF s t j).k j).v t 0 } } = wipeF s t (j + 1) := by
  have e : put (wipeF s t j).k j { (wipeF s t j).k j with v := put ((wipeF s t j).k j).v t 0 } = (wipeF s t (j + 1)).k := by
    funext i
    unfold put
    by_cases h : i = j
    · subst h
      simp [wipeF]
      rfl
    · rw [if_neg h]
      simp only [wipeF]
      by_cases h2 : i < j
      · rw [if_pos h2, if_pos (by omega)]
      · rw [if_neg h2, if_neg (by omega)]
  rw [e]
  rfl
theorem wipe_zero (s : Ks) (t : Nat) : wipeF s t 0 = s := by
  obtain ⟨n, k, e⟩ := s
  simp [wipeF]
theorem clear_bad (w : World) (b : Nat) (s : Ks) (t : Int) (h : w.heap[b]? = some (kO s)) (ok : KOk s) (ht : thF t = false) :
    Calls Try.prog 25 #[.pointer (some ⟨b, 0, none⟩), .int .i64 t] w fun e w' => e = .returned (.int .i64 2) ∧ w = w' := by
  go_enter Try.func25, Try.ntmps25
  go_wp2_with (first | (go_at_call 30; refine (there_c _ _ _ h ok).mono ?_; rintro e w' ⟨rfl, rfl⟩) | (go_at_call 34; refine (thread_c _ _ ht).mono ?_; rintro e w' ⟨rfl, rfl⟩))
  go_ret
  exact ⟨rfl, rfl⟩
theorem clear_c (w : World) (b : Nat) (s : Ks) (t : Nat) (h : w.heap[b]? = some (kO s)) (ok : KOk s) (ht : t < 16) :
    Calls Try.prog 25 #[.pointer (some ⟨b, 0, none⟩), .int .i64 t] w fun e w' => e = .returned (.int .i64 0) ∧ Upd w b (kO (clearF s t)) w' := by
  have hth := thF_nat ht
  have hti : (t : Int) < 16 := by omega
  go_enter Try.func25, Try.ntmps25
  go_wp2_with (first | (go_at_call 30; refine (there_c _ _ _ h ok).mono ?_; rintro e w' ⟨rfl, rfl⟩) | (go_at_call 34; refine (thread_c _ _ hth).mono ?_; rintro e w' ⟨rfl, rfl⟩))
  go_loopw [14] (fun i wr => ∃ j : Nat, i = .int .i64 j ∧ j ≤ 8 ∧ Upd w b (kO (wipeF s t j)) wr) (fun i _ => 8 - (intOf i).toNat)
  case atStart => exact ⟨0, rfl, Nat.zero_le _, by rw [wipe_zero]; exact Upd.refl h⟩
  case round =>
    obtain ⟨j, rfl, hj, u⟩ := hrel
    by_cases hlt : j < 8
    · have k0 := ((k_cells u.1).2.1 j hlt).2.2 t ht
      have fz := has_free u.1
      have hji : (j : Int) < 8 := by omega
      have u2 := (Upd.refl u.1).setCell (1 + j * 18 + 2 + t) (.int .i64 0)
      have u3 : Upd wr b (kO (wipeF s t (j + 1))) _ := u2.to (by rw [upd_key _ hlt ht, wipe_next]; rfl)
      have U := u.trans u3
      have HK := Lib.hid hlt
      clear hlt u u2 u3
      go_wp2_with fail
      go_roundw
      case rel => exact ⟨j + 1, by go_num, HK.out, U⟩
      case measure => have := HK.out; simp [intOf]; omega
    · obtain rfl : j = 8 := by omega
      have hW := u.1
      go_wp2_with (refine store_end (s := wipeF s t 8) (t := t) (.tmp 31) (.tmp 28) noEnd rfl rfl rfl rfl hW ht ?_; intro W u2)
      go_ret
      exact ⟨rfl, u.trans u2⟩
end Go.Proofs.Ytcchebjeohdkfaa
