/- Made, Len, Copy, Same of keys, over the translation of this seat. Conditions: the blocks that are named hold what is said. -/
import Derived.Test.YtcchebjeohdkfaaC21RN
namespace Go.Proofs.Ytcchebjeohdkfaa
open Go.RowKit

theorem made_c (w : World) (b : Nat) (s : Ks) (i : Int) {y : Bool} (h : w.heap[b]? = some (kO s)) (ok : KOk s) (hy : mkF s i = y) :
    Calls Try.prog 46 #[.pointer (some ⟨b, 0, none⟩), .int .i64 i] w fun e w' => ∃ z : Int, e = .returned (.tuple #[.int .i64 z, .bool y]) ∧ z = (if y = true then (s.k i.toNat).d else 0) ∧ w = w' := by
  have n2 := ok.n2
  cases y with
  | true =>
    obtain ⟨k, rfl, hk, hm⟩ := mkF_nat hy
    have k1 := ((k_cells h).2.1 k (by omega)).2.1
    clear hy
    go_enter Try.func46, Try.ntmps46
    go_wp2_with (go_at_call 49; refine (of_c _ _ _ _ h ok hk hm).mono ?_; rintro e w' ⟨rfl, rfl⟩)
    go_ret2
    exact ⟨_, rfl, by simp, rfl⟩
  | false =>
    go_enter Try.func46, Try.ntmps46
    go_wp2_with (go_at_call 49; refine (of_no _ _ _ _ h ok hy).mono ?_; rintro e w' ⟨rfl, rfl⟩)
    go_ret2
    exact ⟨_, rfl, by simp, rfl⟩
def cntF (s : Ks) : Nat → Nat
  | 0 => 0
  | m + 1 => cntF s m + (if mkF s (m : Int) = true then 1 else 0)
theorem cntF_le (s : Ks) : ∀ m, cntF s m ≤ m
  | 0 => Nat.le_refl _
  | m + 1 => by
    have := cntF_le s m
    rw [cntF]
    split <;> omega
theorem cnt_yes {s : Ks} {m : Nat} (h : mkF s (m : Int) = true) : cntF s (m + 1) = cntF s m + 1 := by rw [cntF, if_pos h]
theorem cnt_no {s : Ks} {m : Nat} (h : mkF s (m : Int) = false) : cntF s (m + 1) = cntF s m := by rw [cntF, h]; rfl
theorem len_c (w : World) (b : Nat) (s : Ks) (h : w.heap[b]? = some (kO s)) (ok : KOk s) : Calls Try.prog 48 #[.pointer (some ⟨b, 0, none⟩)] w fun e w' => e = .returned (.int .i64 (cntF s 8 : Nat)) ∧ w = w' := by
  go_enter Try.func48, Try.ntmps48
  go_wp2_with fail
  go_loopw [3, 7] (fun n i wr => ∃ j : Nat, n = .int .i64 (cntF s j : Nat) ∧ i = .int .i64 j ∧ j ≤ 8 ∧ wr = w) (fun _ i _ => 8 - (intOf i).toNat)
  case atStart => exact ⟨0, rfl, rfl, Nat.zero_le _, rfl⟩
  case round =>
    obtain ⟨j, rfl, rfl, hj, rfl⟩ := hrel
    by_cases hlt : j < 8
    · have hji : (j : Int) < 8 := by omega
      have hcl := cntF_le s j
      obtain ⟨y, hy⟩ : ∃ y, mkF s (j : Int) = y := ⟨_, rfl⟩
      have HK := Lib.hid hlt
      have HY := Lib.hid hy
      clear hlt hy
      cases y with
      | true =>
        go_wp2_with (go_at_call 46; refine (made_c _ _ _ _ h ok HY.out).mono ?_; rintro e w' ⟨z, rfl, hz, rfl⟩; have HZ := Lib.hid hz; clear hz)
        go_roundw
        case rel => exact ⟨j + 1, by rw [cnt_yes HY.out]; go_num, by go_num, HK.out, by simp⟩
        case measure => have := HK.out; simp [intOf]; omega
      | false =>
        go_wp2_with (go_at_call 46; refine (made_c _ _ _ _ h ok HY.out).mono ?_; rintro e w' ⟨z, rfl, hz, rfl⟩; have HZ := Lib.hid hz; clear hz)
        go_roundw
        case rel => exact ⟨j + 1, by rw [cnt_no HY.out], by go_num, HK.out, by simp⟩
        case measure => have := HK.out; simp [intOf]; omega
    · obtain rfl : j = 8 := by omega
      go_wp2_with fail
      go_ret
      exact ⟨rfl, rfl⟩

/-! Copy. -/
theorem ks_one (s : Ks) : ∀ v ∈ ksC s, v.oneCell' = true := by
  intro v hv
  simp only [ksC, List.mem_cons, List.mem_append] at hv
  rcases hv with rfl | hv | hv
  · rfl
  · exact rowsF_all (fun i v hv => key_one _ v hv) 8 v hv
  · exact rowsF_all (fun i v hv => end_one _ v hv) 16 v hv
theorem store_ks {w W : World} {p : Nat} {ops : Array Oper} {rest : List Oper} {Q : Exit → Act → World → Prop} {a : Act} {o : Oper} (x y : Operand) (l : List Value) (Z : Array Value) (h1 : o.guard = none) (h2 : o.op = .store 80 x y) (h3 : a.eval x = .pointer (some ⟨p, 0, none⟩)) (h4 : a.eval y = .agg l.toArray) (hlen : l.length = 209) (hZ : Z.size = 209) (hone : ∀ v ∈ l, v.oneCell' = true) (h5 : W.heap[p]? = some (.cells Z 80 (0, 0)) ∧ Below p w W)
    (h6 : ∀ W', W'.heap[p]? = some (.cells l.toArray 80 (0, 0)) → Below p w W' → wpList Try.prog ops Q rest (a.put o.dst undef) W') : wpList Try.prog ops Q (o :: rest) a W := by
  refine wpList_store_mid h1 80 x y h2 p 0 l.toArray h3 h4 ?ht ?hi ?ho ?_
  case ht => exact has_there h5.1 0 _ (by simp [hlen, hZ])
  case hi => rw [List.size_toArray, hlen]; kernel_rfl
  case ho => exact all_oneCell_toArray hone
  have U := Upd.setCells (fz := (0, 0)) l 0 _ _ (Upd.refl h5.1)
  rw [spl_all l _ (by rw [hlen, hZ])] at U
  exact h6 _ U.1 (h5.2.trans (U.below (Nat.le_refl _) (Nat.le_of_lt (has_lt h5.1))))
theorem alloc_ks (w : World) (Z : Array Value) : (w.alloc (.cells Z 80)).heap[w.heap.size]? = some (.cells Z 80 (0, 0)) ∧ Below w.heap.size w (w.alloc (.cells Z 80)) := ⟨heap_alloc_new _ _, (Below.refl _ _).alloc (Nat.le_refl _) _⟩
set_option maxRecDepth 100000 in
set_option maxHeartbeats 2000000 in
theorem kcopy_c (w : World) (b : Nat) (s : Ks) (h : w.heap[b]? = some (kO s)) (ok : KOk s) :
    Calls Try.prog 45 #[.pointer (some ⟨b, 0, none⟩)] w fun e w' => ∃ b', e = .returned (.pointer (some ⟨b', 0, none⟩)) ∧ w.heap.size ≤ b' ∧ w'.heap[b']? = some (kO s) ∧ Below w.heap.size w w' := by
  obtain ⟨l, hl⟩ : ∃ l, l = ksC s := ⟨_, rfl⟩
  have hlen : l.length = 209 := by rw [hl, ksC_length]
  have hone : ∀ v ∈ l, v.oneCell' = true := by rw [hl]; exact ks_one s
  have hg : kO s = .cells l.toArray 80 (0, 0) := by rw [hl]; rfl
  have hr : w.rangeAt b 0 l := by rw [hg] at h; exact has_range h _ _ (by simp)
  have hsz : (Try.prog.info? 80).map (·.size) = some l.length := by rw [hlen]; kernel_rfl
  obtain ⟨Z, hz, hne, hZ⟩ : ∃ Z : Array Value, (∀ w, (zeroValue 80).run Try.prog w = .ok (.agg Z) w) ∧ ¬ Z = #[] ∧ Z.size = 209 := by
    refine ⟨(ksC (newK 0)).toArray, fun w => by kernel_rfl, fun e => ?_, by rw [List.size_toArray, ksC_length]⟩
    have := congrArg Array.size e
    rw [List.size_toArray, ksC_length] at this
    cases this
  have HZ := Lib.hid hZ
  clear hl hZ
  go_enter Try.func45, Try.ntmps45
  go_upto_region 3 with (go_at_call 30; refine (there_c _ _ _ h ok).mono ?_; rintro e w' ⟨rfl, rfl⟩)
  go_wp2_with (first | (refine wpList_load_mid rfl 80 (.tmp 8) rfl b 0 rfl l _ hr Try.underlying80 rfl hsz ?_) | (refine store_ks (.tmp 3) (.tmp 9) l Z rfl rfl rfl rfl hlen HZ.out hone (alloc_ks _ _) ?_; intro W hW hB))
  go_ret
  rw [hg]
  exact ⟨w.heap.size, rfl, Nat.le_refl _, hW, hB⟩

/-! Same, where both hold the same. -/
theorem fit_join : ∀ {l m : List Sc} {x y : List Value}, Fit l x → Fit m y → Fit (l ++ m) (x ++ y)
  | [], _, [], _, _, h => h
  | _ :: _, _, _ :: _, _, h, k => ⟨h.1, fit_join h.2 k⟩
def repL (l : List Sc) : Nat → List Sc
  | 0 => []
  | m + 1 => repL l m ++ l
theorem fit_rep {l : List Sc} {f : Nat → List Value} (h : ∀ i, Fit l (f i)) : ∀ m, Fit (repL l m) (rowsF f m)
  | 0 => trivial
  | m + 1 => fit_join (fit_rep h m) (h m)
def keySc : List Sc := .b :: .i .i64 :: repL [.i .i64] 16
def endSc : List Sc := [.i .i64, .i .i64, .b, .b]
theorem fit_one (x : Int) : Fit [.i .i64] [.int .i64 x] := ⟨⟨_, rfl⟩, trivial⟩
theorem fit_pair {c d : Sc} {l : List Sc} {u v : Value} {m : List Value} (h : Fit [c] [u]) (h' : Fit [d] [v]) (k : Fit l m) : Fit (c :: d :: l) (u :: v :: m) := ⟨h.1, h'.1, k⟩
theorem fit_key (x : Ky) : Fit keySc (keyC x) := by
  have hr := fit_rep (l := [.i .i64]) (f := fun i => [.int .i64 (x.v i)]) (fun i => fit_one _) 16
  unfold keySc keyC rowI
  generalize rowsF (fun i => [Value.int .i64 (x.v i)]) 16 = m at hr ⊢
  generalize repL [Sc.i .i64] 16 = l at hr ⊢
  exact fit_pair ⟨⟨_, rfl⟩, trivial⟩ (fit_one _) hr
theorem fit_end (e : En) : Fit endSc (endC e) := ⟨⟨_, rfl⟩, ⟨_, rfl⟩, ⟨_, rfl⟩, ⟨_, rfl⟩, trivial⟩
theorem flat75 : flatAt Try.prog 6 75 = some (repL keySc 8) := by kernel_rfl
theorem flat78 : flatAt Try.prog 6 78 = some (repL endSc 16) := by kernel_rfl
theorem run_eq75 {l : List Value} (h : Fit (repL keySc 8) l) (w : World) : (binOp .eql 75 (.agg l.toArray) (.agg l.toArray)).run Try.prog w = .ok (.bool true) w := by
  rw [run_eql_flat (P := Try.prog) w 6 (t := 75) (xs := l.toArray) (ys := l.toArray) flat75 (by decide) (by kernel_rfl) h h, (eqs_iff h h).2 rfl]
theorem run_eq78 {l : List Value} (h : Fit (repL endSc 16) l) (w : World) : (binOp .eql 78 (.agg l.toArray) (.agg l.toArray)).run Try.prog w = .ok (.bool true) w := by
  rw [run_eql_flat (P := Try.prog) w 6 (t := 78) (xs := l.toArray) (ys := l.toArray) flat78 (by decide) (by kernel_rfl) h h, (eqs_iff h h).2 rfl]
theorem ks_ranges {w : World} {b : Nat} {s : Ks} (h : w.heap[b]? = some (kO s)) : w.rangeAt b 1 (rowsF (fun i => keyC (s.k i)) 8) ∧ w.rangeAt b 145 (rowsF (fun t => endC (s.e t)) 16) := by
  have hk := rowsF_length (f := fun i => keyC (s.k i)) (c := 18) (fun _ => keyC_length _) 8
  refine ⟨has_range h _ _ fun j hj => ?_, has_range h _ _ fun j hj => ?_⟩
  · rw [List.getElem?_toArray, show 1 + j = j + 1 by omega, ksC, List.getElem?_cons_succ, List.getElem?_append_left hj]
  · rw [List.getElem?_toArray, show 145 + j = (144 + j) + 1 by omega, ksC, List.getElem?_cons_succ, List.getElem?_append_right (by omega), hk, show 144 + j - 8 * 18 = j by omega]
set_option maxRecDepth 100000 in
set_option maxHeartbeats 4000000 in
theorem ksame_c (w : World) (b b' : Nat) (s : Ks) (h : w.heap[b]? = some (kO s)) (h' : w.heap[b']? = some (kO s)) (ok : KOk s) :
    Calls Try.prog 28 #[.pointer (some ⟨b, 0, none⟩), .pointer (some ⟨b', 0, none⟩)] w fun e w' => e = .returned (.bool true) ∧ Below w.heap.size w w' := by
  have T1 := Lib.hid (there_c w b s h ok)
  have T2 := Lib.hid (there_c w b' s h' ok)
  obtain ⟨r1, r2⟩ := ks_ranges h
  obtain ⟨q1, q2⟩ := ks_ranges h'
  have c := (k_cells h).1
  have c' := (k_cells h').1
  have hk := rowsF_length (f := fun i => keyC (s.k i)) (c := 18) (fun _ => keyC_length _) 8
  have he := rowsF_length (f := fun i => endC (s.e i)) (c := 4) (fun _ => endC_length _) 16
  have f1 := fit_rep (f := fun i => keyC (s.k i)) (fun i => fit_key _) 8
  have f2 := fit_rep (f := fun i => endC (s.e i)) (fun i => fit_end _) 16
  generalize rowsF (fun i => keyC (s.k i)) 8 = lk at r1 q1 hk f1
  generalize rowsF (fun t => endC (s.e t)) 16 = le at r2 q2 he f2
  have E1 := Lib.hid (fun w => run_eq75 f1 w)
  have E2 := Lib.hid (fun w => run_eq78 f2 w)
  have R1 := Lib.hid r1
  have R2 := Lib.hid r2
  have Q1 := Lib.hid q1
  have Q2 := Lib.hid q2
  have g1 : (Try.prog.info? 75).map (·.size) = some lk.length := by rw [hk]; kernel_rfl
  have G1 := Lib.hid g1
  have g2 : (Try.prog.info? 78).map (·.size) = some le.length := by rw [he]; kernel_rfl
  have G2 := Lib.hid g2
  clear h h' r1 r2 q1 q2 hk he f1 f2 g1 g2
  go_enter Try.func28, Try.ntmps28
  go_wp2_with (go_at_call 30; first | ((with_reducible refine T1.out.mono ?_); rintro e w' ⟨rfl, rfl⟩) | ((with_reducible refine T2.out.mono ?_); rintro e w' ⟨rfl, rfl⟩))
  refine wp_region_quiet_lit (by kernel_rfl) (by kernel_rfl) ?_
  iterate 13 go_big_quiet_step (fail)
  refine BigFrame.wpQuiet_want rfl (fun K hK => quiet_load_mid 75 (.tmp 30) rfl b 1 rfl lk _ R1.out Try.underlying75 rfl G1.out ?_)
  refine hK _ ?_
  clear hK K
  simp only [Act.put, List.setIfInBounds_toArray, List.set_cons_succ, List.set_cons_zero]
  iterate 3 go_big_quiet_step (fail)
  refine BigFrame.wpQuiet_want rfl (fun K hK => quiet_load_mid 75 (.tmp 34) rfl b' 1 rfl lk _ Q1.out Try.underlying75 rfl G1.out ?_)
  refine hK _ ?_
  clear hK K
  simp only [Act.put, List.setIfInBounds_toArray, List.set_cons_succ, List.set_cons_zero]
  have ee := E1.out
  go_big_quiet_step (fail)
  clear ee
  iterate 5 go_big_quiet_step (fail)
  refine BigFrame.wpQuiet_want rfl (fun K hK => quiet_load_mid 78 (.tmp 41) rfl b 145 rfl le _ R2.out Try.underlying78 rfl G2.out ?_)
  refine hK _ ?_
  clear hK K
  simp only [Act.put, List.setIfInBounds_toArray, List.set_cons_succ, List.set_cons_zero]
  iterate 3 go_big_quiet_step (fail)
  refine BigFrame.wpQuiet_want rfl (fun K hK => quiet_load_mid 78 (.tmp 45) rfl b' 145 rfl le _ Q2.out Try.underlying78 rfl G2.out ?_)
  refine hK _ ?_
  clear hK K
  simp only [Act.put, List.setIfInBounds_toArray, List.set_cons_succ, List.set_cons_zero]
  have ee := E2.out
  go_big_quiet_step (fail)
  clear ee
  repeat go_big_quiet_step (fail)
  refine wpQuiet_nil ?_
  rintro _ ⟨nq, rfl⟩
  go_wp2_with fail
  go_ret
  exact ⟨rfl, below_drewN (Below.refl _ _) _⟩
end Go.Proofs.Ytcchebjeohdkfaa
