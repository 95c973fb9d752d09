/-
  The job of the row of the woken, its argument, what the notes hold; plain parts of its own function. Conditions: those said.
  A call without arguments is laid (put without arguments), over the translation of this seat. Conditions: the blocks that are named hold what is said.
  TopWoken: the walk of the row's own function, where the row is not too long. Conditions: those said.
  TopWoken: the row's own function, at every row. Conditions: a row of numbers.
-/
import Derived.Test.YtagmlijhgncklaaGreatDoorW47
import Derived.Test.YtagmlijhgncklaaGreatDoorW49
set_option linter.unusedVariables false
namespace Go.Proofs.YtagmlijhgncklaaGreatDoor.Ker
namespace Wk
open Go.RowKit Go.Proofs.YtagmlijhgncklaaGreatDoor Go.Proofs.YtagmlijhgncklaaGreatDoor.Code
open Go.Proofs.YtagmlijhgncklaaGreatDoor.Ker.Dd (LW DW BelowK own_prg heir_call set_ok call_ok pgs_of nv_some)

abbrev intSc : List Sc := [.i .i64]
theorem int_cells {w : World} {a : Option Addr} {len : Nat} (h : IsRows w intSc a len) (h0 : 0 < len) :
    ∃ (b off : Nat) (l : List Int), a = some ⟨b, off, none⟩ ∧ l.length = len ∧ b < w.heap.size ∧ ∀ k, k < len → w.cell? ⟨b, off + k, none⟩ = some (.int .i64 (l.getD k 0)) := by
  rcases h with h | ⟨b, off, rfl, _, hb, h⟩
  · omega
  · have hq : ∀ k : Nat, ∃ x : Int, k < len → w.cell? ⟨b, off + k, none⟩ = some (.int .i64 x) := fun k => by
      by_cases hk : k < len
      · obtain ⟨cs, hf, hc⟩ := h k hk
        have hl : cs.length = 1 := hf.len
        match cs, hl with
        | [x], _ =>
          obtain ⟨⟨y, hy, _⟩, _⟩ := hf
          have := hc 0 (by decide)
          simp only [List.length_cons, List.length_nil, Nat.zero_add, Nat.mul_one, Nat.add_zero, List.getElem?_cons_zero] at this
          exact ⟨y, fun _ => by rw [this, hy]⟩
      · exact ⟨0, fun h => absurd h hk⟩
    refine ⟨b, off, (List.range len).map fun k => (hq k).choose, rfl, by simp, hb h0, fun k hk => ?_⟩
    rw [(hq k).choose_spec hk, List.getD_eq_getElem?_getD, List.getElem?_map, List.getElem?_range hk]
    rfl
/-- A number, not below 1, not above 30. -/
def winF (x : Int) : Int := if x < 1 then 1 else if x > 30 then 30 else x
theorem winF_le (x : Int) : 1 ≤ winF x ∧ winF x ≤ 30 := by
  unfold winF
  split
  · decide
  · split
    · decide
    · omega
theorem within_c (w : World) (x : Int) : Calls Tryz.prog 9 #[.int .i64 x, .int .i64 1, .int .i64 30] w fun e w' => e = .returned (.int .i64 (winF x)) ∧ w = w' := by
  unfold winF
  by_cases h1 : x < 1
  · rw [if_pos h1]
    go_enter Tryz.func9, Tryz.ntmps9
    go_wp2_with fail
    go_ret
    exact ⟨rfl, rfl⟩
  · rw [if_neg h1]
    by_cases h2 : x > 30
    · rw [if_pos h2]
      go_enter Tryz.func9, Tryz.ntmps9
      go_wp2_with fail
      go_ret
      exact ⟨rfl, rfl⟩
    · rw [if_neg h2]
      go_enter Tryz.func9, Tryz.ntmps9
      go_wp2_with fail
      go_ret
      exact ⟨rfl, rfl⟩
/-- The priority of the i-th thread. -/
def prF (l : List Int) (i : Nat) : Nat := (winF (l.getD i 0)).toNat
theorem prF_int (l : List Int) (i : Nat) : ((prF l i : Nat) : Int) = winF (l.getD i 0) := by
  unfold prF
  have := (winF_le (l.getD i 0)).1
  omega
theorem prF_le (l : List Int) (i : Nat) : 1 ≤ prF l i ∧ prF l i ≤ 30 := by
  have := winF_le (l.getD i 0)
  have := prF_int l i
  omega
/-- How the lists grow. -/
theorem head_put (f : Nat → Nat) : ([] : List Ins) ++ setsF 2 [0] ++ [⟨7, 0, 0, 0, 25⟩] = wHead ++ makesL f 0 := rfl
theorem make_put (f : Nat → Nat) (j : Nat) (x : Int) (hx : x = f j) : (wHead ++ makesL f j) ++ setsF 2 [1, x, 0, 0] ++ [⟨7, 0, 0, 0, 1⟩] = wHead ++ makesL f (j + 1) := by
  subst hx
  rw [List.append_assoc, List.append_assoc]
  rfl
theorem mid1_put (f : Nat → Nat) (n : Nat) : (wHead ++ makesL f n) ++ setsF 2 [16, 1] ++ [⟨7, 0, 0, 0, 7⟩] = wHead ++ (makesL f n ++ wMid.take 3) := by
  rw [List.append_assoc, List.append_assoc]
  rfl
theorem post_put (f : Nat → Nat) (n j : Nat) : (wHead ++ (makesL f n ++ (wMid ++ postsL j))) ++ setsF 2 [16] ++ [⟨7, 0, 0, 0, 30⟩] = wHead ++ (makesL f n ++ (wMid ++ postsL (j + 1))) := by
  rw [List.append_assoc, List.append_assoc, List.append_assoc, List.append_assoc]
  rfl
def oth1 : List Ins := [iSet 2 16, iCall 27]
theorem oth_put : ([] : List Ins) ++ setsF 2 [16] ++ [⟨7, 0, 0, 0, 27⟩] = oth1 := rfl
theorem own_two {w2 : World} {B : Nat} {v2 : Value} {L : List Ins} {i i2 : Ins} (h2 : w2.ownsRow B 29 5 v2 (L.length + 2) (L.flatMap Ins.cells ++ (i.cells ++ i2.cells))) : OwnI w2 B v2 (L ++ [i, i2]) := by
  show w2.ownsRow B 29 5 v2 (L ++ [i, i2]).length ((L ++ [i, i2]).flatMap Ins.cells)
  rw [List.flatMap_append]
  simpa using h2
theorem ins_two (i i2 : Ins) : ∀ u ∈ i.cells ++ i2.cells, u.oneCell' = true := by
  intro u hu
  rcases List.mem_append.1 hu with hu | hu
  · exact ins_one i u hu
  · exact ins_one i2 u hu
def wokJ (f : Nat → Nat) (n a ca b cb c : Nat) : Job := ⟨8, 4, 4, 2, 31, [⟨a, mainW f n, ca⟩, ⟨b, otherW, cb⟩], c, 2⟩
theorem note0_ok (m : Int) : (⟨8, 0, 0, 0, 0⟩ : Ins).Ok m :=
  .inr (.inr (.inr (.inr ⟨rfl, .inr ⟨rfl, rfl⟩, .inl ⟨rfl, by show (0 : Int) ≤ 0; decide, by show (0 : Int) ≤ 7; decide⟩, .inr ⟨rfl, rfl⟩, rfl⟩)))
theorem sets_ok {d : Nat} (hd : d < 8) (x m : Int) : (iSet d x).Ok m :=
  .inl ⟨rfl, .inl ⟨rfl, by show (0 : Int) ≤ (d : Int); omega, by show (d : Int) ≤ 7; omega⟩, .inr ⟨rfl, rfl⟩, .inr ⟨rfl, rfl⟩⟩
theorem calls_ok {k : Int} (h0 : 0 ≤ k) (h1 : k ≤ 255) (m : Int) : (iCall k).Ok m :=
  .inr (.inr (.inr (.inl ⟨rfl, .inr ⟨rfl, rfl⟩, .inr ⟨rfl, rfl⟩, .inr ⟨rfl, rfl⟩, h0, h1⟩)))
theorem main_ok (f : Nat → Nat) (n : Nat) (m : Int) : ∀ i ∈ mainW f n, i.Ok m := by
  intro i hi
  have h1 : ∀ n, i ∈ makesL f n → i.Ok m := by
    intro n
    induction n with
    | zero => intro h; cases h
    | succ n ih =>
      intro h
      rcases List.mem_append.1 h with h | h
      · exact ih h
      · simp only [wMake, List.mem_cons, List.mem_nil_iff, or_false] at h
        rcases h with rfl | rfl | rfl | rfl | rfl <;> first | exact sets_ok (by decide) _ _ | exact calls_ok (by decide) (by decide) _
  have h2 : ∀ n, i ∈ postsL n → i.Ok m := by
    intro n
    induction n with
    | zero => intro h; cases h
    | succ n ih =>
      intro h
      rcases List.mem_append.1 h with h | h
      · exact ih h
      · simp only [wPost, List.mem_cons, List.mem_nil_iff, or_false] at h
        rcases h with rfl | rfl <;> first | exact sets_ok (by decide) _ _ | exact calls_ok (by decide) (by decide) _
  rcases List.mem_append.1 hi with hi | hi
  · simp only [wHead, List.mem_cons, List.mem_nil_iff, or_false] at hi
    rcases hi with rfl | rfl <;> first | exact sets_ok (by decide) _ _ | exact calls_ok (by decide) (by decide) _
  · rcases List.mem_append.1 hi with hi | hi
    · exact h1 n hi
    · rcases List.mem_append.1 hi with hi | hi
      · simp only [wMid, List.mem_cons, List.mem_nil_iff, or_false] at hi
        rcases hi with rfl | rfl | rfl | rfl <;> first | exact sets_ok (by decide) _ _ | exact calls_ok (by decide) (by decide) _
      · exact h2 n hi
theorem other_ok (m : Int) : ∀ i ∈ otherW, i.Ok m := by
  intro i hi
  simp only [otherW, List.mem_cons, List.mem_nil_iff, or_false] at hi
  rcases hi with rfl | rfl | rfl | rfl <;> first | exact sets_ok (by decide) _ _ | exact calls_ok (by decide) (by decide) _ | exact note0_ok _
theorem wokJ_ok (f : Nat → Nat) (n a ca b cb c : Nat) (hn : n ≤ 7) : (wokJ f n a ca b cb c).Ok := by
  refine ⟨by show (1 : Int) ≤ 8; decide, by show (8 : Int) ≤ 16; decide, by show (1 : Int) ≤ 4; decide, by show (4 : Int) ≤ 8; decide, by show (1 : Int) ≤ 4; decide, by show (4 : Int) ≤ 32; decide, by show (1 : Int) ≤ 2; decide, by show (2 : Int) ≤ 100; decide, by show (1 : Int) ≤ 31; decide, by show (31 : Int) ≤ 31; decide, by show 1 ≤ 2; decide, by show 2 ≤ 32; decide, ?_⟩
  intro x hx
  simp [wokJ] at hx
  rcases hx with rfl | rfl
  · exact ⟨main_ok f n _, by show (mainW f n).length ≤ 256; rw [mainW_len]; omega⟩
  · exact ⟨other_ok _, by show (4 : Nat) ≤ 256; decide⟩
theorem wokJ_pgs {w : World} {f : Nat → Nat} {n a ca b cb c : Nat} (ha : PrgH w a (mainW f n)) (hb : PrgH w b otherW) (hc : w.heap[c]? = some (.cells #[.slice (some ⟨a, 0, none⟩) (mainW f n).length ca, .slice (some ⟨b, 0, none⟩) otherW.length cb] 24 (0, 0))) : PgsH w c (wokJ f n a ca b cb c).PS := by
  refine ⟨⟨[.slice (some ⟨a, 0, none⟩) (mainW f n).length ca, .slice (some ⟨b, 0, none⟩) otherW.length cb], hc, ?_⟩, ?_⟩
  · intro k x hk
    match k, hk with
    | 0, hk => cases hk; rfl
    | 1, hk => cases hk; rfl
  · intro x hx
    simp [wokJ] at hx
    rcases hx with rfl | rfl
    · exact ha
    · exact hb
theorem wb_of {B : KB} {PS : List Prg} {b cap n : Nat} {f : Nat → Nat} {t o s q pr : Int} (hJ : B.J = ⟨t, o, s, q, pr, PS, b, cap⟩) (hL : PS.map Prg.L = [mainW f n, otherW]) (hn : B.n = 8) (n1 : 1 ≤ n) (n7 : n ≤ 7) (hf : ∀ i, i < n → 1 ≤ f i ∧ f i ≤ 30) : WB B f n := by
  match PS, hL, hJ with
  | [m, y], hL, hJ =>
    simp at hL
    exact ⟨hn, ⟨m, y, by rw [hJ], hL.1, hL.2⟩, n1, n7, hf⟩
  | [], hL, _ => simp at hL
  | [_], hL, _ => simp at hL
  | _ :: _ :: _ :: _, hL, _ => simp at hL
/-- What the notes hold. -/
theorem fst_get : ∀ (l : List (Int × Int)) (i : Nat) (x : Int), (l.map (·.1))[i]? = some x → (l.flatMap fun x => [Value.int .i64 x.1, Value.int .i64 x.2])[i * 2]? = some (.int .i64 x)
  | [], i, x, h => by simp at h
  | y :: l, 0, x, h => by
    simp at h
    subst h
    rfl
  | y :: l, i + 1, x, h => by
    have q := fst_get l i x (by simpa using h)
    rw [show (i + 1) * 2 = i * 2 + 1 + 1 by omega]
    exact q
/-- The i-th to tell. -/
def at_ (f : Nat → Nat) (n i : Nat) : Nat × Nat := (ord f n).getD i (0, 0)
theorem at_get (f : Nat → Nat) {n i : Nat} (h : i < n) : (ord f n)[i]? = some (at_ f n i) := by
  unfold at_
  rw [List.getD_eq_getElem?_getD, List.getElem?_eq_getElem (by rw [ord_len]; exact h)]
  rfl
theorem at_mem (f : Nat → Nat) {n i : Nat} (h : i < n) : 1 ≤ (at_ f n i).1 ∧ (at_ f n i).1 ≤ n ∧ (at_ f n i).2 = f ((at_ f n i).1 - 1) :=
  ord_mem f n _ (List.mem_of_getElem? (at_get f h))
theorem at_ahead (f : Nat → Nat) {n i : Nat} (h : i + 1 < n) : Ahead (at_ f n i) (at_ f n (i + 1)) := by
  have q := List.pairwise_iff_getElem.1 (ord_pairs f n) i (i + 1) (by rw [ord_len]; omega) (by rw [ord_len]; omega) (by omega)
  have e1 := at_get f (n := n) (i := i) (by omega)
  have e2 := at_get f (n := n) (i := i + 1) h
  rw [List.getElem?_eq_getElem (by rw [ord_len]; omega)] at e1 e2
  rw [← Option.some.inj e1, ← Option.some.inj e2]
  exact q
theorem notes_cells {W : World} {B : Nat} {v : Value} {f : Nat → Nat} {n : Nat} {N : List (Int × Int)} (h0 : 0 < n) (hN : N.map (·.1) = nts (ord f n)) (h : W.ownsRow B 48 2 v N.length (N.flatMap fun x => [.int .i64 x.1, .int .i64 x.2])) : ∃ g cap, v = .slice (some ⟨g, 0, none⟩) n cap ∧ ∀ i, i < n → W.cell? ⟨g, i * 2, none⟩ = some (.int .i64 ((at_ f n i).1 : Int)) := by
  have hl : N.length = n := by
    have := congrArg List.length hN
    simpa [nts, ord_len] using this
  rw [hl] at h
  rcases h.2 with ⟨_, e⟩ | ⟨g, cap, cur, e, hb, hg, hn, _, hs, ht⟩
  · omega
  · refine ⟨g, cap, e, fun i hi => has_cell _ hg ?_⟩
    have q := fst_get N i ((at_ f n i).1 : Int) (by
      rw [hN, nts, List.getElem?_map, at_get f hi]
      rfl)
    rw [← ht, List.getElem?_take_of_lt (by omega)] at q
    simpa using q
end Wk
end Go.Proofs.YtagmlijhgncklaaGreatDoor.Ker
namespace Go.Proofs.YtagmlijhgncklaaGreatDoor.Ker
namespace Wk
open Go.RowKit Go.Proofs.YtagmlijhgncklaaGreatDoor Go.Proofs.YtagmlijhgncklaaGreatDoor.Code
open Go.Proofs.YtagmlijhgncklaaGreatDoor.Ker.Dd (LW DW BelowK own_prg heir_call set_ok call_ok pgs_of nv_some)

set_option maxHeartbeats 1000000 in
set_option maxRecDepth 100000 in
theorem put_nil (w : World) (B : Nat) (v : Value) (L : List Ins) (h : OwnI w B v L) (hB : B ≤ w.heap.size) (n : Int) (hl : L.length ≤ 1000) :
    Calls Tryz.prog 8 #[v, .int .i64 n, .slice none 0 0] w fun e w' => ∃ v', e = .returned v' ∧ PutW w w' B v v' (L ++ [⟨7, 0, 0, 0, n⟩]) := by
  obtain ⟨i0, hi, hz0, hz1, hz2⟩ := info_parts info29
  have HI := Lib.hid hi
  have HZ0 := Lib.hid hz0
  have HZ1 := Lib.hid hz1
  have HZ2 := Lib.hid hz2
  have HB := Lib.hid hB
  have P0 := Lib.hid (PutW.refl h)
  have HLL := Lib.hid hl
  clear hi hz0 hz1 hz2 h hB hl
  go_enter Tryz.func8, Tryz.ntmps8
  go_wp2_with fail
  go_loopw [0, 7] (fun u i wr => u = v ∧ i = .int .i64 0 ∧ wr = w) (fun _ i _ => 0)
  case atStart => exact ⟨rfl, rfl, rfl⟩
  case round =>
    obtain ⟨rfl, rfl, rfl⟩ := hrel
    have CC : Calls Tryz.prog 10 #[.int .i64 n] wr fun e w' => e = .returned (.agg #[.int .i64 7, .int .i64 0, .int .i64 0, .int .i64 0, .int .i64 n]) ∧ Below wr.heap.size wr w' := Call_c wr n
    go_wp2_with (first
      | (go_at_call 10; refine CC.mono ?_; rintro e w1 ⟨rfl, b1⟩; have HM1 := Lib.hid (P0.out.reads b1); have HS1 := Lib.hid b1.size; clear b1)
      | (at_builtin; refine wpList_append_own_at _ rfl _ _ 24 rfl B 29 i0 (.agg #[.int .i64 0, .int .i64 0, .int .i64 0, .int .i64 0, .int .i64 0]) 5 40 Tryz.underlying24 HI.out HZ0.out HZ1.out HZ2.out rfl (by decide) _ L.length (L.flatMap Ins.cells) rfl (World.ownsRow.alloc HM1.out.own _) ⟨w1.heap.size, 0, none⟩ 1 1 (Ins.mk 7 0 0 0 n).cells rfl rfl (news_ins w1 (Ins.mk 7 0 0 0 n)) (ins_one _) ?h63 ?hby ?hbase ?_))
    case h63 => have := HLL.out; simp only [maxLen]; omega
    case hby => have := HLL.out; omega
    case hbase => have := HB.out; have := HS1.out; simp; omega
    intro v2 w2 h2 g2 _ hat
    have M2 := Lib.hid ((HM1.out.reads ((Below.refl w1.heap.size w1).alloc (Nat.le_refl _) _)).more (i := Ins.mk 7 0 0 0 n) h2 g2 (by simpa using hat))
    clear h2 g2 hat
    go_wp2_with fail
    go_ret
    exact ⟨_, rfl, M2.out⟩
/-- A call without arguments is laid behind a list of the caller's own. -/
theorem heir_call0 {w W : World} {v : Value} {L : List Ins} (h : LW w W v L) (hl : L.length ≤ 1000) (n : Int) :
    Calls Tryz.prog 8 #[v, .int .i64 n, .slice none 0 0] W fun e w' => ∃ v', e = .returned v' ∧ LW w w' v' (L ++ [⟨7, 0, 0, 0, n⟩]) := by
  refine (put_nil W w.heap.size v L h.own h.below.size n hl).mono ?_
  rintro e w' ⟨v', rfl, P⟩
  exact ⟨v', rfl, h.grown P.own P.grown⟩
end Wk
end Go.Proofs.YtagmlijhgncklaaGreatDoor.Ker
namespace Go.Proofs.YtagmlijhgncklaaGreatDoor.Ker
namespace Wk
open Go.RowKit Go.Proofs.YtagmlijhgncklaaGreatDoor Go.Proofs.YtagmlijhgncklaaGreatDoor.Code
open Go.Proofs.YtagmlijhgncklaaGreatDoor.Ker.Dd (LW DW BelowK own_prg heir_call set_ok call_ok pgs_of nv_some)

theorem mid2_call (f : Nat → Nat) (n : Nat) : (wHead ++ (makesL f n ++ wMid.take 3)) ++ [⟨7, 0, 0, 0, 6⟩] = wHead ++ (makesL f n ++ (wMid ++ postsL 0)) := by
  rw [List.append_assoc, List.append_assoc]
  rfl
theorem len_makes (f : Nat → Nat) (j : Nat) (h : j ≤ 7) : (wHead ++ makesL f j).length ≤ 1000 := by
  rw [List.length_append, makesL_len]
  show 2 + _ ≤ 1000
  omega
theorem len_mid (f : Nat → Nat) (j : Nat) (h : j ≤ 7) : (wHead ++ (makesL f j ++ wMid.take 3)).length ≤ 1000 := by
  rw [List.length_append, List.length_append, makesL_len]
  show 2 + (_ + 3) ≤ 1000
  omega
theorem len_posts (f : Nat → Nat) (n j : Nat) (h : n ≤ 7) (h2 : j ≤ 7) : (wHead ++ (makesL f n ++ (wMid ++ postsL j))).length ≤ 1000 := by
  rw [List.length_append, List.length_append, List.length_append, makesL_len, postsL_len]
  show 2 + (_ + (4 + _)) ≤ 1000
  omega
theorem news_two (w : World) (i i2 : Ins) : ∀ j u, (i.cells ++ i2.cells)[j]? = some u → (w.alloc (.cells #[.int .i64 i.op, .int .i64 i.d, .int .i64 i.a, .int .i64 i.b, .int .i64 i.imm, .int .i64 i2.op, .int .i64 i2.d, .int .i64 i2.a, .int .i64 i2.b, .int .i64 i2.imm] 29)).cell? ((⟨w.heap.size, 0, none⟩ : Addr).add j) = some u := by
  intro j u h
  exact World.news_of_block (heap_alloc_new w (.cells #[.int .i64 i.op, .int .i64 i.d, .int .i64 i.a, .int .i64 i.b, .int .i64 i.imm, .int .i64 i2.op, .int .i64 i2.d, .int .i64 i2.a, .int .i64 i2.b, .int .i64 i2.imm] 29)) j u (by simpa [Ins.cells] using h)
set_option maxHeartbeats 4000000 in
set_option maxRecDepth 100000 in
theorem wok_walk (w : World) (ab off cap : Nat) (l : List Int) (n1 : 1 ≤ l.length) (n7 : l.length ≤ 7) (hab : ab < w.heap.size) (hcs : ∀ k, k < l.length → w.cell? ⟨ab, off + k, none⟩ = some (.int .i64 (l.getD k 0))) :
    Calls Tryz.prog 3 #[.slice (some ⟨ab, off, none⟩) l.length cap] w fun e w' => e = .returned (.bool true) ∧ Below w.heap.size w w' := by
  obtain ⟨n, hn⟩ : ∃ n, n = l.length := ⟨_, rfl⟩
  rw [← hn] at n1 n7 hcs ⊢
  obtain ⟨f, hf⟩ : ∃ f, f = prF l := ⟨_, rfl⟩
  have HF := Lib.hid hf
  have HN := Lib.hid hn
  have HCS := Lib.hid hcs
  have HAB := Lib.hid hab
  have HN1 := Lib.hid n1
  have HN7 := Lib.hid n7
  clear hn hcs hab hf
  have i1 : (1 : Int) ≤ n := by omega
  have i7 : (n : Int) ≤ 7 := by omega
  go_enter Tryz.func3, Tryz.ntmps3
  have PC := heir_call (LW.nil w) (by decide) #[.int .i64 0] [0] rfl (by decide) 25 1
  rw [head_put f] at PC
  go_wp2_with (go_at_call 8; refine PC.mono ?_; rintro e w1 ⟨v1, rfl, K1⟩; have HM := Lib.hid K1; clear K1 PC)
  go_loopw [3, 4] (fun u3 u4 wr => ∃ j : Nat, u4 = .int .i64 j ∧ j ≤ n ∧ LW w wr u3 (wHead ++ makesL f j)) (fun _ u4 _ => n - (intOf u4).toNat)
  case atStart => exact ⟨0, rfl, by omega, HM.out⟩
  case round =>
    clear HM
    obtain ⟨j, rfl, hj, hM⟩ := hrel
    have HM := Lib.hid hM
    clear hM
    by_cases hlt : j < n
    · have i0 : (0 : Int) ≤ j := by omega
      have ij : (j : Int) < (n : Int) := by omega
      have HJ := Lib.hid hlt
      have cb : wr.cell? ⟨ab, off + j, none⟩ = some (.int .i64 (l.getD j 0)) := (Below.cell (p := ⟨ab, off + j, none⟩) HM.out.below HAB.out).trans (HCS.out j hlt)
      obtain ⟨x, hx⟩ : ∃ x, x = l.getD j 0 := ⟨_, rfl⟩
      rw [← hx] at cb
      have hwx : winF x = f j := by rw [hx, HF.out]; exact (prF_int l j).symm
      have WC := within_c wr x
      have PC := heir_call HM.out (len_makes f j (by have := HN7.out; omega)) #[.int .i64 1, .int .i64 (winF x), .int .i64 0, .int .i64 0] [1, winF x, 0, 0] rfl (by show (4 : Nat) ≤ 100; decide) 1 4
      rw [make_put f j (winF x) hwx] at PC
      clear hlt hj hx hwx
      go_wp2_with (first
        | (go_at_call 9; refine WC.mono ?_; rintro e w2 ⟨rfl, rfl⟩)
        | (go_at_call 8; refine PC.mono ?_; rintro e w2 ⟨v2, rfl, K2⟩; have HM2 := Lib.hid K2; clear K2 PC))
      go_roundw
      case rel => exact ⟨j + 1, by go_num, by have := HJ.out; omega, HM2.out⟩
      case measure => have := HJ.out; simp [intOf]; omega
    · obtain rfl : j = n := by omega
      have PC := heir_call HM.out (len_makes f j (by have := HN7.out; omega)) #[.int .i64 16, .int .i64 1] [16, 1] rfl (by decide) 7 2
      rw [mid1_put f j] at PC
      clear hlt hj
      go_upto_region 10 with (go_at_call 8; refine PC.mono ?_; rintro e w2 ⟨v2, rfl, K2⟩; have HM2 := Lib.hid K2; clear K2 PC HM)
      have PC := heir_call0 HM2.out (len_mid f j (by have := HN7.out; omega)) 6
      rw [mid2_call f j] at PC
      go_wp2_with (go_at_call 8; refine PC.mono ?_; rintro e w3 ⟨v3, rfl, K3⟩; have HM3 := Lib.hid K3; clear K3 PC HM2)
      go_loopw [3, 5] (fun u3 u5 wr => ∃ i : Nat, u5 = .int .i64 i ∧ i ≤ j ∧ LW w wr u3 (wHead ++ (makesL f j ++ (wMid ++ postsL i)))) (fun _ u5 _ => j - (intOf u5).toNat)
      case atStart => exact ⟨0, rfl, by omega, HM3.out⟩
      case round =>
        clear HM3
        obtain ⟨i, rfl, hi, hM⟩ := hrel
        have HM := Lib.hid hM
        clear hM
        by_cases hlt : i < j
        · have i0 : (0 : Int) ≤ i := by omega
          have ij : (i : Int) < (j : Int) := by omega
          have HJ := Lib.hid hlt
          have PC := heir_call HM.out (len_posts f j i (by have := HN7.out; omega) (by have := HN7.out; omega)) #[.int .i64 16] [16] rfl (by decide) 30 1
          rw [post_put f j i] at PC
          clear hlt hi
          go_wp2_with (go_at_call 8; refine PC.mono ?_; rintro e w4 ⟨v4, rfl, K4⟩; have HM4 := Lib.hid K4; clear K4 PC)
          go_roundw
          case rel => exact ⟨i + 1, by go_num, by have := HJ.out; omega, HM4.out⟩
          case measure => have := HJ.out; simp [intOf]; omega
        · obtain rfl : i = j := by omega
          clear hlt hi
          have PC := heir_call (LW.nil wr) (by decide) #[.int .i64 16] [16] rfl (by decide) 27 1
          rw [oth_put] at PC
          have CC : ∀ W, Calls Tryz.prog 10 #[.int .i64 5] W fun e w' => e = .returned (.agg #[.int .i64 7, .int .i64 0, .int .i64 0, .int .i64 0, .int .i64 5]) ∧ Below W.heap.size W w' := fun W => Call_c W 5
          obtain ⟨i0, hi, hz0, hz1, hz2⟩ := info_parts info29
          have HI := Lib.hid hi
          have HZ0 := Lib.hid hz0
          have HZ1 := Lib.hid hz1
          have HZ2 := Lib.hid hz2
          clear hi hz0 hz1 hz2
          go_upto_region 18 with (first
            | (go_at_call 8; refine PC.mono ?_; rintro e w5 ⟨v5, rfl, K5⟩; have HO := Lib.hid K5; clear K5 PC)
            | (go_at_call 10; refine (CC _).mono ?_; rintro e w6 ⟨rfl, b6⟩; have HO6 := Lib.hid (HO.out.reads b6); clear b6 CC HO)
            | (at_builtin; refine wpList_append_own_at _ rfl _ _ 24 rfl wr.heap.size 29 i0 (.agg #[.int .i64 0, .int .i64 0, .int .i64 0, .int .i64 0, .int .i64 0]) 5 40 Tryz.underlying24 HI.out HZ0.out HZ1.out HZ2.out rfl (by decide) _ oth1.length (oth1.flatMap Ins.cells) rfl (World.ownsRow.alloc HO6.out.own _) ⟨w6.heap.size, 0, none⟩ 2 2 ((Ins.mk 7 0 0 0 5).cells ++ (Ins.mk 8 0 0 0 0).cells) rfl rfl (news_two w6 (Ins.mk 7 0 0 0 5) (Ins.mk 8 0 0 0 0)) (ins_two _ _) ?h63 ?hby ?hbase ?_))
          case h63 => show 2 + 2 ≤ maxLen; simp only [maxLen]; omega
          case hby => show (2 + 2) * 40 ≤ _; omega
          case hbase => have := HO6.out.below.size; simp; omega
          intro v8 w8 h8 g8 _ _
          have HT : RowKit.Hid (LW wr w8 v8 otherW) := Lib.hid ((HO6.out.reads ((Below.refl _ w6).alloc (Nat.le_refl _) _)).grown (own_two (i := ⟨7, 0, 0, 0, 5⟩) (i2 := ⟨8, 0, 0, 0, 0⟩) h8) g8)
          clear h8 g8 HO6 HI HZ0 HZ1 HZ2
          obtain ⟨b, cb, hv8, hb8, p8⟩ := own_prg HT.out.own (by decide)
          subst hv8
          have hM8 := HM.out.reads HT.out.below
          obtain ⟨a, ca, hv3, ha3, p3⟩ := own_prg (L := mainW f i) hM8.own (by rw [mainW_len]; omega)
          subst hv3
          have HPA := Lib.hid p3
          have HPB := Lib.hid p8
          have HB8 := Lib.hid hM8.below
          clear hM8 p3 p8 ha3 hb8 HT HM
          have JC : ∀ V, Calls Tryz.prog 11 #[.slice (some ⟨w8.heap.size, 0, none⟩) 2 2] V fun e w' => e = .returned (.agg #[.int .i64 4, .int .i64 4, .int .i64 4, .int .i64 2, .int .i64 512, .int .i64 5, .slice (some ⟨w8.heap.size, 0, none⟩) 2 2, .slice none 0 0]) ∧ Below V.heap.size V w' := fun V => Job_c V [⟨a, mainW f i, ca⟩, ⟨b, otherW, cb⟩] w8.heap.size 2
          go_upto_region 19 with (go_at_call 11; with_reducible refine (JC _).mono ?_; rintro e w9 ⟨rfl, b9⟩; have HB9 := Lib.hid b9; clear b9 JC)
          obtain ⟨c, hc⟩ : ∃ c, c = w8.heap.size := ⟨_, rfl⟩
          have xc := heap_alloc_new w8 (.cells #[.slice (some ⟨a, 0, none⟩) (mainW f i).length ca, .slice (some ⟨b, 0, none⟩) otherW.length cb] 24)
          rw [← hc] at xc
          have bl1 := (Below.refl w8.heap.size w8).alloc (Nat.le_refl _) (.cells #[.slice (some ⟨a, 0, none⟩) (mainW f i).length ca, .slice (some ⟨b, 0, none⟩) otherW.length cb] 24)
          have hpg := wokJ_pgs (HPA.out.reads bl1) (HPB.out.reads bl1) xc
          have hb9 := HB9.out
          have hbw := HB8.out.trans (bl1.mono HB8.out.size)
          have hpg1 := hpg.reads hb9
          have hbw1 := hbw.trans (hb9.mono hbw.size)
          obtain ⟨jb, hjb⟩ : ∃ jb, jb = w9.heap.size := ⟨_, rfl⟩
          have bl3 := (Below.refl w9.heap.size w9).alloc (Nat.le_refl _) (.cells #[.int .i64 4, .int .i64 4, .int .i64 4, .int .i64 2, .int .i64 512, .int .i64 5, .slice (some ⟨c, 0, none⟩) 2 2, .slice none 0 0] 34)
          rw [← hc, ← hjb]
          refine world_wp (fun W => W.heap[jb]? = some (.cells #[.int .i64 4, .int .i64 4, .int .i64 4, .int .i64 2, .int .i64 512, .int .i64 5, .slice (some ⟨c, 0, none⟩) 2 2, .slice none 0 0] 34 (0, 0)) ∧ ∀ o W', Upd W jb o W' → PgsH W' c (wokJ f i a ca b cb c).PS ∧ Below w.heap.size w W') ⟨by rw [hjb]; exact heap_alloc_new w9 _, fun o W' U => by
            have bu := bl3.trans (U.below (B := w9.heap.size) (by rw [hjb]; exact Nat.le_refl _) bl3.size)
            exact ⟨hpg1.reads bu, hbw1.trans (bu.mono hbw1.size)⟩⟩ ?_
          clear bl3 hbw1 hpg1 hbw hb9 hpg bl1 xc hc HB9 HPA HPB HB8 hjb
          rintro W ⟨xj, hpg⟩
          have fz := has_free xj
          have U0 := ((Upd.refl xj).setCell 0 (.int .i64 8)).setCell 5 (.int .i64 31)
          have c0 : W.cell? ⟨jb, 0, none⟩ = some (.int .i64 4) := has_cell 0 xj rfl
          have c5 : W.cell? ⟨jb, 5, none⟩ = some (.int .i64 5) := has_cell 5 xj rfl
          have U1 := U0.to (o' := .cells (wokJ f i a ca b cb c).cells.toArray 34 (0, 0)) (by simp only [wokJ, Job.cells, List.setIfInBounds_toArray, List.set_cons_succ, List.set_cons_zero]; rfl)
          have HU := Lib.hid (And.intro U1.1 (hpg _ _ U1))
          clear hpg U0 U1
          go_upto_region 21 with fail
          refine world_wp (fun W => W.heap[jb]? = some (.cells (wokJ f i a ca b cb c).cells.toArray 34 (0, 0)) ∧ PgsH W c (wokJ f i a ca b cb c).PS ∧ Below w.heap.size w W) HU.out ?_
          clear HU xj c0 c5 fz W
          clear w9 w8
          rintro W ⟨xj, hpg, hbw⟩
          have d0 : W.cell? ⟨jb, 0, none⟩ = some (.int .i64 8) := has_cell 0 xj rfl
          have d1 : W.cell? ⟨jb, 1, none⟩ = some (.int .i64 4) := has_cell 1 xj rfl
          have d2 : W.cell? ⟨jb, 2, none⟩ = some (.int .i64 4) := has_cell 2 xj rfl
          have d3 : W.cell? ⟨jb, 3, none⟩ = some (.int .i64 2) := has_cell 3 xj rfl
          have d4 : W.cell? ⟨jb, 4, none⟩ = some (.int .i64 512) := has_cell 4 xj rfl
          have d5 : W.cell? ⟨jb, 5, none⟩ = some (.int .i64 31) := has_cell 5 xj rfl
          have d6 : W.cell? ⟨jb, 6, none⟩ = some (.slice (some ⟨c, 0, none⟩) 2 2) := has_cell 6 xj rfl
          have d7 : W.cell? ⟨jb, 7, none⟩ = some (.slice none 0 0) := has_cell 7 xj rfl
          have HPG := Lib.hid hpg
          have HBW := Lib.hid hbw
          have NC : ∀ V, PgsH V c (wokJ f i a ca b cb c).PS → _ := fun V h => new_c V (wokJ f i a ca b cb c) h (wokJ_ok f i a ca b cb c HN7.out) 8 4 31 rfl rfl rfl
          clear hpg hbw xj
          go_upto_region 22 with (go_at_call 12; refine (NC _ HPG.out).mono ?_; rintro e w2 ⟨B, lo, tb, tc, rfl, hJ, hn, l1, l2, l3, l4, k2, cm, b2, hl⟩; have HK2 := Lib.hid k2; have HN0 := Lib.hid (now_first cm l1 l3 l4); have HB2 := Lib.hid (HBW.out.trans (b2.mono HBW.out.size)); have HJJ := Lib.hid hJ; have HNN := Lib.hid hn; have HLL := Lib.hid hl; clear NC k2 cm l1 l2 l3 l4 b2 hJ hn hl)
          have WBB : WB B f i := by
            obtain ⟨PS, b', cap, h1, h2⟩ := HJJ.out
            exact wb_of h1 h2 HNN.out HN1.out HN7.out (fun k _ => by rw [HF.out]; exact prF_le l k)
          have HS0 : NowS (KS.first B lo 8 4 31 tb tc) B (Pl.first B 8 31 tb tc) := ⟨HN0.out, rfl, rfl, rfl⟩
          have HSW : RowKit.Hid (∃ S, (∃ A : KS → Prop, A S ∧ Steps B 300 A (Told B f i)) ∧ KW w2 S ∧ BelowK w S w2) := Lib.hid ⟨_, ⟨_, HS0, runs300 WBB tb tc⟩, HK2.out, HB2.out, fun k hk => HLL.out k (Nat.lt_of_lt_of_le hk HBW.out.size)⟩
          clear WBB HS0 d0 d1 d2 d3 d4 d5 d6 d7 HPG HBW HK2 HN0 HB2 HJJ HNN HLL W
          go_wp2_with fail
          go_loopw [10] (fun u wr => ∃ (k : Nat) (S : KS), u = .int .i64 k ∧ k ≤ 300 ∧ (∃ A : KS → Prop, A S ∧ Steps B (300 - k) A (Told B f i)) ∧ KW wr S ∧ BelowK w S wr) (fun u _ => 300 - (intOf u).toNat)
          case atStart =>
            obtain ⟨S, h1, h2, h3⟩ := HSW.out
            exact ⟨0, S, rfl, by omega, h1, h2, h3⟩
          case round =>
            clear HSW
            obtain ⟨k, S, rfl, hk, hA, hK, hF⟩ := hrel
            have HK := Lib.hid hK
            have HBK := Lib.hid hF
            clear hK hF
            by_cases hlt : k < 300
            · obtain ⟨A, hA, hS⟩ := hA
              rw [show 300 - k = (300 - (k + 1)) + 1 by omega] at hS
              obtain ⟨M, hD, hS⟩ := hS
              have HA := Lib.hid hA
              have HD := Lib.hid hD
              have HS := Lib.hid hS
              clear hA hD hS
              go_wp2_with (first
                | (go_at_call 14; refine (Run_c _).mono ?_; rintro e w3 ⟨rfl, b3⟩; have HK3 := Lib.hid (HK.out.reads b3); have HF3 := Lib.hid (HBK.out.fr (Fr.reads S b3)); clear b3)
                | (go_at_call 13; refine (HD.out w3 S HA.out HK3.out).mono ?_; rintro e w4 ⟨S4, rfl, hA4, k4, f4⟩; have HA4 := Lib.hid hA4; have HK4 := Lib.hid k4; have HF4 := Lib.hid (HF3.out.fr f4); clear hA4 k4 f4))
              go_roundw
              case rel => exact ⟨k + 1, S4, by go_num, by omega, ⟨M, HA4.out, HS.out⟩, HK4.out, HF4.out⟩
              case measure => simp [intOf]; omega
            · obtain rfl : k = 300 := by omega
              obtain ⟨A, hA, hS⟩ := hA
              have hTold : Told B f i S := hS S hA
              clear hA hS hlt hk
              have hnl : S.lo.notes.length = i := by
                have := congrArg List.length hTold.2
                simpa [nts, ord_len] using this
              obtain ⟨gn, cn, hnv⟩ := nv_some HK.out (by rw [hnl]; exact HN1.out)
              have NT := Notes_c wr S hTold.1 HK.out (by rw [hnl]; have := HN7.out; omega) gn cn hnv
              have HNO := Lib.hid hTold.2
              clear hTold hnl hnv
              go_upto_region 29 with (go_at_call 15; refine NT.mono ?_; rintro e w10 ⟨v10, rfl, hrow, _, b10⟩; have HR10 := Lib.hid hrow; have HB10 := Lib.hid (HBK.out.1.trans (b10.mono HBK.out.1.size)); clear hrow b10 NT)
              obtain ⟨gg, cg, hv10, hcells⟩ := notes_cells HN1.out HNO.out HR10.out
              subst hv10
              have HCE := Lib.hid hcells
              clear hcells HR10 HNO HK HBK A
              go_wp2_with fail
              go_loopw [12] (fun u wr => ∃ j : Nat, u = .int .i64 (j : Int) ∧ 1 ≤ j ∧ j ≤ i ∧ Below w10.heap.size w10 wr) (fun u _ => i - (intOf u).toNat)
              case atStart => exact ⟨1, rfl, Nat.le_refl _, HN1.out, Below.refl _ _⟩
              case round =>
                obtain ⟨j, rfl, hj1, hj, hbl⟩ := hrel
                have HBL := Lib.hid hbl
                by_cases hlt : j < i
                · obtain ⟨k, hk⟩ : ∃ k, j = k + 1 := ⟨j - 1, by omega⟩
                  have HJK := Lib.hid hk
                  have HJ := Lib.hid hlt
                  obtain ⟨y1, hy1⟩ : ∃ y1, y1 = (at_ f i k).1 := ⟨_, rfl⟩
                  obtain ⟨u1, hu1⟩ : ∃ u1, u1 = (at_ f i (k + 1)).1 := ⟨_, rfl⟩
                  have e1 := HCE.out k (by omega)
                  have e2 := HCE.out j hlt
                  rw [hk] at e2
                  rw [← hy1] at e1
                  rw [← hu1] at e2
                  rw [← hk] at e2
                  have hgl : gg < w10.heap.size := World.block_lt_of_cell? w10 ⟨gg, k * 2, none⟩ (by rw [e1])
                  have c1 : wr.cell? ⟨gg, k * 2, none⟩ = some (.int .i64 (y1 : Int)) := (Below.cell (p := ⟨gg, k * 2, none⟩) hbl hgl).trans e1
                  have c2 : wr.cell? ⟨gg, j * 2, none⟩ = some (.int .i64 (u1 : Int)) := (Below.cell (p := ⟨gg, j * 2, none⟩) hbl hgl).trans e2
                  obtain ⟨m1, m2, m3⟩ := at_mem f (n := i) (i := k) (by omega)
                  obtain ⟨m4, m5, m6⟩ := at_mem f (n := i) (i := k + 1) (by omega)
                  have ah := at_ahead f (n := i) (i := k) (by omega)
                  unfold Ahead at ah
                  rw [m3, m6] at ah
                  rw [← hy1] at m1 m2 ah
                  rw [← hu1] at m4 m5 ah
                  obtain ⟨a1, ha1⟩ : ∃ a1, a1 = y1 - 1 := ⟨_, rfl⟩
                  obtain ⟨a2, ha2⟩ : ∃ a2, a2 = u1 - 1 := ⟨_, rfl⟩
                  rw [← ha1, ← ha2] at ah
                  have bw := HB10.out.trans (hbl.mono HB10.out.size)
                  have c3 : wr.cell? ⟨ab, off + a1, none⟩ = some (.int .i64 (l.getD a1 0)) := (Below.cell (p := ⟨ab, off + a1, none⟩) bw HAB.out).trans (HCS.out a1 (by omega))
                  have c4 : wr.cell? ⟨ab, off + a2, none⟩ = some (.int .i64 (l.getD a2 0)) := (Below.cell (p := ⟨ab, off + a2, none⟩) bw HAB.out).trans (HCS.out a2 (by omega))
                  have w1 := prF_int l a1
                  have w2 := prF_int l a2
                  rw [← HF.out] at w1 w2
                  obtain ⟨x1, hx1⟩ : ∃ x1, x1 = l.getD a1 0 := ⟨_, rfl⟩
                  obtain ⟨x2, hx2⟩ : ∃ x2, x2 = l.getD a2 0 := ⟨_, rfl⟩
                  rw [← hx1] at c3 w1
                  rw [← hx2] at c4 w2
                  have WC1 : ∀ W, Calls Tryz.prog 9 #[.int .i64 x1, .int .i64 1, .int .i64 30] W fun e w' => e = .returned (.int .i64 (winF x1)) ∧ W = w' := fun W => within_c W x1
                  have WC2 : ∀ W, Calls Tryz.prog 9 #[.int .i64 x2, .int .i64 1, .int .i64 30] W fun e w' => e = .returned (.int .i64 (winF x2)) ∧ W = w' := fun W => within_c W x2
                  obtain ⟨z1, hz1⟩ : ∃ z1, z1 = winF x1 := ⟨_, rfl⟩
                  obtain ⟨z2, hz2⟩ : ∃ z2, z2 = winF x2 := ⟨_, rfl⟩
                  rw [← hz1] at w1 WC1
                  rw [← hz2] at w2 WC2
                  have nle : z2 ≤ z1 := by omega
                  have nge : z1 = z2 → (y1 : Int) < u1 := by omega
                  have NGE := Lib.hid nge
                  have q1 : (1 : Int) ≤ y1 := by omega
                  have q2 : (y1 : Int) ≤ i := by omega
                  have q3 : (1 : Int) ≤ u1 := by omega
                  have q4 : (u1 : Int) ≤ i := by omega
                  have q5 : (0 : Int) ≤ k := by omega
                  have q6 : (k : Int) < i := by omega
                  have q7 : (0 : Int) ≤ j := by omega
                  have q8 : (j : Int) < i := by omega
                  have q9 : (0 : Int) ≤ a1 := by omega
                  have q10 : (a1 : Int) < i := by omega
                  have q11 : (0 : Int) ≤ a2 := by omega
                  have q12 : (a2 : Int) < i := by omega
                  have r1 : IntKind.i64.wrap ((j : Int) - 1) = (k : Int) := by rw [show (j : Int) - 1 = k by omega]; exact IntWalk.i64_in _ (by omega)
                  have r2 : IntKind.i64.wrap ((y1 : Int) - 1) = (a1 : Int) := by rw [show (y1 : Int) - 1 = a1 by omega]; exact IntWalk.i64_in _ (by omega)
                  have r3 : IntKind.i64.wrap ((u1 : Int) - 1) = (a2 : Int) := by rw [show (u1 : Int) - 1 = a2 by omega]; exact IntWalk.i64_in _ (by omega)
                  clear hy1 hu1 e1 e2 hgl m1 m2 m3 m4 m5 m6 ah w1 w2 hx1 hx2 hz1 hz2 bw hbl hk hlt HCE ha1 ha2 hj1 hj nge
                  go_upto_region 34 with fail
                  go_region_held3 (fun W' => W'.cell? ⟨gg, k * 2, none⟩ = some (.int .i64 (y1 : Int)) ∧ W'.cell? ⟨gg, j * 2, none⟩ = some (.int .i64 (u1 : Int)) ∧ W'.cell? ⟨ab, off + a1, none⟩ = some (.int .i64 x1) ∧ W'.cell? ⟨ab, off + a2, none⟩ = some (.int .i64 x2)) (first | exact ⟨c1, c2, c3, c4⟩ | exact ⟨by assumption, by assumption, by assumption, by assumption⟩) (fail)
                  go_upto_region 37 with fail
                  go_region_held3 (fun W' => W'.cell? ⟨ab, off + a1, none⟩ = some (.int .i64 x1) ∧ W'.cell? ⟨ab, off + a2, none⟩ = some (.int .i64 x2)) (first | exact ⟨c3, c4⟩ | exact ⟨by assumption, by assumption⟩) (first
                    | (go_at_call 9; with_reducible refine (WC1 _).mono ?_; rintro e w2 ⟨rfl, rfl⟩)
                    | (go_at_call 9; with_reducible refine (WC2 _).mono ?_; rintro e w2 ⟨rfl, rfl⟩))
                  by_cases hz : z1 = z2
                  · have q13 := NGE.out hz
                    go_wp2_with fail
                    go_roundw
                    case rel => exact ⟨j + 1, by go_num, by omega, by have := HJ.out; omega, HBL.out.drew.drew⟩
                    case measure => have := HJ.out; simp [intOf]; omega
                  · go_wp2_with fail
                    go_roundw
                    case rel => exact ⟨j + 1, by go_num, by omega, by have := HJ.out; omega, HBL.out.drew.drew⟩
                    case measure => have := HJ.out; simp [intOf]; omega
                · obtain rfl : j = i := by omega
                  clear hbl hj hj1 hlt
                  go_wp2_with (go_at_call 7; refine (Dd.alive_7 _).mono ?_; rintro e w11 ⟨rfl, b11⟩; have HB11 := Lib.hid b11; clear b11)
                  go_ret
                  have q := HB10.out.trans (HBL.out.mono HB10.out.size)
                  exact ⟨rfl, q.trans (HB11.out.mono q.size)⟩
end Wk
end Go.Proofs.YtagmlijhgncklaaGreatDoor.Ker
namespace Go.Proofs.YtagmlijhgncklaaGreatDoor.Ker
namespace Wk
open Go.RowKit Go.Proofs.YtagmlijhgncklaaGreatDoor Go.Proofs.YtagmlijhgncklaaGreatDoor.Code

set_option maxHeartbeats 1000000 in
set_option maxRecDepth 100000 in
theorem woken_out (w : World) (a : Option Addr) (len cap : Nat) (h : len < 1 ∨ 7 < len) : Calls Tryz.prog 3 #[.slice a len cap] w fun e w' => e = .returned (.bool true) ∧ Below w.heap.size w w' := by
  go_enter Tryz.func3, Tryz.ntmps3
  go_upto_region 2 with fail
  all_goals first
    | (exfalso; omega)
    | (go_wp2_with (go_at_call 7; refine (Dd.alive_7 _).mono ?_; rintro e w9 ⟨rfl, b9⟩)
       go_ret
       exact ⟨rfl, by assumption⟩)
theorem woken_claim (w : World) (a : Option Addr) (len cap : Nat) (hs : IsRows w intSc a len) : Calls Tryz.prog 3 #[.slice a len cap] w fun e w' => e = .returned (.bool true) ∧ Below w.heap.size w w' := by
  by_cases h : len < 1 ∨ 7 < len
  · exact woken_out w a len cap h
  · obtain ⟨b, off, l, rfl, hl, hb, hc⟩ := int_cells hs (by omega)
    subst hl
    exact wok_walk w b off cap l (by omega) (by omega) hb hc
end Wk
end Go.Proofs.YtagmlijhgncklaaGreatDoor.Ker
