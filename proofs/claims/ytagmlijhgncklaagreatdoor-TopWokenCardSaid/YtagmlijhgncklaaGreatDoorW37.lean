/-
  Calls on a robust mutex for which nobody waits: lock, unlock, consistent, over the translation of this seat. Conditions: the blocks that are named hold what is said.
  The call that makes a robust mutex, over the translation of this seat. Conditions: the blocks that are named hold what is said; there is none yet.
  The kernel's graph, and settle, where there is one mutex that is no heir's, over the translation of this seat. Conditions: the blocks that are named hold what is said; nobody waits for it.
  The kernel's graph, and settle, where there is one mutex (no heir's, without a ceiling), over the translation of this seat. Conditions: the blocks that are named hold what is said; nobody waits for it. (Written by gengrm.py.)
-/
import Derived.Test.YtagmlijhgncklaaGreatDoorW36
import Derived.Test.YtagmlijhgncklaaGreatDoorW23
import Derived.BigQuiet
import Derived.Deep.RegionHeld3
import Derived.Test.YtagmlijhgncklaaGreatDoorW29
set_option linter.unusedVariables false
namespace Go.Proofs.YtagmlijhgncklaaGreatDoor.Ker
open Go.RowKit Go.Proofs.YtagmlijhgncklaaGreatDoor

theorem muFind_c (w : World) (S : KS) {B : KB} (hB : S.B = B) (h : KW w S) {b q g : Nat} {m : Mx.Mu} (H : HasMu S b q g m) :
    Calls Tryz.prog 113 #[.pointer (some ⟨B.mu, 0, none⟩), .int .i64 16] w fun e w' => e = .returned (.tuple #[.pointer (some ⟨b, 0, none⟩), .bool true]) ∧ Below w.heap.size w w' := by
  subst hB
  have cm : w.cell? ⟨S.B.mu, 0, none⟩ = some (.pointer (some ⟨S.B.mub, 0, none⟩)) := has_cell 0 (h.has 9 rfl) rfl
  have AT : Calls Tryz.prog 66 #[.pointer (some ⟨S.B.mub, 0, none⟩), .int .i64 16] w fun e w' => e = .returned (.tuple #[.int .i64 0, .bool true]) ∧ Below w.heap.size w w' := by
    have q := h.has 10 rfl
    rw [H.T] at q
    exact Tab.at_c w S.B.mub muT4 16 q (by decide) (by decide) (genOk_up mu4_ok)
  have HK := Lib.hid h
  have HL := Lib.hid H.l
  clear h H
  go_enter Tryz.func113, Tryz.ntmps113
  go_wp2_with (go_at_call 66; refine AT.mono ?_; rintro e w2 ⟨rfl, b2⟩; have c2 : w2.cell? ⟨S.B.mu, 1, none⟩ = some (.pointer (S.muL 0)) := has_cell 1 ((HK.out.reads b2).has 9 rfl) rfl; rw [HL.out] at c2; have HB := Lib.hid b2; clear b2 AT)
  go_ret2
  exact ⟨rfl, HB.out⟩
theorem went_ok (w : World) : Calls Tryz.prog 366 #[.int .i64 0] w fun e w' => e = .returned (.tuple #[]) ∧ w = w' := by
  go_enter Tryz.func366, Tryz.ntmps366
  go_wp2
  exact bodyPost_end (results_none rfl _ _ _) rfl ⟨rfl, rfl⟩
end Go.Proofs.YtagmlijhgncklaaGreatDoor.Ker
namespace Go.Proofs.YtagmlijhgncklaaGreatDoor.Mx
open Go.RowKit Go.Proofs.YtagmlijhgncklaaGreatDoor

theorem newW_c (w : World) : Calls Tryz.prog 493 #[] w fun e w' => e = .returned (.pointer (some ⟨w.heap.size + 1, 0, none⟩)) ∧ w' = (w.alloc (.map #[] 0)).alloc (.cells #[.map (some w.heap.size), .int .i64 0] 436) := by
  have hmm : ∀ w : World, (Instr.makeMap 434 none).run Tryz.prog w = .ok (.map (some w.heap.size)) (w.alloc (.map #[] 0)) := fun _ => rfl
  go_enter Tryz.func493, Tryz.ntmps493
  go_wp2
  go_ret
  exact ⟨rfl, rfl⟩
theorem new_c (w : World) : Calls Tryz.prog 359 #[.int .i64 0, .int .i64 0, .int .i64 0, .bool true] w fun e w' => e = .returned (.tuple #[.pointer (some ⟨w.heap.size + 1 + 1, 0, none⟩), .int .i64 0]) ∧ w' = ((w.alloc (.map #[] 0)).alloc (.cells #[.map (some w.heap.size), .int .i64 0] 436)).alloc (.cells #[.int .i64 0, .int .i64 0, .int .i64 0, .bool true, .int .i64 (-1), .int .i64 0, .int .i64 0, .pointer (some ⟨w.heap.size + 1, 0, none⟩)] 379) := by
  go_enter Tryz.func359, Tryz.ntmps359
  go_wp2_with (go_at_call 493; refine (newW_c _).mono ?_; rintro e w' ⟨rfl, rfl⟩)
  go_ret2
  simp
theorem small_c (w : World) (n : Int) (h0 : 0 ≤ n) (h1 : n ≤ 1000) : Calls Tryz.prog 360 #[.int .i64 n] w fun e w' => e = .returned (.int .i64 n) ∧ w = w' := by
  go_enter Tryz.func360, Tryz.ntmps360
  go_wp2
  go_ret
  exact ⟨rfl, rfl⟩
end Go.Proofs.YtagmlijhgncklaaGreatDoor.Mx
namespace Go.Proofs.YtagmlijhgncklaaGreatDoor.Ker
open Go.RowKit Go.Proofs.YtagmlijhgncklaaGreatDoor

/-- The kernel with a robust mutex. -/
def KS.mu3 (S : KS) (g : Nat) : KS := ((S.mark 4 g (.map #[] 0)).mark 3 (g + 1) (.cells #[.map (some g), .int .i64 0] 436 (0, 0))).mark 2 (g + 1 + 1) (Mx.muO ⟨-1, 0, 0⟩ (g + 1))
def KS.mued (S : KS) (g : Nat) : KS := { S.mu3 g with muT := muT4, muL := put S.muL 0 (some ⟨g + 1 + 1, 0, none⟩) }
theorem mark_at (S : KS) (k b : Nat) (o : Obj) : (S.mark k b o).ext k = some (b, o) := put_self S.ext k _
theorem mark_ne (S : KS) {i : Nat} (k b : Nat) (o : Obj) (h : i ≠ k) : (S.mark k b o).ext i = S.ext i := put_ne S.ext _ h
theorem HasMu.new (S : KS) (g : Nat) : HasMu (S.mued g) (g + 1 + 1) (g + 1) g ⟨-1, 0, 0⟩ := by
  obtain ⟨o4, h4⟩ : ∃ o : Obj, o = .map #[] 0 := ⟨_, rfl⟩
  obtain ⟨o3, h3⟩ : ∃ o : Obj, o = .cells #[.map (some g), .int .i64 0] 436 (0, 0) := ⟨_, rfl⟩
  obtain ⟨o2, h2⟩ : ∃ o : Obj, o = Mx.muO ⟨-1, 0, 0⟩ (g + 1) := ⟨_, rfl⟩
  have e : (S.mued g).ext = (((S.mark 4 g o4).mark 3 (g + 1) o3).mark 2 (g + 1 + 1) o2).ext := by rw [h4, h3, h2]; rfl
  have q2 := mark_at ((S.mark 4 g o4).mark 3 (g + 1) o3) 2 (g + 1 + 1) o2
  have q3 := (mark_ne ((S.mark 4 g o4).mark 3 (g + 1) o3) (i := 3) 2 (g + 1 + 1) o2 (by decide)).trans (mark_at (S.mark 4 g o4) 3 (g + 1) o3)
  have q4 := (mark_ne ((S.mark 4 g o4).mark 3 (g + 1) o3) (i := 4) 2 (g + 1 + 1) o2 (by decide)).trans ((mark_ne (S.mark 4 g o4) (i := 4) 3 (g + 1) o3 (by decide)).trans (mark_at S 4 g o4))
  rw [← e] at q2 q3 q4
  rw [h2] at q2
  rw [h3] at q3
  rw [h4] at q4
  exact ⟨q2, ⟨0, q3⟩, ⟨0, q4⟩, rfl, put_self S.muL 0 _⟩
theorem KW.mu3 {w w2 : World} {S : KS} (h : KW w S) (b : Below w.heap.size w w2) (x0 : w2.heap[w.heap.size]? = some (.map #[] 0)) (x1 : w2.heap[w.heap.size + 1]? = some (.cells #[.map (some w.heap.size), .int .i64 0] 436 (0, 0))) (x2 : w2.heap[w.heap.size + 1 + 1]? = some (Mx.muO ⟨-1, 0, 0⟩ (w.heap.size + 1))) :
    KW w2 (S.mu3 w.heap.size) ∧ Fr S (S.mu3 w.heap.size) w w2 := by
  have q1 := (h.reads b).mark (Fr.reads S b) 4 x0 (h.fresh _ (Nat.le_refl _)) (Nat.le_refl _)
  have q2 := q1.1.mark q1.2 3 x1 ((put_ne _ _ (by omega)).trans (h.fresh _ (by omega))) (by omega)
  exact q2.1.mark q2.2 2 x2 ((put_ne _ _ (by omega)).trans ((put_ne _ _ (by omega)).trans (h.fresh _ (by omega)))) (by omega)
end Go.Proofs.YtagmlijhgncklaaGreatDoor.Ker
namespace Go.Proofs.YtagmlijhgncklaaGreatDoor.Ker
open Go.RowKit Go.Proofs.YtagmlijhgncklaaGreatDoor

attribute [local go_sem] Oper.semAt_some
attribute [local go_sem] Tab.wide_fn Tab.wide_round_fn

def encM (_ : Unit) : Array Value := #[.int .i64 0, .int .i64 16]
theorem mu4_no (j : Nat) (h : 1 ≤ j) : Tab.tk muT4 j = false := by
  match j, h with
  | 1, _ => rfl
  | 2, _ => rfl
  | 3, _ => rfl
  | n + 4, _ => rfl
/-- The sequence of the mutexes: the one. -/
theorem one_stops (n : Nat) (hn : 1 ≤ n) (tb Bn : Nat) (w : World) (h : w.heap[tb]? = some (Tab.tabO muT4)) (hB : w.heap[Bn]? = some (.cells #[.pointer (some ⟨tb, 0, none⟩)] 70 (0, 0))) :
    SeqStopsK Fence.wide n Tryz.prog 178 #[.pointer (some ⟨Bn, 0, none⟩)] encM (Tab.Keep2 tb Bn) (fun xs => xs = [()]) (fun pre => pre = [()]) 1 w := by
  intro l J Jx W hW hJ hJx hY h0
  have hT := below_has hW h
  have hb := below_has hW hB
  refine callsIn_of_wp Tryz.func178 rfl trivial ?_ rfl
  simp only [Tryz.ntmps178, List.size_toArray, List.length_cons, List.length_nil, Nat.reduceAdd, Nat.reduceSub, Array.replicate_succ, Array.replicate_zero, List.push_toArray, List.append_toArray, List.nil_append, List.cons_append]
  have cb : W.cell? ⟨Bn, 0, none⟩ = some (.pointer (some ⟨tb, 0, none⟩)) := has_cell 0 hb rfl
  have PL := Tab.places_c W tb muT4 hT (by decide) (by decide)
  have PL : Calls Tryz.prog 179 #[.pointer (some ⟨tb, 0, none⟩)] W fun e w' => e = .returned (.int .i64 4) ∧ W = w' := PL
  gi_wp2_with (gi_at_call 179; refine (callsIn_wide.2 PL).mono ?_; rintro e w' ⟨rfl, rfl⟩)
  gi_loopw [8] (fun i wr => ∃ j : Nat, i = .int .i64 j ∧ j ≤ 4 ∧ J (if j = 0 then [] else [()]) wr ∧ wr.heap[tb]? = some (Tab.tabO muT4) ∧ wr.heap[Bn]? = some (.cells #[.pointer (some ⟨tb, 0, none⟩)] 70 (0, 0))) (fun i _ => 4 - (intOf i).toNat)
  case atStart => exact ⟨0, rfl, by omega, by rw [if_pos rfl]; exact h0, hT, hb⟩
  case round =>
    obtain ⟨j, rfl, hj, hJj, hTj, hbj⟩ := hrel
    have cbj : wr.cell? ⟨Bn, 0, none⟩ = some (.pointer (some ⟨tb, 0, none⟩)) := has_cell 0 hbj rfl
    clear hT hb cb PL
    by_cases hlt : j < 4
    · by_cases hz : j = 0
      · subst hz
        rw [if_pos rfl] at hJj
        have OF : Calls Tryz.prog 108 #[.pointer (some ⟨tb, 0, none⟩), .int .i64 (0 : Nat)] wr fun e w' => e = .returned (.tuple #[.int .i64 16, .bool true]) ∧ wr = w' := Tab.of_c wr tb muT4 ((0 : Nat) : Int) hTj (by decide) (by decide) (genOk_up mu4_ok) (show Tab.ofF muT4 ((0 : Nat) : Int) = (16, true) from rfl)
        obtain ⟨fn, tmps, assign, body, hy, hR⟩ := hY [] () wr hJj (by decide)
        dsimp only [encM] at hy
        gi_wp2_with (gi_at_call 108; refine (callsIn_wide.2 OF).mono ?_; rintro e w' ⟨rfl, rfl⟩)
        refine hR.mono ?_
        rintro e W3 (⟨rfl, hJ3, hk3⟩ | ⟨rfl, hJx3⟩)
        · have hT3 := hk3.1.trans hTj
          have hb3 := hk3.2.trans hbj
          gi_wp2
          go_roundw
          case rel => exact ⟨1, rfl, by omega, by rw [if_neg (by decide)]; exact hJ3, hT3, hb3⟩
          case measure => simp [intOf]
        · gi_wp2
          refine bodyPost_ret (results_none rfl _ _ _) rfl ?_
          exact ⟨⟨_, rfl⟩, .inr ⟨[()], rfl, hJx3⟩⟩
      · have hof : Tab.ofF muT4 (j : Int) = (0, false) := by simp [Tab.ofF, mu4_no j (by omega)]
        have OF := Tab.of_c wr tb muT4 (j : Int) hTj (by decide) (by decide) (genOk_up mu4_ok) hof
        rw [if_neg hz] at hJj
        have HZ := Lib.hid hz
        clear hof hz
        gi_wp2_with (gi_at_call 108; refine (callsIn_wide.2 OF).mono ?_; rintro e w' ⟨rfl, rfl⟩)
        go_roundw
        case rel => exact ⟨j + 1, by go_num, by omega, by rw [if_neg (by omega)]; exact hJj, hTj, hbj⟩
        case measure => simp [intOf]; omega
    · obtain rfl : j = 4 := by omega
      gi_wp2
      go_end0
      exact ⟨⟨_, rfl⟩, .inl ⟨[()], rfl, hJj⟩⟩
end Go.Proofs.YtagmlijhgncklaaGreatDoor.Ker
namespace Go.Proofs.YtagmlijhgncklaaGreatDoor.Ker
open Go.RowKit Go.Proofs.YtagmlijhgncklaaGreatDoor

attribute [local go_sem] Oper.semAt_some
attribute [local go_sem] Tab.wide_fn Tab.wide_round_fn

theorem keeps_below {w w' : World} (b : Below w.heap.size w w') : KeepsOthers w w' := ⟨b.size, fun k o hk _ => (b.block k (has_lt hk)).trans hk⟩
theorem GrE.reads {w W W' : World} {S : KS} {g cb : Nat} {G : Inh.Gs} (h : GrE w W S g cb G) (k : Below W.heap.size W W') : GrE w W' S g cb G :=
  ⟨h.below.trans (k.mono h.below.size), below_has k h.box, below_has k h.g, below_has k h.cs⟩
set_option maxRecDepth 100000 in
set_option maxHeartbeats 1000000 in
theorem graphM_c (w : World) (S : KS) {B : KB} (hB : S.B = B) (h : KW w S) (P : KP S) (f : Nat → Int) (hf : PrioOk S f) (hr : ∀ p t, p < 16 → S.th p = some t → t.en = false → 0 ≤ f p ∧ f p ≤ 31) (hk : ∀ p t, S.th p = some t → t.wt.kind ≠ 2) {mb mq mg : Nat} {mx : Mx.Mu} (HM0 : HasMu S mb mq mg mx) :
    Calls Tryz.prog 69 #[.pointer (some ⟨B.kb, 0, none⟩)] w fun e w' => ∃ g, e = .returned (.pointer (some ⟨g, 0, none⟩)) ∧ GrW w w' S f g 16 := by
  subst hB
  have HK := Lib.hid h
  have hbx := below_alloc_has (o := .cells #[.pointer (some ⟨S.B.kb, 0, none⟩)] 36) (h.has 0 rfl)
  have n1 := P.n1
  have n16 := P.n16
  refine Tab.calls_of_marks 4 Tryz.func69 rfl ?_
  simp only [Tryz.ntmps69, List.size_toArray, List.length_cons, List.length_nil, Nat.reduceAdd, Nat.reduceSub, Array.replicate_succ, Array.replicate_zero, List.push_toArray, List.append_toArray, List.nil_append, List.cons_append]
  have k0 := h.reads ((Below.refl w.heap.size w).alloc (Nat.le_refl _) (.cells #[.pointer (some ⟨S.B.kb, 0, none⟩)] 36))
  have cj := kc0 (B := S.B) k0 rfl
  rw [P.n] at cj
  have c00 : (w.alloc (.cells #[.pointer (some ⟨S.B.kb, 0, none⟩)] 36)).cell? ⟨w.heap.size, 0, none⟩ = some (.pointer (some ⟨S.B.kb, 0, none⟩)) := has_cell 0 (heap_alloc_new w _) rfl
  have HP := Lib.hid P
  clear h P hbx
  refine wpIn_wide.2 ?_
  go_wp2_with (first
    | (go_at_call 111; refine (Inh.new_c _ S.B.n n1 n16).mono ?_; rintro e w1 ⟨rfl, x1, b1, z1⟩; have k1 := k0.reads b1; have bx := below_has b1 (heap_alloc_new w (.cells #[.pointer (some ⟨S.B.kb, 0, none⟩)] 36)); have c0 : w1.cell? ⟨w.heap.size, 0, none⟩ = some (.pointer (some ⟨S.B.kb, 0, none⟩)) := has_cell 0 bx rfl; have hr72 := k1.tpr; have HB1 := Lib.hid (((Below.refl w.heap.size w).alloc (Nat.le_refl _) (.cells #[.pointer (some ⟨S.B.kb, 0, none⟩)] 36)).trans (b1.mono (by simp))); clear b1 cj k0)
    | (refine wpList_load_mid rfl 72 (.tmp 27) rfl S.B.kb 10 rfl S.tps _ hr72 Tryz.underlying72 rfl (by kernel_rfl) ?_))
  rw [World.size_alloc] at x1
  clear hr72 c0 c00
  have H1 : GrW w w1 S f (w.heap.size + 1) 0 := ⟨HB1.out, bx, Inh.newG S.B.n, x1, Inh.newG_ok n1 n16, rfl, fun p t hp => absurd hp (Nat.not_lt_zero _), rfl, rfl⟩
  clear x1 z1 k1 bx HB1
  have hsz : w.heap.size + 1 < w1.heap.size := by obtain ⟨G, hG, _⟩ := H1.g; exact has_lt hG
  go_loopw [29] (fun i wr => ∃ j : Nat, i = .int .i64 j ∧ j ≤ 16 ∧ GrW w wr S f (w.heap.size + 1) j) (fun i _ => 16 - (intOf i).toNat)
  case atStart => exact ⟨0, rfl, by omega, H1⟩
  case round =>
    clear H1
    obtain ⟨j, rfl, hj, GW⟩ := hrel
    by_cases hlt : j < 16
    · have hix := run_index_72 S.tps j _ rfl hlt (S.tps_get hlt) wr
      have htp := HP.out.tp j hlt
      cases hth : S.th j with
      | none =>
        rw [hth, Option.map_none] at htp
        rw [htp] at hix
        have HG := Lib.hid GW
        have HTH := Lib.hid hth
        clear htp hth GW
        go_wp2_with fail
        go_roundw
        case rel => exact ⟨j + 1, by go_num, by omega, HG.out.below, HG.out.box, by
          obtain ⟨G, g1, g2, g3, g4, g5⟩ := HG.out.g
          exact ⟨G, g1, g2, g3, fun p t hp hp16 ht he => by
            by_cases e : p = j
            · subst e; rw [HTH.out] at ht; cases ht
            · exact g4 p t (by omega) hp16 ht he, g5⟩⟩
        case measure => simp [intOf]; omega
      | some t =>
        rw [hth, Option.map_some] at htp
        rw [htp] at hix
        have hT : wr.heap[t.b]? = some (thO j t) := (HK.out.reads GW.below).getTh hlt hth
        have c20 := tc20 hT
        cases hen : t.en with
        | true =>
          rw [hen] at c20
          have HG := Lib.hid GW
          have HTH := Lib.hid hth
          have HEN := Lib.hid hen
          clear htp hth GW hen hT
          go_wp2_with fail
          go_roundw
          case rel => exact ⟨j + 1, by go_num, by omega, HG.out.below, HG.out.box, by
            obtain ⟨G, g1, g2, g3, g4, g5⟩ := HG.out.g
            exact ⟨G, g1, g2, g3, fun p x hp hp16 hx he => by
              by_cases e : p = j
              · subst e; rw [HTH.out] at hx; cases hx; rw [HEN.out] at he; cases he
              · exact g4 p x (by omega) hp16 hx he, g5⟩⟩
          case measure => simp [intOf]; omega
        | false =>
          rw [hen] at c20
          obtain ⟨G, g1, g2, g3, g4, g5, g6⟩ := GW.g
          have A := hf wr j t (HK.out.reads GW.below) hlt hth hen
          have jn := HP.out.thn j t hth
          have hfr := hr j t hlt hth hen
          have Bc := Inh.base_c wr (w.heap.size + 1) G j (f j) g1 g2 (by rw [g3]; exact jn) hfr
          have d : (t.wt.kind == 2) = false := by simpa using hk j t hth
          have j0 : (0 : Int) ≤ j := by omega
          have j1 : (j : Int) < 16 := by omega
          have HG := Lib.hid GW
          have HTH := Lib.hid hth
          have HJN := Lib.hid jn
          have HFR := Lib.hid hfr
          have HG2 := Lib.hid g2
          have HG3 := Lib.hid g3
          have HG4 := Lib.hid g4
          have HG5 := Lib.hid g5
          have HG6 := Lib.hid g6
          clear htp hth GW hen hT jn hfr g1 g2 g3 g4 g5 g6
          go_wp2_with (first
            | (go_at_call 49; refine A.mono ?_; rintro e w' ⟨rfl, rfl⟩)
            | (go_at_call 112; refine Bc.mono ?_; rintro e w2 ⟨rfl, u2⟩; have B2 := HG.out.below.trans (u2.below (B := w.heap.size) (by omega) HG.out.below.size); have c23 := tc23 ((HK.out.reads B2).getTh hlt HTH.out); have HU := Lib.hid u2; have HB2 := Lib.hid B2; clear u2 B2))
          go_roundw
          case rel =>
            refine ⟨j + 1, by go_num, by omega, HB2.out, HU.out.other HG.out.box (by omega), { G with ba := Inh.upd G.ba j (f j) }, HU.out.1, ?_, HG3.out, fun p x hp hp16 hx he => ?_, HG5.out, HG6.out⟩
            · have k := HG2.out
              exact ⟨k.n1, k.n2, fun i hi => by
                show 0 ≤ (if i = j then f j else G.ba i) ∧ (if i = j then f j else G.ba i) ≤ 31
                split
                · exact HFR.out
                · exact k.ba i hi, k.ce, k.wt, fun i h1 h2 => by
                have q := k.out i h1 h2
                have hij : i ≠ j := by
                  have h1' : G.n ≤ i := h1
                  rw [HG3.out] at h1'
                  have := HJN.out
                  omega
                exact ⟨by show (if i = j then f j else G.ba i) = 0; rw [if_neg hij]; exact q.1, q.2⟩⟩
            · show (if p = j then f j else G.ba p) = f p
              by_cases e : p = j
              · rw [if_pos e, e]
              · rw [if_neg e]
                exact HG4.out p x (by omega) hp16 hx he
          case measure => simp [intOf]; omega
    · obtain rfl : j = 16 := by omega
      obtain ⟨G, g1, g2, g3, g4, g5, g6⟩ := GW.g
      have hbx := GW.box
      have B1 := GW.below
      have szr : w.heap.size + 1 < wr.heap.size := has_lt g1
      go_upto_region 13 with fail
      refine world_wp (fun W => GrE w W S (w.heap.size + 1) wr.heap.size G ∧ wr.heap.size < W.heap.size) ⟨⟨B1.alloc B1.size _, below_alloc_has hbx, below_alloc_has g1, heap_alloc_new wr _⟩, by simp⟩ ?_
      rintro wa ⟨GE, sza⟩
      obtain ⟨cb, hcb⟩ : ∃ cb, cb = wr.heap.size := ⟨_, rfl⟩
      rw [← hcb] at GE sza szr ⊢
      clear hcb
      have ka := HK.out.reads GE.below
      have ca : wa.cell? ⟨w.heap.size, 0, none⟩ = some (.pointer (some ⟨S.B.kb, 0, none⟩)) := has_cell 0 GE.box rfl
      have c63 := kc63 (B := S.B) ka rfl
      have cmt : wa.cell? ⟨S.B.mu, 0, none⟩ = some (.pointer (some ⟨S.B.mub, 0, none⟩)) := has_cell 0 (ka.has 9 rfl) rfl
      have HE := Lib.hid GE
      have HG2 := Lib.hid g2
      have HG3 := Lib.hid g3
      have HG4 := Lib.hid g4
      have HG5 := Lib.hid g5
      have HG6 := Lib.hid g6
      have HM1 := Lib.hid HM0
      clear GE GW g1 g2 g3 g4 g5 g6 hbx B1 hr hk hf hlt hj HM0
      go_wp2_with (go_at_call 109; refine (Tab.all_c _ _).mono ?_; rintro e w6 ⟨rfl, x6, b6⟩; have k6 := ka.reads b6; have G6 : GrE w w6 S (w.heap.size + 1) cb G := ⟨HE.out.below.trans (b6.mono HE.out.below.size), below_has b6 HE.out.box, below_has b6 HE.out.g, below_has b6 HE.out.cs⟩; clear ka ca c63 cmt b6)
      have sz6 : wa.heap.size < w6.heap.size := has_lt x6
      refine (wpIn_wide (n := 4)).1 ?_
      refine named ?_
      intro fa hfa
      refine wpIn_rangeFunc_ownF rfl (by decide) (gf := 178) (lb := #[.pointer (some ⟨wa.heap.size, 0, none⟩)]) (by rw [hfa]; rfl) trivial Tab.enters178
        (one_stops 3 (by decide) S.B.mub wa.heap.size w6 (by have q := k6.has 10 rfl; rw [HM1.out.T] at q; exact q) x6) Tab.keep2_t (Tab.keep2_b (has_lt (k6.has 10 rfl)) (by omega)) (Below.refl _ _) (fun _ => rfl)
        (fun (_ : List Unit) W => GrE w W S (w.heap.size + 1) cb G ∧ wa.heap.size < W.heap.size) (fun _ _ _ => False)
        (fun _ X Y row hs hg hr => ⟨⟨ownFrom_below (β := Unit) (n₀ := w.heap.size) (B := w6.heap.size) (w₀ := w) (Nat.le_refl _) (by omega) () X Y row hs.1.below hg hr, Tab.own_has (β := Unit) (B := w6.heap.size) (by omega) (fun _ => _) () X Y row hs.1.box hg hr, Tab.own_has (β := Unit) (B := w6.heap.size) (by omega) (fun _ => _) () X Y row hs.1.g hg hr, Tab.own_has (β := Unit) (B := w6.heap.size) (by omega) (fun _ => _) () X Y row hs.1.cs hg hr⟩, by have q := hs.2; have r := hg.size; omega⟩) (fun _ => Tab.own_pure _) ⟨G6, sz6⟩
        (fun x => { tmps := ((fa.tmps.setIfInBounds 83 (.int .i64 0)).setIfInBounds 84 (.int .i64 16)).setIfInBounds 11 (.int .i64 16), defers := [] })
        ?assign ?body ?done ?stop
      case assign =>
        intro l x W K hK
        subst hfa
        simp only [encM, Tab.zip2, Tab.fold2, List.setIfInBounds_toArray, List.set_cons_succ, List.set_cons_zero] at hK ⊢
        gi_wp2
        exact hK
      case body =>
        intro l pre x W hS hlen
        subst hfa
        have hSz := hS.2
        have hS := hS.1
        have kW := HK.out.reads hS.below
        have cW : W.cell? ⟨w.heap.size, 0, none⟩ = some (.pointer (some ⟨S.B.kb, 0, none⟩)) := has_cell 0 hS.box rfl
        have c63 := kc63 (B := S.B) kW rfl
        have FM := muFind_c W S rfl kW HM1.out
        have HS := Lib.hid hS
        have HKW := Lib.hid kW
        clear hS kW
        simp only [List.setIfInBounds_toArray, List.set_cons_succ, List.set_cons_zero]
        gi_wp2_with (first
          | (gi_at_call 113; refine (CallsIn.inRound l (callsIn_wide.2 FM)).mono ?_; rintro e W2 ⟨rfl, b2⟩; have m2 := HM1.out.w (HKW.out.reads b2); have HB2 := Lib.hid b2; have HM2 := Lib.hid m2; clear b2 m2 FM)
          | (gi_at_call 116; refine (CallsIn.inRound l (callsIn_wide.2 (Mx.at_c _ mb mq mx HM2.out.hb))).mono ?_; rintro e W3 ⟨rfl, b3⟩; have HB3 := Lib.hid (HB2.out.trans (b3.mono HB2.out.size)); have m3 := HM1.out.w (HKW.out.reads HB3.out); have HM3 := Lib.hid m3; clear b3 m3)
          | (gi_at_call 114; refine (CallsIn.inRound l (callsIn_wide.2 (Mx.protocol_c _ mb mq mx (below_alloc_has HM3.out.hb)))).mono ?_; rintro e w' ⟨rfl, rfl⟩))
        have BF := HB3.out.alloc HB3.out.size (.cells #[.int .i64 mx.own, .int .i64 mx.cnt, .int .i64 mx.st, .int .i64 0] 296)
        exact ⟨keeps_below BF, ⟨BF.block _ (has_lt (HKW.out.has 10 rfl)), BF.block _ hSz⟩, HS.out.reads BF, by have := BF.size; omega⟩
      case stop =>
        rintro D c pre W _ _ h _
        exact h.elim
      case done =>
        rintro D ys W hD rfl hS hK
        subst hfa
        have hS := hS.1
        have kW := HK.out.reads hS.below
        have cW : W.cell? ⟨w.heap.size, 0, none⟩ = some (.pointer (some ⟨S.B.kb, 0, none⟩)) := has_cell 0 hS.box rfl
        have cj := kc0 (B := S.B) kW rfl
        rw [HP.out.n] at cj
        have HS := Lib.hid hS
        have HM := Lib.hid hK
        clear hS hK kW
        go_wp2_with fail
        clear cW cj
        go_loopw [119] (fun i wl => ∃ j : Nat, i = .int .i64 j ∧ j ≤ S.B.n ∧ GrE w wl S (w.heap.size + 1) cb G ∧ wl.heap[D]? = some (.deferred (some []))) (fun i _ => S.B.n - (intOf i).toNat)
        case atStart => exact ⟨0, rfl, by omega, HS.out, HM.out⟩
        case round =>
          obtain ⟨j, rfl, hj, E1, M1⟩ := hrel
          by_cases hlt : j < S.B.n
          · have cc : wr.cell? ⟨cb, j, none⟩ = some (.int .i64 0) := has_cell j E1.cs (by rw [List.getElem?_toArray, List.getElem?_replicate, if_pos (by omega)])
            have A := Inh.ceil_c wr (w.heap.size + 1) G j 0 E1.g HG2.out (by rw [HG3.out]; exact hlt) ⟨by omega, by omega⟩
            rw [show ({ G with ce := Inh.upd G.ce j 0 } : Inh.Gs) = G by
              have e : Inh.upd G.ce j 0 = G.ce := by
                rw [HG6.out]
                funext k
                unfold Inh.upd
                split <;> rfl
              rw [e]] at A
            have j0 : (0 : Int) ≤ j := by omega
            have j1 : (j : Int) < 16 := by omega
            have HE1 := Lib.hid E1
            have HM1 := Lib.hid M1
            clear E1 M1
            go_wp2_with (go_at_call 117; refine A.mono ?_; rintro e w2 ⟨rfl, u2⟩; have HU := Lib.hid u2; clear u2)
            go_roundw
            case rel => exact ⟨j + 1, by go_num, by omega, ⟨HE1.out.below.trans (HU.out.below (B := w.heap.size) (by omega) HE1.out.below.size), HU.out.other HE1.out.box (by omega), HU.out.1, HU.out.other HE1.out.cs (by omega)⟩, HU.out.other HM1.out (by omega)⟩
            case measure => simp [intOf]; omega
          · obtain rfl : j = S.B.n := by omega
            have HE1 := Lib.hid E1
            have HM1 := Lib.hid M1
            clear E1 M1
            go_wp2_with fail
            refine ⟨by simp, .inl ⟨_, _, rfl, run_takeDeferred HM1.out, ?_⟩⟩
            refine ⟨_, results_tmp rfl _ _ _, w.heap.size + 1, rfl, ?_⟩
            have Bm := Tab.below_mark HE1.out.below (by omega) HM1.out (.deferred none)
            exact ⟨Bm, (World.putObj_heap_other (by omega)).trans HE1.out.box, G, (World.putObj_heap_other (by omega)).trans HE1.out.g, HG2.out, HG3.out, HG4.out, HG5.out, HG6.out⟩
set_option maxRecDepth 100000 in
set_option maxHeartbeats 1000000 in
theorem settleM_c (w : World) (S : KS) {B : KB} (hB : S.B = B) (h : KW w S) (P : KP S) (f : Nat → Int) (hf : PrioOk S f) (hr : ∀ p t, p < 16 → S.th p = some t → t.en = false → 0 ≤ f p ∧ f p ≤ 31) (hk : ∀ p t, S.th p = some t → t.wt.kind ≠ 2) {mb mq mg : Nat} {mx : Mx.Mu} (HM0 : HasMu S mb mq mg mx) (he : ∀ p t, p < 16 → S.th p = some t → t.en = false → f p = t.eff) :
    Calls Tryz.prog 42 #[.pointer (some ⟨B.kb, 0, none⟩)] w fun e w' => e = .returned (.tuple #[]) ∧ Below w.heap.size w w' := by
  subst hB
  have A := graphM_c w S rfl h P f hf hr hk HM0
  have HK := Lib.hid h
  have HP := Lib.hid P
  clear h P hf hr hk HM0
  go_enter Tryz.func42, Tryz.ntmps42
  go_wp2_with fail
  go_step3
  go_wp2_with fail
  go_step3
  go_wp2_with fail
  refine wp_loop_rounds 1 ?_
  rw [rounds_succ]
  go_wp2_with (first | (go_at_call 69; refine A.mono ?_; rintro e w2 ⟨g, rfl, GW⟩; have hr72 := (HK.out.reads GW.below).tpr; have HG := Lib.hid GW; clear GW) | (refine wpList_load_mid rfl 72 (.tmp 12) rfl S.B.kb 10 rfl S.tps _ hr72 Tryz.underlying72 rfl (by kernel_rfl) ?_))
  clear hr72 A
  go_loopw [3, 14] (fun c i wr => ∃ j : Nat, c = .bool false ∧ i = .int .i64 j ∧ j ≤ 16 ∧ GrW w wr S f g 16) (fun _ i _ => 16 - (intOf i).toNat)
  case atStart => exact ⟨0, rfl, rfl, by omega, HG.out⟩
  case round =>
    clear HG
    obtain ⟨j, rfl, rfl, hj, GW⟩ := hrel
    by_cases hlt : j < 16
    · have hix := run_index_72 S.tps j _ rfl hlt (S.tps_get hlt) wr
      have htp := HP.out.tp j hlt
      have HG := Lib.hid GW
      cases hth : S.th j with
      | none =>
        rw [hth, Option.map_none] at htp
        rw [htp] at hix
        clear htp hth GW he
        go_wp2_with fail
        go_roundw
        case rel => exact ⟨j + 1, rfl, by go_num, by omega, HG.out⟩
        case measure => simp [intOf]; omega
      | some t =>
        rw [hth, Option.map_some] at htp
        rw [htp] at hix
        have hT : wr.heap[t.b]? = some (thO j t) := (HK.out.reads GW.below).getTh hlt hth
        have c20 := tc20 hT
        cases hen : t.en with
        | true =>
          rw [hen] at c20
          clear htp hth GW hen hT he
          go_wp2_with fail
          go_roundw
          case rel => exact ⟨j + 1, rfl, by go_num, by omega, HG.out⟩
          case measure => simp [intOf]; omega
        | false =>
          rw [hen] at c20
          obtain ⟨G, g1, g2, g3, g4, g5, g6⟩ := GW.g
          have jn := HP.out.thn j t hth
          have O := Inh.of_c wr g G j g1 g2 (by rw [g3]; exact jn)
          have hown : ∀ out, Inh.Least G.n G.own G.wt out → out j = t.eff := fun out hl => by
            rw [g5] at hl
            rw [least_alone hl j (by rw [g3]; exact jn)]
            show max (G.ba j) (G.ce j) = t.eff
            have q := (g2.ba j hlt).1
            rw [g6, g4 j t hlt hlt hth hen] at *
            rw [he j t hlt hth hen] at *
            exact Int.max_eq_left q
          have HO := Lib.hid hown
          have HTH := Lib.hid hth
          have j0 : (0 : Int) ≤ j := by omega
          have j1 : (j : Int) < 16 := by omega
          clear htp hth GW hen hT he g1 g2 g3 g4 g5 g6 jn hown
          go_wp2_with (go_at_call 70; refine O.mono ?_; rintro e w3 ⟨out, rfl, hl, b3⟩; have ho := HO.out out hl; rw [ho]; have c17 := tc17 ((HK.out.reads (HG.out.below.trans (b3.mono HG.out.below.size))).getTh hlt HTH.out); have HB3 := Lib.hid b3; clear hl ho b3)
          go_roundw
          case rel => exact ⟨j + 1, rfl, by go_num, by omega, HG.out.reads HB3.out⟩
          case measure => simp [intOf]; omega
    · obtain rfl : j = 16 := by omega
      have HG := Lib.hid GW
      clear GW he
      go_wp2_with fail
      rw [Exit.noGoto_normal]
      exact bodyPost_end (results_none rfl _ _ _) rfl ⟨rfl, HG.out.below⟩
end Go.Proofs.YtagmlijhgncklaaGreatDoor.Ker
