/-
  A thread that waits for nothing goes to another priority (change), over the translation of this seat. Conditions: the blocks that are named hold what is said.
  The kernel settles where one thread's priority has turned (settle), over the translation of this seat. Conditions: the blocks that are named hold what is said; nobody waits for a mutex, there is none.
  A handle's thread that lives (other), a thread's priority out of the graph (found), a thread goes to its priority's tail (put), over the translation of this seat. Conditions: the blocks that are named hold what is said.
  A server is made and given to the kernel, over the translation of this seat. Conditions: the blocks that are named hold what is said.
  A call that makes a thread sporadic, over the translation of this seat. Conditions: the blocks that are named hold what is said.
  The kernel's Do of an event, where settle may turn a priority, over the translation of this seat. Conditions: the blocks that are named hold what is said; what the event does, and what settle does, is known.
  A kernel with one sporadic thread: what is so of it between events, what settle does, Do of its events. Conditions: those said.
  How a kernel with one sporadic thread stands behind a tick, and behind the call that makes a thread sporadic. Conditions: those said.
  How a kernel stands behind the call that makes a thread sporadic; the clock besides. Conditions: those said.
-/
import Derived.Test.YtagmlijhgncklaaGreatDoorP37
import Derived.BigRegion
import Derived.Test.YtagmlijhgncklaaGreatDoorP29
import Derived.Test.YtagmlijhgncklaaGreatDoorP35
set_option linter.unusedVariables false
namespace Go.Proofs.YtagmlijhgncklaaGreatDoor.Ker
open Go.RowKit Go.Proofs.YtagmlijhgncklaaGreatDoor Go.Proofs.YtagmlijhgncklaaGreatDoor.Code Go.Proofs.YtagmlijhgncklaaGreatDoor.Spo

/-- A thread goes to the head of another priority. -/
def KS.lifted (S : KS) (p pr : Nat) : KS := { S with L := S.L.set p { S.L.getD p Hs.no with pr := pr }, R := (S.R.remF p).headF pr p, st := S.st + 6 }
structure CanLift (S : KS) (p pr p0 : Nat) : Prop where
  isIn : (S.L.getD p Hs.no).isIn = true
  a1 : 1 ≤ pr
  a2 : pr < 32
  b1 : 1 ≤ p0
  b2 : p0 < 32
  ne : pr ≠ p0
  l : (S.L.getD p Hs.no).pr = p0
  z : S.R.pr.getD p 0 = p0
  v : Lk (S.R.pv.getD p 0)
  n : Lk (S.R.nx.getD p 0)
  h : Lk ((S.R.remF p).hd.getD pr 0)
  s0 : 0 ≤ S.st
  s1 : S.st ≤ 700000000
set_option maxRecDepth 100000 in
set_option maxHeartbeats 1000000 in
theorem change_none (w : World) (S : KS) {B : KB} (hB : S.B = B) (h : KW w S) (P : KP S) (p pr p0 : Nat) (t : Th) (hp : p < 16) (ht : S.th p = some t) (hk : t.wt.kind = 0) (he : t.eff = pr) (C : CanLift S p pr p0) :
    Calls Tryz.prog 71 #[.pointer (some ⟨B.kb, 0, none⟩), .pointer (some ⟨t.b, 0, none⟩)] w fun e w' => e = .returned (.tuple #[]) ∧ KW w' (S.lifted p pr) ∧ Fr S (S.lifted p pr) w w' := by
  subst hB
  have hT := h.getTh hp ht
  have c0 := tc0 hT
  have c23 := tc23 hT
  have c24 := tc24 hT
  have c25 := tc25 hT
  have c26 := tc26 hT
  have c27 := tc27 hT
  have c28 := tc28 hT
  have c29 := tc29 hT
  have c30 := tc30 hT
  have c31 := tc31 hT
  rw [hk] at c23
  have hTa := below_alloc_has (o := (.cells #[.int .i64 0, .int .i64 0, .int .i64 0, .int .i64 0, .int .u32 0, .int .i64 0, .bool false, .bool false, .int .i64 0] 137)) hT
  have a0 := tc0 hTa
  have a23 := tc23 hTa
  have a24 := tc24 hTa
  have a25 := tc25 hTa
  have a26 := tc26 hTa
  have a27 := tc27 hTa
  have a28 := tc28 hTa
  have a29 := tc29 hTa
  have a30 := tc30 hTa
  have a31 := tc31 hTa
  rw [hk] at a23
  clear hTa
  have HK := Lib.hid h
  have HT := Lib.hid hT
  have HE := Lib.hid he
  clear h hT he
  go_enter Tryz.func71, Tryz.ntmps71
  go_wp2_with fail
  go_region
  go_upto_region 1 with fail
  refine world_wp (fun W => Below w.heap.size w W ∧ W.cell? ⟨w.heap.size, 0, none⟩ = some (.int .i64 0)) ⟨((Below.refl w.heap.size w).alloc (Nat.le_refl _) _).drew, has_cell (w := w.alloc (.cells #[.int .i64 0, .int .i64 t.wt.on, .int .i64 t.wt.call, .int .i64 t.wt.mx, .int .u32 t.wt.set, .int .i64 t.wt.owed, .bool t.wt.unw, .bool t.wt.timed, .int .i64 t.wt.clk] 137)) 0 (heap_alloc_new w (.cells #[.int .i64 0, .int .i64 t.wt.on, .int .i64 t.wt.call, .int .i64 t.wt.mx, .int .u32 t.wt.set, .int .i64 t.wt.owed, .bool t.wt.unw, .bool t.wt.timed, .int .i64 t.wt.clk] 137)) rfl⟩ ?_
  clear c0 c23 c24 c25 c26 c27 c28 c29 c30 c31 a0 a23 a24 a25 a26 a27 a28 a29 a30 a31
  rintro W ⟨b, cx⟩
  have kW := HK.out.reads b
  have c26 := kc26 kW rfl
  have c17 := tc17 (below_has b HT.out)
  rw [HE.out] at c17
  have A := turns_lift W.drew S.B.tb S.B.rb S.B.J.q S.L S.R S.st p pr p0 ((kW.tn P.L P.R).heap (fun _ _ => rfl)) hp C.isIn C.a1 C.a2 C.b1 C.b2 C.ne C.l C.z C.v C.n C.h C.s0 C.s1
  have HKW := Lib.hid kW
  have HB := Lib.hid b
  clear kW b
  go_wp2_with fail
  refine still_tail 9 (by kernel_rfl) (by kernel_rfl) ?_
  simp only [List.take_succ_cons, List.take_zero, List.drop_succ_cons, List.drop_zero]
  repeat still_step
  refine wpStill_nil ?_
  go_wp2_with (go_at_call 121; refine A.mono ?_; rintro e w2 ⟨rfl, T2, U2⟩; have HT2 := Lib.hid T2; have HU2 := Lib.hid U2; clear T2 U2 A)
  have q := HKW.out.turns HT2.out ⟨HU2.out.os, HU2.out.tape, HU2.out.output, HU2.out.size, HU2.out.block⟩
  exact bodyPost_end (results_none rfl _ _ _) rfl ⟨rfl, q.1, (Fr.reads S HB.out).trans q.2⟩
end Go.Proofs.YtagmlijhgncklaaGreatDoor.Ker
namespace Go.Proofs.YtagmlijhgncklaaGreatDoor.Ker
open Go.RowKit Go.Proofs.YtagmlijhgncklaaGreatDoor Go.Proofs.YtagmlijhgncklaaGreatDoor.Code Go.Proofs.YtagmlijhgncklaaGreatDoor.Spo

/-- A thread's effective priority is told. -/
def KS.effs (S : KS) (p : Nat) (t : Th) (pr : Int) : KS := { S with th := put S.th p (some { t with eff := pr }) }
theorem KP.effs {S : KS} (P : KP S) {p : Nat} {t : Th} {pr : Int} (ht : S.th p = some t) : KP (S.effs p t pr) := by
  refine { P with tp := ?_, can := ?_, thn := ?_ }
  · intro q hq
    show S.tp q = (put S.th p _ q).map _
    by_cases e : q = p
    · subst e; rw [put_self, P.tp q hq, ht]; rfl
    · rw [put_ne _ _ e]; exact P.tp q hq
  · intro q x hx
    rcases put_some (S := S) hx with ⟨rfl, rfl⟩ | ⟨_, hx⟩
    · exact P.can q t ht
    · exact P.can q x hx
  · intro q x hx
    rcases put_some (S := S) hx with ⟨rfl, rfl⟩ | ⟨_, hx⟩
    · exact P.thn q t ht
    · exact P.thn q x hx
/-- In the midst of the first round: of the threads below j each is settled. -/
def MidS (w : World) (S S' : KS) (g : Nat) (G : Inh.Gs) (p j : Nat) (W : World) : Prop :=
  W.heap[g]? = some (Inh.gO G) ∧ if p < j then KW W S' ∧ Fr S S' w W else KW W S ∧ Fr S S w W
theorem MidS.reads {w W W' : World} {S S' : KS} {g : Nat} {G : Inh.Gs} {p j : Nat} (h : MidS w S S' g G p j W) (b : Below W.heap.size W W') : MidS w S S' g G p j W' := by
  refine ⟨below_has b h.1, ?_⟩
  have q := h.2
  by_cases c : p < j
  · rw [if_pos c] at q ⊢; exact ⟨q.1.reads b, q.2.trans (Fr.reads S' b)⟩
  · rw [if_neg c] at q ⊢; exact ⟨q.1.reads b, q.2.trans (Fr.reads S b)⟩
theorem MidS.next {w W : World} {S S' : KS} {g : Nat} {G : Inh.Gs} {p j : Nat} (h : MidS w S S' g G p j W) (hne : j ≠ p) : MidS w S S' g G p (j + 1) W := by
  refine ⟨h.1, ?_⟩
  have q := h.2
  by_cases c : p < j
  · rw [if_pos c] at q; rw [if_pos (by omega)]; exact q
  · rw [if_neg c] at q; rw [if_neg (by omega)]; exact q
set_option maxRecDepth 100000 in
set_option maxHeartbeats 2000000 in
theorem settle_one (w : World) (S : KS) {B : KB} (hB : S.B = B) (h : KW w S) (P : KP S) (f : Nat → Int) (hf : PrioB S f) (hr : ∀ p t, p < 16 → S.th p = some t → t.en = false → 0 ≤ f p ∧ f p ≤ 31) (hk : ∀ p t, S.th p = some t → t.wt.kind ≠ 2) (hm : ∀ i, Tab.tk S.muT i = false)
    (p pr p0 : Nat) (t : Th) (hp : p < 16) (ht : S.th p = some t) (hen : t.en = false) (hwk : t.wt.kind = 0) (hfp : f p = pr) (hte : t.eff = p0) (he : ∀ q x, q ≠ p → q < 16 → S.th q = some x → x.en = false → f q = x.eff) (C : CanLift (S.effs p t pr) p pr p0)
    (P2 : KP ((S.effs p t pr).lifted p pr)) (hf2 : PrioB ((S.effs p t pr).lifted p pr) f) :
    Calls Tryz.prog 42 #[.pointer (some ⟨B.kb, 0, none⟩)] w fun e w' => e = .returned (.tuple #[]) ∧ KW w' ((S.effs p t pr).lifted p pr) ∧ Fr S ((S.effs p t pr).lifted p pr) w w' := by
  subst hB
  have A := graphB_c w S rfl h P f hf hr hk hm
  obtain ⟨S2, hS2⟩ : ∃ S2, S2 = (S.effs p t pr).lifted p pr := ⟨_, rfl⟩
  have thS2 : ∀ q x, S2.th q = some x → (q = p ∧ x = { t with eff := (pr : Int) }) ∨ (q ≠ p ∧ S.th q = some x) := fun q x hx => by
    rw [hS2] at hx
    exact put_some (S := S) hx
  have S2B : S2.B = S.B := by rw [hS2]; rfl
  have A2 : ∀ W, KW W S2 → Calls Tryz.prog 69 #[.pointer (some ⟨S.B.kb, 0, none⟩)] W fun e w' => ∃ g, e = .returned (.pointer (some ⟨g, 0, none⟩)) ∧ W.heap.size ≤ g ∧ GrW W w' S2 f g 16 := fun W hW => graphB_c W S2 (B := S.B) S2B hW (by rw [hS2]; exact P2) f (by rw [hS2]; exact hf2) (fun q x hq hx hxe => by
    rcases thS2 q x hx with ⟨rfl, rfl⟩ | ⟨_, hx⟩
    · exact hr q t hq ht hen
    · exact hr q x hq hx hxe) (fun q x hx => by
    rcases thS2 q x hx with ⟨rfl, rfl⟩ | ⟨_, hx⟩
    · exact hk q t ht
    · exact hk q x hx) (by rw [hS2]; exact hm)
  have hr0 : 0 ≤ f p := (hr p t hp ht hen).1
  have CH := fun W (hW : KW W (S.effs p t pr)) => change_none W (S.effs p t pr) (B := S.B) rfl hW (P.effs ht) p pr p0 { t with eff := pr } hp (put_self _ _ _) hwk rfl C
  have HK := Lib.hid h
  have HP := Lib.hid P
  have HP2 := Lib.hid (show KP S2 by rw [hS2]; exact P2)
  have HE2 := Lib.hid (fun q x (hq : q < 16) (hx : S2.th q = some x) (hxe : x.en = false) => show f q = x.eff by
    rcases thS2 q x hx with ⟨rfl, rfl⟩ | ⟨hne, hx⟩
    · exact hfp
    · exact he q x hne hq hx hxe)
  have HE := Lib.hid he
  have HA2 := Lib.hid A2
  have HCH := Lib.hid CH
  have HT := Lib.hid ht
  have HEN := Lib.hid hen
  have HFP := Lib.hid hfp
  have HTE := Lib.hid hte
  have HNE := Lib.hid C.ne
  have HS2 := Lib.hid hS2
  have HS2B := Lib.hid S2B
  rw [← hS2]
  clear h P hf hr hk hm ht hen hwk hfp hte he C P2 hf2 thS2 S2B A2 CH hS2
  go_enter Tryz.func42, Tryz.ntmps42
  go_wp2_with fail
  go_step3
  go_wp2_with fail
  go_step3
  go_wp2_with fail
  refine wp_loop_rounds 2 ?_
  rw [rounds_succ]
  go_wp2_with (first | (go_at_call 69; refine A.mono ?_; rintro e w2 ⟨g, rfl, hgl, GW⟩; have hr72 := (HK.out.reads GW.below).tpr; have HG := Lib.hid GW; clear GW) | (refine wpList_load_mid rfl 72 (.tmp 12) rfl S.B.kb 10 rfl S.tps _ hr72 Tryz.underlying72 rfl (by kernel_rfl) ?_))
  clear hr72 A
  obtain ⟨G, g1, g2, g3, g4, g5, g6⟩ := HG.out.g
  have HM0 : RowKit.Hid (MidS w S S2 g G p 0 w2) := Lib.hid ⟨g1, by rw [if_neg (by omega)]; exact ⟨HK.out.reads HG.out.below, Fr.reads S HG.out.below⟩⟩
  go_loopw [3, 14] (fun c i wr => ∃ j : Nat, c = .bool (decide (p < j)) ∧ i = .int .i64 j ∧ j ≤ 16 ∧ MidS w S S2 g G p j wr) (fun _ i _ => 16 - (intOf i).toNat)
  case atStart => exact ⟨0, by rw [decide_eq_false (by omega)], rfl, by omega, HM0.out⟩
  case round =>
    clear HM0
    obtain ⟨j, rfl, rfl, hj, M⟩ := hrel
    have HM := Lib.hid M
    clear M
    by_cases hlt : j < 16
    · have hix := run_index_72 S.tps j _ rfl hlt (S.tps_get hlt) wr
      have htp := HP.out.tp j hlt
      have nx : j ≠ p → decide (p < j) = decide (p < j + 1) := fun hne => by congr 1; simp; omega
      cases hth : S.th j with
      | none =>
        rw [hth, Option.map_none] at htp
        rw [htp] at hix
        have hne : j ≠ p := fun e => by rw [e, HT.out] at hth; cases hth
        have nx := Lib.hid (nx hne)
        clear htp hth
        go_wp2_with fail
        go_roundw
        case rel => exact ⟨j + 1, by first | rfl | rw [nx.out], by go_num, by omega, HM.out.next hne⟩
        case measure => simp [intOf]; omega
      | some x =>
        rw [hth, Option.map_some] at htp
        rw [htp] at hix
        have jn := HP.out.thn j x hth
        have hT : wr.heap[x.b]? = some (thO j x) := by
          have q := HM.out.2
          by_cases c : p < j
          · rw [if_pos c] at q
            exact q.1.getTh hlt (by rw [HS2.out]; show put S.th p _ j = some x; rw [put_ne _ _ (by omega)]; exact hth)
          · rw [if_neg c] at q
            exact q.1.getTh hlt hth
        have c20 := tc20 hT
        have O := Inh.of_c wr g G j HM.out.1 g2 (by rw [g3]; exact jn)
        have hown : x.en = false → ∀ out, Inh.Least G.n G.own G.wt out → out j = f j := fun hx out hl => by
          rw [g5] at hl
          rw [least_alone hl j (by rw [g3]; exact jn)]
          show max (G.ba j) (G.ce j) = f j
          have q := (g2.ba j hlt).1
          rw [g6, g4 j x hlt hlt hth hx] at *
          exact Int.max_eq_left q
        have HO := Lib.hid hown
        have HTX := Lib.hid hT
        have HTH := Lib.hid hth
        have j0 : (0 : Int) ≤ j := by omega
        have j1 : (j : Int) < 16 := by omega
        clear hown
        cases hxe : x.en with
        | true =>
          rw [hxe] at c20
          have hne : j ≠ p := fun e => by
            subst e
            rw [HT.out] at hth
            cases hth
            rw [HEN.out] at hxe
            cases hxe
          have nx := Lib.hid (nx hne)
          clear htp hth hT O hxe
          go_wp2_with fail
          go_roundw
          case rel => exact ⟨j + 1, by first | rfl | rw [nx.out], by go_num, by omega, HM.out.next hne⟩
          case measure => simp [intOf]; omega
        | false =>
          rw [hxe] at c20
          have HO2 := Lib.hid (HO.out hxe)
          by_cases hne : j = p
          · subst hne
            obtain rfl : x = t := by rw [HT.out] at hth; cases hth; rfl
            have hq := HM.out.2
            rw [if_neg (by omega : ¬ j < j)] at hq
            have HQ := Lib.hid hq
            clear htp hth hT hxe hq
            go_upto_region 7 with (go_at_call 70; refine O.mono ?_; rintro e w3 ⟨out, rfl, hl, b3⟩; have ho := HO2.out out hl; rw [ho, HFP.out]; have hT3 := below_has b3 HTX.out; have c17 := tc17 hT3; rw [HTE.out] at c17; have HB3 := Lib.hid b3; have HT3 := Lib.hid hT3; clear hl ho b3 hT3 O)
            have hni : (pr : Int) ≠ p0 := by have := HNE.out; omega
            have fz := has_free HT3.out
            have U := ((Upd.refl HT3.out).setCell 17 (.int .i64 pr)).to (o' := thO j { x with eff := (pr : Int) }) (by simp only [thO]; congr 1)
            have K4 := (HQ.out.1.reads HB3.out).thr (t' := { x with eff := (pr : Int) }) hlt HT.out U rfl rfl rfl
            have HK4 := Lib.hid K4
            have gs3 : g < w3.heap.size := has_lt (below_has HB3.out HM.out.1)
            have gl0 : S.lo.lab g = 0 := HK.out.fresh g hgl
            have G4 := (HK4.out.2.block g gs3 gl0).trans (below_has HB3.out HM.out.1)
            have HG4 := Lib.hid G4
            have HGL := Lib.hid gl0
            clear U K4 gs3 gl0 G4
            go_wp2_with (go_at_call 71; refine (HCH.out _ HK4.out.1).mono ?_; rintro e w5 ⟨rfl, k5, f5⟩; rw [← HS2.out] at k5 f5; have HK5 := Lib.hid k5; have HF5 := Lib.hid f5; clear k5 f5)
            go_roundw
            case rel =>
              refine ⟨j + 1, by rw [decide_eq_true (by omega)], by go_num, by omega, (HF5.out.block g (has_lt HG4.out) HGL.out).trans HG4.out, ?_⟩
              rw [if_pos (by omega)]
              exact ⟨HK5.out, (HQ.out.2.trans (Fr.reads S HB3.out)).trans (HK4.out.2.trans HF5.out)⟩
            case measure => simp [intOf]; omega
          · have nx := Lib.hid (nx hne)
            have hfe := HE.out j x hne hlt hth hxe
            have HFE := Lib.hid hfe
            clear htp hth hT hxe hfe
            go_wp2_with (go_at_call 70; refine O.mono ?_; rintro e w3 ⟨out, rfl, hl, b3⟩; have ho := HO2.out out hl; rw [ho, HFE.out]; have c17 := tc17 (below_has b3 HTX.out); have HB3 := Lib.hid b3; clear hl ho b3)
            go_roundw
            case rel => exact ⟨j + 1, by first | rfl | rw [nx.out], by go_num, by omega, (HM.out.reads HB3.out).next hne⟩
            case measure => simp [intOf]; omega
    · obtain rfl : j = 16 := by omega
      have q := HM.out.2
      rw [if_pos hp] at q
      have HQ := Lib.hid q
      rw [decide_eq_true hp]
      clear q HM g1 g2 g3 g4 g5 g6 HG
      go_wp2_with fail
      rw [rounds_succ]
      go_wp2_with (first | (go_at_call 69; refine (HA2.out wr HQ.out.1).mono ?_; rintro e w6 ⟨g', rfl, hgl', GW⟩; have hr72 := (HQ.out.1.reads GW.below).tpr; rw [HS2B.out] at hr72; have HG := Lib.hid GW; clear GW) | (refine wpList_load_mid rfl 72 (.tmp 12) rfl S.B.kb 10 rfl S2.tps _ hr72 Tryz.underlying72 rfl (by kernel_rfl) ?_))
      clear hr72
      go_loopw [3, 14] (fun c i wx => ∃ j : Nat, c = .bool false ∧ i = .int .i64 j ∧ j ≤ 16 ∧ GrW wr wx S2 f g' 16) (fun _ i _ => 16 - (intOf i).toNat)
      case atStart => exact ⟨0, rfl, rfl, by omega, HG.out⟩
      case round =>
        clear HG
        obtain ⟨j, rfl, rfl, hj, GW⟩ := hrel
        rename World => wy
        by_cases hlt : j < 16
        · have hix := run_index_72 S2.tps j _ rfl hlt (S2.tps_get hlt) wy
          have htp := HP2.out.tp j hlt
          have HG := Lib.hid GW
          cases hth : S2.th j with
          | none =>
            rw [hth, Option.map_none] at htp
            rw [htp] at hix
            clear htp hth GW
            go_wp2_with fail
            go_roundw
            case rel => exact ⟨j + 1, rfl, by go_num, by omega, HG.out⟩
            case measure => simp [intOf]; omega
          | some x =>
            rw [hth, Option.map_some] at htp
            rw [htp] at hix
            have hT : wy.heap[x.b]? = some (thO j x) := (HQ.out.1.reads GW.below).getTh hlt hth
            have c20 := tc20 hT
            cases hxe : x.en with
            | true =>
              rw [hxe] at c20
              clear htp hth GW hxe hT
              go_wp2_with fail
              go_roundw
              case rel => exact ⟨j + 1, rfl, by go_num, by omega, HG.out⟩
              case measure => simp [intOf]; omega
            | false =>
              rw [hxe] at c20
              obtain ⟨G, g1, g2, g3, g4, g5, g6⟩ := GW.g
              have jn := HP2.out.thn j x hth
              have O := Inh.of_c wy g' G j g1 g2 (by rw [g3]; exact jn)
              have hown : ∀ out, Inh.Least G.n G.own G.wt out → out j = x.eff := fun out hl => by
                rw [g5] at hl
                rw [least_alone hl j (by rw [g3]; exact jn)]
                show max (G.ba j) (G.ce j) = x.eff
                have q := (g2.ba j hlt).1
                rw [g6, g4 j x hlt hlt hth hxe] at *
                rw [HE2.out j x hlt hth hxe] at *
                exact Int.max_eq_left q
              have HO := Lib.hid hown
              have HTH := Lib.hid hth
              have j0 : (0 : Int) ≤ j := by omega
              have j1 : (j : Int) < 16 := by omega
              clear htp hth GW hxe hT g1 g2 g3 g4 g5 g6 jn hown
              go_wp2_with (go_at_call 70; refine O.mono ?_; rintro e w3 ⟨out, rfl, hl, b3⟩; have ho := HO.out out hl; rw [ho]; have c17 := tc17 ((HQ.out.1.reads (HG.out.below.trans (b3.mono HG.out.below.size))).getTh hlt HTH.out); have HB3 := Lib.hid b3; clear hl ho b3)
              go_roundw
              case rel => exact ⟨j + 1, rfl, by go_num, by omega, HG.out.reads HB3.out⟩
              case measure => simp [intOf]; omega
        · obtain rfl : j = 16 := by omega
          have HG := Lib.hid GW
          clear GW
          go_wp2_with fail
          rw [Exit.noGoto_normal]
          exact bodyPost_end (results_none rfl _ _ _) rfl ⟨rfl, HQ.out.1.reads HG.out.below, HQ.out.2.trans (Fr.reads S2 HG.out.below)⟩
end Go.Proofs.YtagmlijhgncklaaGreatDoor.Ker
namespace Go.Proofs.YtagmlijhgncklaaGreatDoor.Ker
open Go.RowKit Go.Proofs.YtagmlijhgncklaaGreatDoor Go.Proofs.YtagmlijhgncklaaGreatDoor.Code Go.Proofs.YtagmlijhgncklaaGreatDoor.Spo

set_option maxRecDepth 100000 in
theorem lives_c (w : World) (S : KS) {B : KB} (hB : S.B = B) (h : KW w S) (P : KP S) (hd : Int) (p : Nat) (t : Th) (hp : p < 16) (hf : Tab.atF S.T hd = some p) (ht : S.th p = some t) (hen : t.en = false) : Calls Tryz.prog 162 #[.pointer (some ⟨B.kb, 0, none⟩), .int .i64 hd] w fun e w' => e = .returned (.tuple #[.pointer (some ⟨t.b, 0, none⟩), .bool true]) ∧ Below w.heap.size w w' := by
  subst hB
  have c9 := kc9 h rfl
  have A := Tab.at_c w S.B.tab S.T hd (h.has 1 rfl) (by rw [P.T]; exact P.n1) (by rw [P.T]; exact P.n16) (fun i => ⟨(P.gen i).1, by have := (P.gen i).2; omega⟩)
  rw [hf, show Tab.atV (some p) = .tuple #[.int .i64 p, .bool true] from rfl] at A
  have HT := P.tp p hp
  rw [ht] at HT
  have C := fun W (hW : KW W S) => And.intro (hW.tpc hp) (tc20 (hW.getTh hp ht))
  simp only [HT, Option.map_some, hen] at C
  have HK := Lib.hid h
  have p0 : (0 : Int) ≤ p := by omega
  have p1 : (p : Int) < 16 := by omega
  clear h P hf ht HT hen
  go_enter Tryz.func162, Tryz.ntmps162
  go_wp2_with (go_at_call 66; refine A.mono ?_; rintro e w' ⟨rfl, hb⟩; obtain ⟨c, d⟩ := C w' (HK.out.reads hb); have HB := Lib.hid hb; clear hb)
  go_ret2
  exact ⟨rfl, HB.out⟩
set_option maxRecDepth 100000 in
theorem other_c (w : World) (S : KS) {B : KB} (hB : S.B = B) (h : KW w S) (P : KP S) (hd : Int) (p : Nat) (t : Th) (hp : p < 16) (hf : Tab.atF S.T hd = some p) (ht : S.th p = some t) (hen : t.en = false) : Calls Tryz.prog 354 #[.pointer (some ⟨B.kb, 0, none⟩), .int .i64 hd] w fun e w' => e = .returned (.pointer (some ⟨t.b, 0, none⟩)) ∧ Below w.heap.size w w' := by
  have A := lives_c w S hB h P hd p t hp hf ht hen
  clear h P hf ht hen
  go_enter Tryz.func354, Tryz.ntmps354
  go_wp2_with (first | (go_at_call 162; refine A.mono ?_; rintro e w' ⟨rfl, hb⟩; have HB := Lib.hid hb; clear hb) | (go_at_call 146; refine (must_c _ _).mono ?_; rintro e w' ⟨rfl, rfl⟩))
  go_ret
  exact ⟨rfl, HB.out⟩
set_option maxRecDepth 100000 in
theorem found_c (w : World) (S : KS) {B : KB} (hB : S.B = B) (h : KW w S) (P : KP S) (f : Nat → Int) (hf : PrioB S f) (hr : ∀ p t, p < 16 → S.th p = some t → t.en = false → 0 ≤ f p ∧ f p ≤ 31) (hk : ∀ p t, S.th p = some t → t.wt.kind ≠ 2) (hm : ∀ i, Tab.tk S.muT i = false) (p : Nat) (t : Th) (hp : p < 16) (ht : S.th p = some t) (hen : t.en = false) :
    Calls Tryz.prog 355 #[.pointer (some ⟨B.kb, 0, none⟩), .pointer (some ⟨t.b, 0, none⟩)] w fun e w' => e = .returned (.int .i64 (f p)) ∧ Below w.heap.size w w' := by
  subst hB
  have A : ∀ W, Below w.heap.size w W → Calls Tryz.prog 69 #[.pointer (some ⟨S.B.kb, 0, none⟩)] W fun e w' => ∃ g, e = .returned (.pointer (some ⟨g, 0, none⟩)) ∧ GrW W w' S f g 16 ∧ Below w.heap.size w w' := fun W b => by
    refine (graphB_c W S rfl (h.reads b) P f hf hr hk hm).mono ?_
    rintro e w' ⟨g, rfl, _, GW⟩
    exact ⟨g, rfl, GW, b.trans (GW.below.mono b.size)⟩
  have C := fun W (b : Below w.heap.size w W) => tc0 ((h.reads b).getTh hp ht)
  have jn := P.thn p t ht
  have O : ∀ W0 W g, GrW W0 W S f g 16 → Below w.heap.size w W → Calls Tryz.prog 70 #[.pointer (some ⟨g, 0, none⟩), .int .i64 p] W fun e w' => e = .returned (.tuple #[.int .i64 (f p), .bool true]) ∧ Below w.heap.size w w' := fun W0 W g GW b => by
    obtain ⟨G, g1, g2, g3, g4, g5, g6⟩ := GW.g
    refine (Inh.of_c W g G p g1 g2 (by rw [g3]; exact jn)).mono ?_
    rintro e w' ⟨out, rfl, hl, b3⟩
    have ho : out p = f p := by
      rw [g5] at hl
      rw [least_alone hl p (by rw [g3]; exact jn)]
      show max (G.ba p) (G.ce p) = f p
      have q := (g2.ba p hp).1
      rw [g6, g4 p t hp hp ht hen] at *
      exact Int.max_eq_left q
    exact ⟨by rw [ho], b.trans (b3.mono b.size)⟩
  have HO := Lib.hid O
  have HC := Lib.hid C
  clear h P hf hr hk hm ht hen jn O C
  go_enter Tryz.func355, Tryz.ntmps355
  go_wp2_with fail
  have bd : Below w.heap.size w w.drew := (Below.refl w.heap.size w).drew
  have e0 := HC.out w (Below.refl _ _)
  have HA := Lib.hid (A w.drew bd)
  clear A
  go_region_law (first
    | (go_simp; go_at_call 69; refine HA.out.mono ?_; rintro e w2 ⟨g, rfl, GW, b2⟩; have c0 := HC.out w2 b2; have HG := Lib.hid GW; have HB2 := Lib.hid b2; clear GW b2)
    | (go_simp; go_at_call 70; refine (HO.out _ _ _ HG.out HB2.out).mono ?_; rintro e w3 ⟨rfl, b3⟩; have c1 := HC.out w3 b3; have HB3 := Lib.hid b3; clear b3))
  all_goals go_wp2_with fail
  all_goals refine bodyPost_ret (v := .int .i64 (f p)) (results_tmp (show Tryz.f355.results = #[.tmp 4] from rfl) _ _ _) rfl ?_
  all_goals exact ⟨rfl, HB3.out⟩
/-- A thread goes to its own priority's tail. -/
def KS.atTail (S : KS) (p pr : Nat) (rob : Bool) : KS := { S with L := S.L.set p ⟨(S.L.getD p Hs.no).isIn, rob, pr, S.B.J.q⟩, R := (S.R.remF p).tailF pr p, st := S.st + 6 }
structure CanPut (S : KS) (p pr p0 : Nat) : Prop where
  isIn : (S.L.getD p Hs.no).isIn = true
  a1 : 1 ≤ pr
  a2 : pr < 32
  b1 : 1 ≤ p0
  b2 : p0 < 32
  z : S.R.pr.getD p 0 = p0
  v : Lk (S.R.pv.getD p 0)
  n : Lk (S.R.nx.getD p 0)
  h : Lk ((S.R.remF p).tl.getD pr 0)
  s0 : 0 ≤ S.st
  s1 : S.st ≤ 700000000
set_option maxRecDepth 100000 in
theorem kput_c (w : World) (S : KS) {B : KB} (hB : S.B = B) (h : KW w S) (P : KP S) (f : Nat → Int) (hf : PrioB S f) (hr : ∀ p t, p < 16 → S.th p = some t → t.en = false → 0 ≤ f p ∧ f p ≤ 31) (hk : ∀ p t, S.th p = some t → t.wt.kind ≠ 2) (hm : ∀ i, Tab.tk S.muT i = false) (p pr p0 : Nat) (t : Th) (hp : p < 16) (ht : S.th p = some t) (hen : t.en = false) (hwk : t.wt.kind = 0) (hfp : f p = pr) (C : CanPut (S.effs p t pr) p pr p0) :
    Calls Tryz.prog 357 #[.pointer (some ⟨B.kb, 0, none⟩), .pointer (some ⟨t.b, 0, none⟩)] w fun e w' => e = .returned (.tuple #[]) ∧ KW w' ((S.effs p t pr).atTail p pr (decide (t.pol = 1))) ∧ Fr S ((S.effs p t pr).atTail p pr (decide (t.pol = 1))) w w' := by
  subst hB
  have A := found_c w S rfl h P f hf hr hk hm p t hp ht hen
  rw [hfp] at A
  have c23 := tc23 (h.getTh hp ht)
  rw [hwk] at c23
  have HT := Lib.hid ht
  have HK := Lib.hid h
  have HP := Lib.hid P
  clear h P hf hr hk hm ht hen hwk hfp
  go_enter Tryz.func357, Tryz.ntmps357
  go_upto_region 2 with (go_at_call 355; refine A.mono ?_; rintro e w2 ⟨rfl, b2⟩; have hT2 := (HK.out.reads b2).getTh hp HT.out; have c17 := tc17 hT2; have fz := has_free hT2; have HB2 := Lib.hid b2; have HT2 := Lib.hid hT2; clear b2 hT2 A c23)
  have U := ((Upd.refl HT2.out).setCell 17 (.int .i64 pr)).to (o' := thO p { t with eff := (pr : Int) }) (by simp only [thO]; congr 1)
  have K4 := (HK.out.reads HB2.out).thr (t' := { t with eff := (pr : Int) }) hp HT.out U rfl rfl rfl
  obtain ⟨W, hW⟩ : ∃ W, W = w2.setCell ⟨t.b, 17, none⟩ (.int .i64 pr) := ⟨_, rfl⟩
  have K5 : KW W (S.effs p t pr) ∧ Fr S (S.effs p t pr) w W := by
    rw [hW]
    exact ⟨K4.1, (Fr.reads S HB2.out).trans K4.2⟩
  rw [← hW]
  clear U K4 fz c17 hW
  obtain ⟨kW, fW⟩ := K5
  have PE := HP.out.effs (pr := (pr : Int)) HT.out
  have hTW := kW.getTh hp (put_self _ _ _)
  have c26 := kc26 (B := S.B) kW rfl
  have c0 := tc0 hTW
  have c17 := tc17 hTW
  have c12 := tc12 hTW
  simp only [] at c0 c17 c12
  have A := turns_put W.drew S.B.tb S.B.rb S.B.J.q S.L S.R S.st p pr p0 (decide (t.pol = 1)) ((kW.tn PE.L PE.R).heap (fun _ _ => rfl)) hp C.isIn C.a1 C.a2 C.b1 C.b2 C.z C.v C.n C.h C.s0 C.s1
  have HKW := Lib.hid kW
  have HF := Lib.hid fW
  clear kW fW PE hTW C
  go_wp2_with fail
  refine still_tail 17 (by kernel_rfl) (by kernel_rfl) ?_
  simp only [List.take_succ_cons, List.take_zero, List.drop_succ_cons, List.drop_zero]
  repeat still_step
  refine wpStill_nil ?_
  go_wp2_with (go_at_call 491; refine A.mono ?_; rintro e w3 ⟨rfl, T3, U3⟩; have HT3 := Lib.hid T3; have HU3 := Lib.hid U3; clear T3 U3 A)
  have q := HKW.out.turns HT3.out ⟨HU3.out.os, HU3.out.tape, HU3.out.output, HU3.out.size, HU3.out.block⟩
  exact bodyPost_end (results_none rfl _ _ _) rfl ⟨rfl, q.1, HF.out.trans q.2⟩
end Go.Proofs.YtagmlijhgncklaaGreatDoor.Ker
namespace Go.Proofs.YtagmlijhgncklaaGreatDoor.Ker
open Go.RowKit Go.Proofs.YtagmlijhgncklaaGreatDoor Go.Proofs.YtagmlijhgncklaaGreatDoor.Code Go.Proofs.YtagmlijhgncklaaGreatDoor.Spo

/-- The kernel with a new server. -/
def KS.sv0 (S : KS) (sv : Nat) (s : Sv) : KS := { S with ext := fun n => if n = 0 then some (sv, svO s) else S.ext n, lo := { S.lo with lab := fun x => if x = sv then 50 else S.lo.lab x } }
theorem KW.newSv {w w' : World} {S : KS} (h : KW w S) {sv : Nat} {s : Sv} (hb : w.heap.size ≤ sv) (b : Below w.heap.size w w') (hs : w'.heap[sv]? = some (svO s)) : KW w' (S.sv0 sv s) ∧ Fr S (S.sv0 sv s) w w' := by
  have lab : ∀ x, x < w.heap.size → (S.sv0 sv s).lo.lab x = S.lo.lab x := fun x hx => by
    show (if x = sv then _ else _) = _
    rw [if_neg (by omega)]
  have keep : ∀ c, c < w.heap.size → w'.heap[c]? = w.heap[c]? := fun c hc => b.block c hc
  have lt : ∀ {x : Nat} {o : Obj}, w.heap[x]? = some o → x < w.heap.size := fun h => has_lt h
  have lts : sv < w'.heap.size := has_lt hs
  refine ⟨⟨?_, ?_, ?_, ?_, ?_, ?_, ?_, ?_, ?_⟩, ⟨b.os, b.tape, b.output, b.size, fun k hk _ => keep k hk, lab⟩⟩
  · intro i c o hi
    by_cases e0 : i = 45
    · subst e0
      cases hi
      refine ⟨hs, ?_⟩
      show (if sv = sv then _ else _) = _
      rw [if_pos rfl]
    · have same : (S.sv0 sv s).obj i = S.obj i := by
        match i with
        | 0 => rfl
        | 1 => rfl | 2 => rfl | 3 => rfl | 4 => rfl | 5 => rfl | 6 => rfl | 7 => rfl | 8 => rfl | 9 => rfl | 10 => rfl | 11 => rfl | 12 => rfl
        | n + 13 =>
          show (if n < 32 then S.thObj n else (S.sv0 sv s).ext (n - 32)) = (if n < 32 then S.thObj n else S.ext (n - 32))
          by_cases hn : n < 32
          · rw [if_pos hn, if_pos hn]
          · rw [if_neg hn, if_neg hn]
            show (if n - 32 = 0 then _ else S.ext (n - 32)) = _
            rw [if_neg (by omega)]
      rw [same] at hi
      have k := h.ob i c o hi
      exact ⟨(keep c (lt k.1)).trans k.1, (lab _ (lt k.1)).trans k.2⟩
  · intro c x hx
    have k := h.cs c x hx
    exact ⟨(keep c (lt k.1)).trans k.1, (lab _ (lt k.1)).trans k.2⟩
  · obtain ⟨xs, hx⟩ := h.l
    exact ⟨xs, owns_kept hx fun c hc => keep c (owns_lt hx hc)⟩
  · intro b hb
    obtain ⟨xs, hx⟩ := h.l
    exact (lab _ (owns_lt hx hb)).trans (h.ll b hb)
  · exact owns_kept h.nt fun c hc => keep c (owns_lt h.nt hc)
  · intro b hb
    exact (lab _ (owns_lt h.nt hb)).trans (h.nl b hb)
  · obtain ⟨xs, hx⟩ := h.a
    exact ⟨xs, owns_kept hx fun c hc => keep c (owns_lt hx hc)⟩
  · intro b hb
    obtain ⟨xs, hx⟩ := h.a
    exact (lab _ (owns_lt hx hb)).trans (h.al b hb)
  · intro c hc
    show (if c = sv then _ else _) = _
    rw [if_neg (by omega)]
    exact h.fresh c (Nat.le_trans b.size hc)
/-- A server as it is made. -/
def newF (bu pe : Int) : Sv := { bu := bu, pe := pe, lf := bu, ac := false, si := 0, us := 0, pv := .slice none 0 0, ps := [] }
theorem HasSv.new {S : KS} {sv : Nat} {bu pe : Int} (hb : 0 < bu) : HasSv (S.sv0 sv (newF bu pe)) sv (newF bu pe) := by
  refine ⟨rfl, fun g hg => (by cases hg), fun W _ => ?_, hb⟩
  exact ⟨rfl, .inl ⟨rfl, rfl⟩⟩
end Go.Proofs.YtagmlijhgncklaaGreatDoor.Ker
namespace Go.Proofs.YtagmlijhgncklaaGreatDoor.Ker
open Go.RowKit Go.Proofs.YtagmlijhgncklaaGreatDoor Go.Proofs.YtagmlijhgncklaaGreatDoor.Code Go.Proofs.YtagmlijhgncklaaGreatDoor.Spo

/-- The priority that each thread has where one is sporadic. -/
def prF (S : KS) (p1 : Nat) (s : Sv) (q : Nat) : Int := match S.th q with
  | some t => if q = p1 then (if highF s then t.high else t.low) else t.base
  | none => 0
theorem prioB_sv {S : KS} {p1 sv : Nat} {t1 : Th} {s : Sv} (O : OneSp S p1 sv t1) (H : HasSv S sv s) : PrioB S (prF S p1 s) := by
  intro W q x hW hq hx hen
  have hT := hW.getTh hq hx
  by_cases e : q = p1
  · subst e
    obtain rfl : x = t1 := by rw [O.th] at hx; cases hx; rfl
    obtain ⟨a, c, he⟩ := (H.pcw hW).slice
    have hv := (H.has hW).1
    cases hh : highF s with
    | true =>
      rw [show prF S q s q = x.high by unfold prF; rw [hx]; simp [hh]]
      exact prio_high W q sv x s hT O.pol O.srv hv H.bu he hh
    | false =>
      rw [show prF S q s q = x.low by unfold prF; rw [hx]; simp [hh]]
      exact prio_low W q sv x s hT O.pol O.srv hv H.bu he hh
  · rw [show prF S p1 s q = x.base by unfold prF; rw [hx]; simp [e]]
    refine (prio_c W q x hT (O.no q x e hx)).mono ?_
    rintro e w' ⟨h1, rfl⟩
    exact ⟨h1, Below.refl _ _⟩
/-- A thread that is sporadic now. -/
def Th.spor (x : Th) (hi lo : Int) (sv : Nat) : Th := { x with pol := 2, high := hi, low := lo, srv := some ⟨sv, 0, none⟩, base := hi }
/-- The kernel with the thread q sporadic. -/
def KS.spor5 (S : KS) (q : Nat) (x : Th) (hi lo : Int) (sv : Nat) (bu pe : Int) : KS := (S.sv0 sv (newF bu pe)).setTh q (x.spor hi lo sv)
theorem KP.spor5 {S : KS} (P : KP S) {q : Nat} {x : Th} (hx : S.th q = some x) (hi lo : Int) (sv : Nat) (bu pe : Int) : KP (S.spor5 q x hi lo sv bu pe) :=
  (show KP (S.sv0 sv (newF bu pe)) from { P with }).setTh hx rfl (P.can q x hx)
theorem spor_starts (w3 W5 : World) (S : KS) (P : KP S) (q : Nat) (x : Th) (hq : q < 16) (hx : S.th q = some x) (hi lo bu pe : Int) (sv : Nat) (b1 : 1 ≤ bu) (k : KW w3 (S.sv0 sv (newF bu pe))) (U : Upd w3 x.b (thO q (x.spor hi lo sv)) W5) :
    Calls Tryz.prog 87 #[.pointer (some ⟨S.B.kb, 0, none⟩), .pointer (some ⟨x.b, 0, none⟩)] W5 fun e w' => e = .returned (.tuple #[]) ∧ KW w' ((S.spor5 q x hi lo sv bu pe).withSv w' sv (startF (newF bu pe) S.mo)) ∧ Fr (S.sv0 sv (newF bu pe)) ((S.spor5 q x hi lo sv bu pe).withSv w' sv (startF (newF bu pe) S.mo)) w3 w' ∧ HasSv ((S.spor5 q x hi lo sv bu pe).withSv w' sv (startF (newF bu pe) S.mo)) sv (startF (newF bu pe) S.mo) := by
  have K5 := k.thr (t' := x.spor hi lo sv) hq hx U rfl rfl rfl
  have H5 : HasSv (S.spor5 q x hi lo sv bu pe) sv (newF bu pe) := (HasSv.new (S := S) (by omega)).same rfl
  refine (starts_sv W5 (S.spor5 q x hi lo sv bu pe) rfl K5.1 (P.spor5 hx hi lo sv bu pe) q sv (x.spor hi lo sv) (newF bu pe) hq (put_self _ _ _) rfl rfl H5).mono ?_
  rintro e w' ⟨rfl, T⟩
  have hb : 0 < (startF (newF bu pe) S.mo).bu := by
    unfold startF
    split
    · exact b1
    · exact b1
  have q6 := KW.server K5.1 H5 T hb
  exact ⟨rfl, q6.1, K5.2.trans q6.2.1, q6.2.2⟩
theorem start_high {bu pe mo : Int} (b1 : 1 ≤ bu) : highF (startF (newF bu pe) mo) = true := by
  have h : highF (newF bu pe) = true := by
    unfold highF newF
    simp
    omega
  unfold startF
  split
  · exact h
  · exact h
/-- The kernel with the thread q sporadic, and at its priority's tail. -/
def KS.spor6 (S : KS) (q : Nat) (x : Th) (hi lo : Int) (sv : Nat) (bu pe : Int) (W : World) : KS := (S.spor5 q x hi lo sv bu pe).withSv W sv (startF (newF bu pe) S.mo)
def KS.spored (S : KS) (q : Nat) (x : Th) (hi : Nat) (lo : Int) (sv : Nat) (bu pe : Int) (W : World) : KS := ((S.spor6 q x hi lo sv bu pe W).effs q (x.spor hi lo sv) hi).atTail q hi false
structure NoSp (S : KS) : Prop where
  base : ∀ p t, p < 16 → S.th p = some t → t.en = false → 0 ≤ t.base ∧ t.base ≤ 31
  kind : ∀ p t, S.th p = some t → t.wt.kind ≠ 2
  mu : ∀ i, Tab.tk S.muT i = false
  pol : ∀ p t, S.th p = some t → t.pol ≠ 2
theorem spor_put (w : World) (S : KS) (P : KP S) (N : NoSp S) (q p0 : Nat) (x : Th) (hq : q < 16) (hx : S.th q = some x) (hen : x.en = false) (hwk : x.wt.kind = 0) (hi lo : Nat) (bu pe : Int) (sv : Nat) (b1 : 1 ≤ bu) (h31 : hi ≤ 31) (W : World) (k : KW w (S.spor6 q x hi lo sv bu pe W)) (H : HasSv (S.spor6 q x hi lo sv bu pe W) sv (startF (newF bu pe) S.mo)) (C : CanPut S q hi p0) :
    Calls Tryz.prog 357 #[.pointer (some ⟨S.B.kb, 0, none⟩), .pointer (some ⟨x.b, 0, none⟩)] w fun e w' => e = .returned (.tuple #[]) ∧ KW w' (S.spored q x hi lo sv bu pe W) ∧ Fr (S.spor6 q x hi lo sv bu pe W) (S.spored q x hi lo sv bu pe W) w w' := by
  have th6 : ∀ y z, (S.spor6 q x hi lo sv bu pe W).th y = some z → (y = q ∧ z = x.spor hi lo sv) ∨ (y ≠ q ∧ S.th y = some z) := fun y z hz => put_some (S := S) hz
  have t6 : (S.spor6 q x hi lo sv bu pe W).th q = some (x.spor hi lo sv) := put_self _ _ _
  have O : OneSp (S.spor6 q x hi lo sv bu pe W) q sv (x.spor hi lo sv) := ⟨hq, t6, hen, rfl, rfl, hwk, fun y z hne hz => by
    rcases th6 y z hz with ⟨e, _⟩ | ⟨_, hz⟩
    · exact absurd e hne
    · exact N.pol y z hz⟩
  have fq : prF (S.spor6 q x hi lo sv bu pe W) q (startF (newF bu pe) S.mo) q = hi := by
    unfold prF
    rw [t6]
    simp [start_high b1, Th.spor]
  have P6 : KP (S.spor6 q x hi lo sv bu pe W) := { P.spor5 hx hi lo sv bu pe with }
  refine kput_c w (S.spor6 q x hi lo sv bu pe W) rfl k P6 _ (prioB_sv O H) (fun y z hy hz he => ?_) (fun y z hz => ?_) N.mu q hi p0 (x.spor hi lo sv) hq t6 hen hwk fq ⟨C.isIn, C.a1, C.a2, C.b1, C.b2, C.z, C.v, C.n, C.h, C.s0, C.s1⟩
  · rcases th6 y z hz with ⟨rfl, rfl⟩ | ⟨hne, hz'⟩
    · rw [fq]; omega
    · have := N.base y z hy hz' he
      rw [show prF (S.spor6 q x hi lo sv bu pe W) q (startF (newF bu pe) S.mo) y = z.base by unfold prF; rw [hz]; simp [hne]]
      exact this
  · rcases th6 y z hz with ⟨rfl, rfl⟩ | ⟨_, hz'⟩
    · rw [show (x.spor hi lo sv).wt.kind = 0 from hwk]; decide
    · exact N.kind y z hz'
set_option maxRecDepth 100000 in
set_option maxHeartbeats 1000000 in
theorem callSporadic_c (w : World) (S : KS) {B : KB} (hB : S.B = B) (h : KW w S) (P : KP S) (p q : Nat) (t x : Th) (hp : p < 16) (ht : S.th p = some t) (hq : q < 16) (hx : S.th q = some x) (hpq : q ≠ p) (hf : Tab.atF S.T (t.r 2) = some q) (hen : x.en = false) (hwk : x.wt.kind = 0)
    (hi lo : Nat) (bu pe : Int) (h3 : t.r 3 = hi) (h4 : t.r 4 = lo) (h5 : t.r 5 = bu) (h7 : t.r 7 = pe) (l1 : 1 ≤ lo) (lh : lo ≤ hi) (h31 : hi ≤ 31) (b1 : 1 ≤ bu) (bp : bu ≤ pe) (p1 : pe ≤ 1000) (N : NoSp S) (p0 : Nat) (CP : CanPut S q hi p0) :
    Calls Tryz.prog 216 #[.pointer (some ⟨B.kb, 0, none⟩), .pointer (some ⟨t.b, 0, none⟩)] w fun e w' => ∃ sv W, e = .returned (.int .i64 0) ∧ KW w' (S.spored q x hi lo sv bu pe W) ∧ Fr S (S.spored q x hi lo sv bu pe W) w w' := by
  subst hB
  have OT := fun W (hW : KW W S) => other_c W S rfl hW P (t.r 2) q x hq hf hx hen
  have CT := fun W (hW : KW W S) => And.intro (tc6 (hW.getTh hp ht)) (And.intro (tc7 (hW.getTh hp ht)) (And.intro (tc8 (hW.getTh hp ht)) (And.intro (tc9 (hW.getTh hp ht)) (tc11 (hW.getTh hp ht)))))
  simp only [h3, h4, h5, h7] at CT
  obtain ⟨c6, c7, c8, c9, c11⟩ := CT w h
  have HO := Lib.hid (OT w h)
  have HK := Lib.hid h
  have HP := Lib.hid P
  have HC := Lib.hid CT
  have HX := Lib.hid hx
  have HT := Lib.hid ht
  have PH := fun W => priority_c W (hi : Int) (by omega) (by omega)
  have PL := fun W => priority_c W (lo : Int) (by omega) (by omega)
  have HPH := Lib.hid PH
  have HPL := Lib.hid PL
  have HNS := Lib.hid (fun W => newServer_c W bu pe b1 bp (by omega))
  have dl : decide ((lo : Int) ≤ hi) = true := by simpa using lh
  have HN := Lib.hid N
  have HCP := Lib.hid CP
  clear N CP
  have HR3 := Lib.hid h3
  have HR4 := Lib.hid h4
  clear OT CT h P hx ht hf PH PL h3 h4 h5 h7
  go_enter Tryz.func216, Tryz.ntmps216
  go_wp2_with (first
    | (go_at_call 354; refine HO.out.mono ?_; rintro e w2 ⟨rfl, b2⟩; obtain ⟨d6, d7, d8, d9, d11⟩ := HC.out w2 (HK.out.reads b2); have HB2 := Lib.hid b2; clear b2 c6 c7 c8 c9 c11)
    | (go_at_call 349; with_reducible refine (HPH.out _).mono ?_; rintro e w' ⟨rfl, rfl⟩)
    | (go_at_call 349; with_reducible refine (HPL.out _).mono ?_; rintro e w' ⟨rfl, rfl⟩))
  refine still_tail 11 (by kernel_rfl) (by kernel_rfl) ?_
  simp only [List.take_succ_cons, List.take_zero, List.drop_succ_cons, List.drop_zero]
  repeat still_step
  refine wpStill_nil ?_
  go_wp2_with (go_at_call 146; refine (must_c _ _).mono ?_; rintro e w' ⟨rfl, rfl⟩)
  go_region_law (first | (go_simp; go_at_call 358; refine (HNS.out _).mono ?_; rintro e w3 ⟨rfl, e3⟩; have HE3 := Lib.hid e3; clear e3))
  all_goals have b3 : Below w.heap.size w w3 := (by rw [HE3.out]; exact (HB2.out.drew.drew).alloc (HB2.out.size) _)
  all_goals have s3 : w3.heap[w2.heap.size]? = some (svO (newF bu pe)) := (by rw [HE3.out]; exact heap_alloc_new _ _)
  all_goals have hT3 := below_has b3 (HK.out.getTh hp HT.out)
  all_goals have hX3 := below_has b3 (HK.out.getTh hq HX.out)
  all_goals obtain ⟨k3, f3⟩ := HK.out.newSv (sv := w2.heap.size) HB2.out.size b3 s3
  all_goals have e7 := tc7 hT3
  all_goals have e8 := tc8 hT3
  all_goals rw [HR3.out] at e7
  all_goals rw [HR4.out] at e8
  all_goals have fz := has_free hX3
  all_goals have e12 := tc12 hX3
  all_goals have e14 := tc14 hX3
  all_goals have e15 := tc15 hX3
  all_goals have e16 := tc16 hX3
  all_goals have HK3 := Lib.hid k3
  all_goals have HF3 := Lib.hid f3
  all_goals have HX3 := Lib.hid hX3
  all_goals clear d6 d7 d8 d9 d11 k3 f3 hX3 hT3 s3 b3
  all_goals go_wp2_with (go_at_call 146; refine (must_c _ _).mono ?_; rintro e w' ⟨rfl, rfl⟩)
  all_goals go_region
  all_goals obtain ⟨W4, hW4⟩ : ∃ W4, W4 = ((((w3.setCell ⟨x.b, 12, none⟩ (.int .i64 2)).setCell ⟨x.b, 14, none⟩ (.int .i64 hi)).setCell ⟨x.b, 15, none⟩ (.int .i64 lo)).setCell ⟨x.b, 16, none⟩ (.pointer (some ⟨w2.heap.size, 0, none⟩))).drew := ⟨_, rfl⟩
  all_goals rw [← hW4]
  all_goals have U4 : Upd w3 x.b (thO q { x with pol := 2, high := hi, low := lo, srv := some ⟨w2.heap.size, 0, none⟩ }) W4 := (by rw [hW4]; exact (((((Upd.refl HX3.out).setCell 12 (.int .i64 2)).setCell 14 (.int .i64 hi)).setCell 15 (.int .i64 lo)).setCell 16 (.pointer (some ⟨w2.heap.size, 0, none⟩))).drew.to (by simp only [thO]; congr 1))
  all_goals clear hW4 e7 e8 e12 e14 e15 e16 fz
  all_goals have HU4 := Lib.hid U4
  all_goals have fz4 := has_free U4.1
  all_goals have g13 : W4.cell? ⟨x.b, 13, none⟩ = some (.int .i64 x.base) := has_cell 13 U4.1 rfl
  all_goals have g14 : W4.cell? ⟨x.b, 14, none⟩ = some (.int .i64 hi) := has_cell 14 U4.1 rfl
  all_goals clear U4
  all_goals go_upto_region 9 with fail
  all_goals obtain ⟨W5, hW5⟩ : ∃ W5, W5 = W4.setCell ⟨x.b, 13, none⟩ (.int .i64 hi) := ⟨_, rfl⟩
  all_goals rw [← hW5]
  all_goals have U5 : Upd w3 x.b (thO q (x.spor hi lo w2.heap.size)) W5 := (by rw [hW5]; exact ((HU4.out).setCell 13 (.int .i64 hi)).to (by simp only [thO]; congr 1))
  all_goals clear hW5 g13 g14 fz4
  all_goals have g23 : W5.cell? ⟨x.b, 23, none⟩ = some (.int .i64 0) := (tc23 (t := x.spor hi lo w2.heap.size) U5.1).trans (by rw [show (x.spor hi lo w2.heap.size).wt.kind = 0 from hwk])
  all_goals have HST := Lib.hid (spor_starts w3 W5 S HP.out q x hq HX.out hi lo bu pe w2.heap.size b1 HK3.out U5)
  all_goals clear U5
  all_goals go_wp2_with (first
    | (go_at_call 87; refine HST.out.mono ?_; rintro e w6 ⟨rfl, k6, f6, H6⟩; have HPU := Lib.hid (spor_put w6 S HP.out HN.out q p0 x hq HX.out hen hwk hi lo bu pe w2.heap.size b1 h31 w6 k6 H6 HCP.out); have HF6 := Lib.hid f6; clear k6 f6 H6 g23)
    | (go_at_call 357; refine HPU.out.mono ?_; rintro e w7 ⟨rfl, k7, f7⟩; have HK7 := Lib.hid k7; have HF7 := Lib.hid f7; clear k7 f7))
  all_goals refine bodyPost_ret (v := .int .i64 0) (results_tmp (show Tryz.f216.results = #[.tmp 4] from rfl) _ _ _) rfl ?_
  all_goals exact ⟨w2.heap.size, w6, rfl, HK7.out, (HF3.out.trans HF6.out).trans HF7.out⟩
end Go.Proofs.YtagmlijhgncklaaGreatDoor.Ker
namespace Go.Proofs.YtagmlijhgncklaaGreatDoor.Ker
open Go.RowKit Go.Proofs.YtagmlijhgncklaaGreatDoor

set_option maxRecDepth 100000 in
theorem do_g (w : World) (S : KS) {B : KB} (hB : S.B = B) (h : KW w S) (kind n : Int) (Q : KS → Prop) (Q2 : KS → Prop) (HQ : ∀ Sg, Q2 Sg → Sg.B = S.B ∧ Sg.lo.ln ≤ 100000)
    (HS : ∀ W Sf, Q Sf → KW W Sf → Calls Tryz.prog 42 #[.pointer (some ⟨B.kb, 0, none⟩)] W fun e w' => ∃ Sg, e = .returned (.tuple #[]) ∧ Q2 Sg ∧ KW w' Sg ∧ Fr Sf Sg W w')
    (hA : (kind = 1 ∧ ∀ W, KW W S → Calls Tryz.prog 44 #[.pointer (some ⟨B.kb, 0, none⟩)] W fun e w' => ∃ Sf, e = .returned (.tuple #[]) ∧ Q Sf ∧ KW w' Sf ∧ Fr S Sf W w')
      ∨ (kind = 2 ∧ ∀ W, KW W S → Calls Tryz.prog 45 #[.pointer (some ⟨B.kb, 0, none⟩)] W fun e w' => ∃ Sf, e = .returned (.tuple #[]) ∧ Q Sf ∧ KW w' Sf ∧ Fr S Sf W w')) :
    Calls Tryz.prog 13 #[.pointer (some ⟨B.kb, 0, none⟩), .agg #[.int .i64 kind, .int .i64 n]] w fun e w' => ∃ Sg v, e = .returned (.int .i64 0) ∧ Q2 Sg ∧ KW w' (Sg.ev v) ∧ Fr S (Sg.ev v) w w' := by
  subst hB
  obtain ⟨w0, hw0⟩ : ∃ w0, w0 = w.alloc (.cells #[.int .i64 kind, .int .i64 n] 43) := ⟨_, rfl⟩
  have b0 : Below w.heap.size w w0 := by rw [hw0]; exact (Below.refl _ _).alloc (Nat.le_refl _) _
  have k0 := h.reads b0
  have x0 : Out w0 S w.heap.size (.cells #[.int .i64 kind, .int .i64 n] 43 (0, 0)) := by
    rw [hw0]
    exact ⟨heap_alloc_new w _, h.fresh _ (Nat.le_refl _)⟩
  have f0 := Fr.reads S b0
  have T := there_c w0 S rfl k0
  have HW := Lib.hid hw0
  have HK := Lib.hid k0
  have HX := Lib.hid x0
  have HF := Lib.hid f0
  obtain ⟨z, hz⟩ : ∃ z, z = w.heap.size := ⟨_, rfl⟩
  have HZ := Lib.hid hz
  have HQ := Lib.hid HQ
  have HS := Lib.hid HS
  clear b0 k0 x0 f0 hw0 h hz
  have z0 : w0.cell? ⟨z, 0, none⟩ = some (.int .i64 kind) := by rw [HZ.out]; exact has_cell 0 HX.out.1 rfl
  have z1 : w0.cell? ⟨z, 1, none⟩ = some (.int .i64 n) := by rw [HZ.out]; exact has_cell 1 HX.out.1 rfl
  rcases hA with ⟨rfl, A⟩ | ⟨rfl, A⟩ <;> (
    have A := A _ HK.out
    go_enter Tryz.func13, Tryz.ntmps13
    go_upto_region 1 with fail
    rw [← HW.out, ← HZ.out]
    have HA := HS
    go_upto_region 13 with (first
      | (go_at_call 43; refine T.mono ?_; rintro e w' ⟨rfl, rfl⟩)
      | (go_at_call 44; refine A.mono ?_; rintro e w1 ⟨Sf, rfl, hq, k1, f1⟩; have HQ1 := Lib.hid hq; have HK1 := Lib.hid k1; have HF1 := Lib.hid f1; clear hq k1 f1 A)
      | (go_at_call 45; refine A.mono ?_; rintro e w1 ⟨Sf, rfl, hq, k1, f1⟩; have HQ1 := Lib.hid hq; have HK1 := Lib.hid k1; have HF1 := Lib.hid f1; clear hq k1 f1 A)
      | (go_at_call 42; refine (HA.out _ _ HQ1.out HK1.out).mono ?_; rintro e w2 ⟨Sg, rfl, hq2, k2, f2⟩))
    have HQ2 := Lib.hid hq2
    have HBf := Lib.hid (HQ.out _ HQ2.out).1
    have HF2 := Lib.hid (HF.out.trans (HF1.out.trans f2))
    have x2 := (HX.out.fr HF1.out).fr f2
    rw [← HZ.out] at x2
    have HK2 := Lib.hid k2
    have HLN := Lib.hid (HQ.out _ HQ2.out).2
    obtain ⟨xs, hxs⟩ := k2.l
    have c8 : w2.cell? ⟨S.B.kb, 8, none⟩ = some Sg.lo.lv := kc8 (B := S.B) k2 HBf.out
    have f8 : ∀ i, w2.frozen? ⟨S.B.kb, i, none⟩ = false := by rw [← HBf.out]; exact has_free (k2.has 0 rfl)
    have hbk : S.B.kb < w2.heap.size := by rw [← HBf.out]; exact has_lt (k2.has 0 rfl)
    have hal : ∀ b, Sg.lo.lv.ownBlock = some b → S.B.kb ≠ b := fun b hb e => by
      have h4 := k2.ll b hb
      have h5 := (k2.ob 0 _ _ rfl).2
      rw [HBf.out, e] at h5
      omega
    have y0 := has_cell (v := .int .i64 _) 0 x2.1 rfl
    have y1 := has_cell (v := .int .i64 n) 1 x2.1 rfl
    obtain ⟨i0, hi, hz0, hz1, hz2⟩ := info_parts info43
    have HXS := Lib.hid hxs
    have HAL := Lib.hid hal
    have HI := Lib.hid hi
    have HZ0 := Lib.hid hz0
    have HZ1 := Lib.hid hz1
    have HZ2 := Lib.hid hz2
    clear hxs hal hi hz0 hz1 hz2 x2 k2 z0 z1 T f2 hq2
    go_region_law (first
    | (refine step_append_lies _ rfl (.tmp 38) (.tmp 40) 69 rfl 0 43 i0 _ 2 16 Tryz.underlying69 HI.out HZ0.out HZ1.out HZ2.out rfl (by decide) Sg.lo.lv Sg.lo.ln xs rfl (by exact owns_kept HXS.out fun b hb => Below.heap_alloc w2 _ b (owns_lt HXS.out hb)) ⟨w2.heap.size, 0, none⟩ 1 1 [.int .i64 _, .int .i64 n] rfl rfl (by exact World.news_of_block (heap_alloc_new w2 (.cells #[.int .i64 _, .int .i64 n] 43))) (by intro u hu; simp at hu; rcases hu with rfl | rfl <;> rfl) (by decide) (by have := HLN.out; simp only [maxLen]; omega) (by have := HLN.out; omega) (Nat.zero_le _) _ rfl ?_
       intro g cap w' q1 q2 q3 q4
       have q5 : w2.grownBy w' Sg.lo.lv.ownBlock := grown_alloc ⟨q2.os, q2.tape, q2.output, q2.size, q2.block⟩
       have y : w'.cell? ⟨S.B.kb, 8, none⟩ = some Sg.lo.lv := (World.cell?_of_block (q5.block S.B.kb hbk (fun e => HAL.out _ e.symm rfl))).trans c8
       have yf : ∀ i, w'.frozen? ⟨S.B.kb, i, none⟩ = false := fun i => (World.frozen?_of_block (q5.block S.B.kb hbk (fun e => HAL.out _ e.symm rfl))).trans (f8 i)))
    all_goals go_wp2_with fail
    all_goals go_ret
    all_goals
      have hkb : w'.heap[S.B.kb]? = some (kO Sg) := (q5.block S.B.kb hbk (fun e => HAL.out _ e.symm rfl)).trans (by rw [← HBf.out]; exact HK2.out.has 0 rfl)
      have F := HK2.out.logL q1 q5 (by
        rcases q3 with h | h
        · exact .inl h.symm
        · right
          intro b hb
          cases hb
          rw [h]
          show w2.heap.size ≤ (w2.alloc _).heap.size
          simp) (by intro b hb; cases hb; exact q4) (by rw [show Sg.B.kb = S.B.kb by rw [HBf.out]]; exact (Upd.refl hkb).setCell 8 _)
      exact ⟨Sg, _, rfl, HQ2.out, F.1, HF2.out.trans F.2⟩)
end Go.Proofs.YtagmlijhgncklaaGreatDoor.Ker
namespace Go.Proofs.YtagmlijhgncklaaGreatDoor.Ker
open Go.RowKit Go.Proofs.YtagmlijhgncklaaGreatDoor Go.Proofs.YtagmlijhgncklaaGreatDoor.Code Go.Proofs.YtagmlijhgncklaaGreatDoor.Spo

/-- The priority that a server gives its thread. -/
def effF (s : Sv) (t : Th) : Int := if highF s then t.high else t.low
/-- All is calm but for one sporadic thread. -/
structure SpCalm (S : KS) (p1 sv : Nat) (t1 : Th) (s : Sv) : Prop where
  P : KP S
  O : OneSp S p1 sv t1
  H : ∃ pv, HasSv S sv { s with pv := pv }
  kd : ∀ p t, S.th p = some t → t.wt.kind ≠ 2
  ba : ∀ p t, p ≠ p1 → p < 16 → S.th p = some t → t.en = false → 0 ≤ t.base ∧ t.base ≤ 31 ∧ t.base = t.eff
  hl : 0 ≤ t1.low ∧ t1.low ≤ 31 ∧ 0 ≤ t1.high ∧ t1.high ≤ 31
  mu : ∀ i, Tab.tk S.muT i = false
theorem prF_at {S : KS} {p1 : Nat} {s : Sv} {t : Th} (h : S.th p1 = some t) : prF S p1 s p1 = effF s t := by
  unfold prF effF
  rw [h]
  simp
theorem prF_ne {S : KS} {p1 q : Nat} {s : Sv} {t : Th} (h : S.th q = some t) (hne : q ≠ p1) : prF S p1 s q = t.base := by
  unfold prF
  rw [h]
  simp [hne]
theorem effF_range {s : Sv} {t : Th} (h : 0 ≤ t.low ∧ t.low ≤ 31 ∧ 0 ≤ t.high ∧ t.high ≤ 31) : 0 ≤ effF s t ∧ effF s t ≤ 31 := by
  unfold effF
  split <;> omega
theorem SpCalm.prioB {S : KS} {p1 sv : Nat} {t1 : Th} {s : Sv} (C : SpCalm S p1 sv t1 s) : PrioB S (prF S p1 s) := by
  obtain ⟨pv, H⟩ := C.H
  have q := prioB_sv C.O H
  exact q
theorem SpCalm.range {S : KS} {p1 sv : Nat} {t1 : Th} {s : Sv} (C : SpCalm S p1 sv t1 s) : ∀ p t, p < 16 → S.th p = some t → t.en = false → 0 ≤ prF S p1 s p ∧ prF S p1 s p ≤ 31 := fun q x hq hx hen => by
  by_cases e : q = p1
  · subst e
    obtain rfl : x = t1 := by have := C.O.th; rw [hx] at this; cases this; rfl
    rw [prF_at hx]
    exact effF_range C.hl
  · rw [prF_ne hx e]
    exact ⟨(C.ba q x e hq hx hen).1, (C.ba q x e hq hx hen).2.1⟩
/-- Settle turns nothing where the server's priority is the thread's. -/
theorem SpCalm.settle {S : KS} {p1 sv : Nat} {t1 : Th} {s : Sv} (C : SpCalm S p1 sv t1 s) (he : t1.eff = effF s t1) (w : World) {B : KB} (hB : S.B = B) (h : KW w S) : Calls Tryz.prog 42 #[.pointer (some ⟨B.kb, 0, none⟩)] w fun e w' => e = .returned (.tuple #[]) ∧ Below w.heap.size w w' := by
  refine settleB_c w S hB h C.P (prF S p1 s) C.prioB C.range C.kd C.mu (fun q x hq hx hen => ?_)
  by_cases e : q = p1
  · subst e
    obtain rfl : x = t1 := by have := C.O.th; rw [hx] at this; cases this; rfl
    rw [prF_at hx, he]
  · rw [prF_ne hx e]
    exact (C.ba q x e hq hx hen).2.2
theorem OneSp.same {S S' : KS} {p1 sv : Nat} {t1 : Th} (O : OneSp S p1 sv t1) (h : S'.th = S.th) : OneSp S' p1 sv t1 :=
  ⟨O.p16, by rw [h]; exact O.th, O.en, O.pol, O.srv, O.wt, fun q x hne hx => O.no q x hne (by rw [h] at hx; exact hx)⟩
theorem SpCalm.same {S S' : KS} {p1 sv : Nat} {t1 : Th} {s : Sv} (C : SpCalm S p1 sv t1 s) (P : KP S') (h : S'.th = S.th) (he : S'.ext = S.ext) (hm : S'.muT = S.muT) : SpCalm S' p1 sv t1 s :=
  ⟨P, C.O.same h, by obtain ⟨pv, H⟩ := C.H; exact ⟨pv, H.same he⟩, by rw [h]; exact C.kd, by rw [h]; exact C.ba, C.hl, by rw [hm]; exact C.mu⟩
/-- Another thread in the place of one that is as calm. -/
theorem SpCalm.th {S S' : KS} {p1 sv : Nat} {t1 : Th} {s : Sv} (C : SpCalm S p1 sv t1 s) (P : KP S') {p : Nat} {t t' : Th} (ht : S.th p = some t) (hp : p < 16) (h : S'.th = put S.th p (some t')) (he : S'.ext = S.ext) (hm : S'.muT = S.muT) (h1 : t'.pol = t.pol) (h2 : t'.srv = t.srv) (h3 : t'.wt = t.wt) (h4 : t'.base = t.base) (h5 : t'.eff = t.eff) (h6 : t'.en = t.en) (h7 : t'.high = t.high) (h8 : t'.low = t.low) :
    SpCalm S' p1 sv (if p = p1 then t' else t1) s where
  P := P
  O := by
    by_cases e : p = p1
    · subst e
      obtain rfl : t = t1 := by have := C.O.th; rw [ht] at this; cases this; rfl
      rw [if_pos rfl]
      refine ⟨hp, by rw [h, put_self], by rw [h6]; exact C.O.en, by rw [h1]; exact C.O.pol, by rw [h2]; exact C.O.srv, by rw [h3]; exact C.O.wt, fun q x hne hx => ?_⟩
      rw [h, put_ne _ _ hne] at hx
      exact C.O.no q x hne hx
    · rw [if_neg e]
      refine ⟨C.O.p16, by rw [h, put_ne _ _ (Ne.symm e)]; exact C.O.th, C.O.en, C.O.pol, C.O.srv, C.O.wt, fun q x hne hx => ?_⟩
      rw [h] at hx
      rcases put_some (S := S) hx with ⟨rfl, rfl⟩ | ⟨_, hx⟩
      · rw [h1]; exact C.O.no _ t e ht
      · exact C.O.no q x hne hx
  H := by obtain ⟨pv, H⟩ := C.H; exact ⟨pv, H.same he⟩
  kd := fun q x hx => by
    rw [h] at hx
    rcases put_some (S := S) hx with ⟨_, rfl⟩ | ⟨_, hx⟩
    · rw [h3]; exact C.kd p t ht
    · exact C.kd q x hx
  ba := fun q x hne hq hx hen => by
    rw [h] at hx
    rcases put_some (S := S) hx with ⟨rfl, rfl⟩ | ⟨_, hx⟩
    · rw [h4, h5]; exact C.ba _ t hne hq ht (by rw [← h6]; exact hen)
    · exact C.ba q x hne hq hx hen
  hl := by
    by_cases e : p = p1
    · subst e
      obtain rfl : t = t1 := by have := C.O.th; rw [ht] at this; cases this; rfl
      rw [if_pos rfl, h7, h8]; exact C.hl
    · rw [if_neg e]; exact C.hl
  mu := by rw [hm]; exact C.mu
/-- A thread that is not the sporadic one has ended. -/
theorem SpCalm.ends {S S' : KS} {p1 sv : Nat} {t1 : Th} {s : Sv} (C : SpCalm S p1 sv t1 s) (P : KP S') {p : Nat} {t t' : Th} (ht : S.th p = some t) (hne : p ≠ p1) (h : S'.th = put S.th p (some t')) (he : S'.ext = S.ext) (hm : S'.muT = S.muT) (h1 : t'.pol = t.pol) (h3 : t'.wt = t.wt) (h6 : t'.en = true) : SpCalm S' p1 sv t1 s where
  P := P
  O := by
    refine ⟨C.O.p16, by rw [h, put_ne _ _ (Ne.symm hne)]; exact C.O.th, C.O.en, C.O.pol, C.O.srv, C.O.wt, fun q x hq hx => ?_⟩
    rw [h] at hx
    rcases put_some (S := S) hx with ⟨rfl, rfl⟩ | ⟨_, hx⟩
    · rw [h1]; exact C.O.no _ t hne ht
    · exact C.O.no q x hq hx
  H := by obtain ⟨pv, H⟩ := C.H; exact ⟨pv, H.same he⟩
  kd := fun q x hx => by
    rw [h] at hx
    rcases put_some (S := S) hx with ⟨_, rfl⟩ | ⟨_, hx⟩
    · rw [h3]; exact C.kd p t ht
    · exact C.kd q x hx
  ba := fun q x hq hq16 hx hen => by
    rw [h] at hx
    rcases put_some (S := S) hx with ⟨_, rfl⟩ | ⟨_, hx⟩
    · rw [h6] at hen; cases hen
    · exact C.ba q x hq hq16 hx hen
  hl := C.hl
  mu := by rw [hm]; exact C.mu
/-- Between events. -/
def SpOk (S : KS) (p1 : Nat) (s : Sv) : Prop := ∃ sv t1, SpCalm S p1 sv t1 s ∧ t1.eff = effF s t1
theorem SpOk.same {S S' : KS} {p1 : Nat} {s : Sv} (C : SpOk S p1 s) (P : KP S') (h : S'.th = S.th) (he : S'.ext = S.ext) (hm : S'.muT = S.muT) : SpOk S' p1 s := by
  obtain ⟨sv, t1, c, e⟩ := C
  exact ⟨sv, t1, c.same P h he hm, e⟩
theorem SpOk.P {S : KS} {p1 : Nat} {s : Sv} (C : SpOk S p1 s) : KP S := by
  obtain ⟨sv, t1, c, e⟩ := C
  exact c.P
theorem SpOk.th {S S' : KS} {p1 : Nat} {s : Sv} (C : SpOk S p1 s) (P : KP S') {p : Nat} {t t' : Th} (ht : S.th p = some t) (hp : p < 16) (h : S'.th = put S.th p (some t')) (he : S'.ext = S.ext) (hm : S'.muT = S.muT) (h1 : t'.pol = t.pol) (h2 : t'.srv = t.srv) (h3 : t'.wt = t.wt) (h4 : t'.base = t.base) (h5 : t'.eff = t.eff) (h6 : t'.en = t.en) (h7 : t'.high = t.high) (h8 : t'.low = t.low) : SpOk S' p1 s := by
  obtain ⟨sv, t1, c, e⟩ := C
  refine ⟨sv, _, c.th P ht hp h he hm h1 h2 h3 h4 h5 h6 h7 h8, ?_⟩
  by_cases q : p = p1
  · subst q
    obtain rfl : t = t1 := by have := c.O.th; rw [ht] at this; cases this; rfl
    rw [if_pos rfl, h5, e]
    unfold effF
    rw [h7, h8]
  · rw [if_neg q]; exact e
theorem SpOk.ends {S S' : KS} {p1 : Nat} {s : Sv} (C : SpOk S p1 s) (P : KP S') {p : Nat} {t t' : Th} (ht : S.th p = some t) (hne : p ≠ p1) (h : S'.th = put S.th p (some t')) (he : S'.ext = S.ext) (hm : S'.muT = S.muT) (h1 : t'.pol = t.pol) (h3 : t'.wt = t.wt) (h6 : t'.en = true) : SpOk S' p1 s := by
  obtain ⟨sv, t1, c, e⟩ := C
  exact ⟨sv, t1, c.ends P ht hne h he hm h1 h3 h6, e⟩
/-- Do of an event behind which settle turns nothing. -/
theorem do_sp (w : World) (S : KS) {B : KB} (hB : S.B = B) (h : KW w S) (kind n : Int) (p1 : Nat) (Q : KS → Prop) (HQ : ∀ Sf, Q Sf → Sf.B = S.B ∧ Sf.lo.ln ≤ 100000 ∧ ∃ s, SpOk Sf p1 s)
    (hA : (kind = 1 ∧ ∀ W, KW W S → Calls Tryz.prog 44 #[.pointer (some ⟨B.kb, 0, none⟩)] W fun e w' => ∃ Sf, e = .returned (.tuple #[]) ∧ Q Sf ∧ KW w' Sf ∧ Fr S Sf W w')
      ∨ (kind = 2 ∧ ∀ W, KW W S → Calls Tryz.prog 45 #[.pointer (some ⟨B.kb, 0, none⟩)] W fun e w' => ∃ Sf, e = .returned (.tuple #[]) ∧ Q Sf ∧ KW w' Sf ∧ Fr S Sf W w')) :
    Calls Tryz.prog 13 #[.pointer (some ⟨B.kb, 0, none⟩), .agg #[.int .i64 kind, .int .i64 n]] w fun e w' => ∃ Sg v, e = .returned (.int .i64 0) ∧ Q Sg ∧ KW w' (Sg.ev v) ∧ Fr S (Sg.ev v) w w' := by
  refine do_g w S hB h kind n Q Q (fun Sg hg => ⟨(HQ Sg hg).1, (HQ Sg hg).2.1⟩) (fun W Sf hq k => ?_) hA
  obtain ⟨hb, _, s, sv, t1, c, e⟩ := HQ Sf hq
  refine (c.settle e W (hb.trans hB) k).mono ?_
  rintro e' w' ⟨rfl, b⟩
  exact ⟨Sf, rfl, hq, k.reads b, Fr.reads Sf b⟩
/-- How a kernel with a sporadic thread stands. -/
structure NowS (S : KS) (B : KB) (x : Pl) (p1 : Nat) (s : Sv) (m : Int) : Prop where
  B : S.B = B
  T : S.T = x.T
  L : S.L = x.L
  R : S.R = x.R
  st : S.st = x.st
  th : S.th = x.th
  ln : S.lo.ln = x.ln
  an : S.lo.an = x.an
  notes : S.lo.notes = x.notes
  mo : S.mo = m
  ok : SpOk S p1 s
  q0 : Quiet S.W0
  q1 : Quiet S.W1
theorem Turn.runS {S : KS} {B : KB} {x : Pl} {p p1 : Nat} {t : Th} {s : Sv} {m : Int} (T : Turn B x p t) (N : NowS S B x p1 s m) : Running S p t :=
  ⟨T.p16, by rw [N.B]; exact T.pn, by rw [N.th]; exact T.th, by rw [N.R]; exact T.first, by rw [N.R]; exact T.b1, by rw [N.R]; exact T.b2, by rw [N.R]; exact T.sm, by rw [N.st]; exact T.s0, by rw [N.st]; exact T.s1, T.ak⟩
/-- One more step of the turns' own count. -/
theorem nows_one {S : KS} {B : KB} {x : Pl} {p1 : Nat} {s : Sv} {m : Int} (N : NowS S B x p1 s m) : NowS ({ S with st := S.st + 1 } : KS) B { x with st := x.st + 1 } p1 s m :=
  ⟨N.B, N.T, N.L, N.R, by show S.st + 1 = x.st + 1; rw [N.st], N.th, N.ln, N.an, N.notes, N.mo, N.ok.same { N.ok.P with } rfl rfl rfl, N.q0, N.q1⟩
theorem nows_step {B : KB} {x : Pl} {p p1 : Nat} {t : Th} {s : Sv} {m : Int} (T : Turn B x p t) (y : Code.Prg) (n : Nat) (hx : B.J.PS[n]? = some y) (hpr : t.prog = n) (k : Nat) (hpc : t.pc = k) (i : Code.Ins) (hi : y.L[k]? = some i) (hln : x.ln ≤ 100000)
    (pc' : Int) (r' : Nat → Int) (hop : i.op ≠ 0 ∧ i.op ≠ 7 ∧ i.op ≠ 8) (A : StepsTo i k t.r pc' r') : DoesTo B evRun (fun S => NowS S B x p1 s m) (fun S => NowS S B (x.stepped p t pc' r') p1 s m) := by
  intro W S N hW
  have Rn := T.runS N
  have ht : S.th p = some t := Rn.th
  have P1 : KP (S.stepped p t pc' r') := by
    have q := N.ok.P.setTh (t' := { t with pc := pc', r := r' }) ht rfl (N.ok.P.can p t ht)
    exact { q with }
  have ok1 : SpOk (S.stepped p t pc' r') p1 s := N.ok.th P1 ht T.p16 rfl rfl rfl rfl rfl rfl rfl rfl rfl rfl rfl
  refine (do_sp W S N.B hW 1 0 p1 (fun Sf => Sf = S.stepped p t pc' r') (by rintro Sf rfl; exact ⟨rfl, by show S.lo.ln ≤ _; rw [N.ln]; exact hln, s, ok1⟩) (.inl ⟨rfl, fun W hW => (run_step W S N.B hW N.ok.P p t Rn y n (by rw [N.B]; exact hx) hpr k hpc i hi pc' r' hop A).mono ?_⟩)).mono ?_
  · rintro e w' ⟨rfl, k1, f1⟩
    exact ⟨_, rfl, rfl, k1, f1⟩
  · rintro e w' ⟨Sf, v, rfl, rfl, k1, f1⟩
    refine ⟨(S.stepped p t pc' r').ev v, rfl, ⟨N.B, N.T, N.L, N.R, ?_, ?_, ?_, N.an, N.notes, N.mo, ok1.same { P1 with } rfl rfl rfl, N.q0, N.q1⟩, k1, f1⟩
    · show S.st + 1 = x.st + 1; rw [N.st]
    · show put S.th p _ = put x.th p _; rw [N.th]
    · show S.lo.ln + 1 = x.ln + 1; rw [N.ln]
theorem KP.over {S : KS} (P : KP S) {p : Nat} {t : Th} (ht : S.th p = some t) (v : Int) : KP (S.over p t v) := by
  have q1 := P.setTh (t' := t.unw v) ht rfl (P.can p t ht)
  have h1 : (S.setTh p (t.unw v)).th p = some (t.unw v) := put_self _ _ _
  have q2 := q1.setTh (t' := { t.unw v with en := true }) h1 rfl (P.can p t ht)
  obtain ⟨_, n1, n2⟩ := Key.next_dead P.live P.kx p
  obtain ⟨c1, c2⟩ := Key.clear_dead n2 n1 p
  exact { q2 with
    L := by show (S.L.set p Hs.no).length = 16; rw [List.length_set]; exact P.L
    R := RdOk.remF P.R p
    kx := c1
    live := c2 }
theorem nows_past {B : KB} {x : Pl} {p p0 p1 : Nat} {t : Th} {s : Sv} {m : Int} (T : Turn B x p t) (hne : p ≠ p1) (y : Code.Prg) (n : Nat) (hx : B.J.PS[n]? = some y) (hpr : t.prog = n) (k : Nat) (hpc : t.pc = k) (hi : k = y.L.length) (hln : x.ln ≤ 100000)
    (hjn : t.jn = true) (hjr : t.jr < 0) (hun : t.can.un = false) (I : Leaves x p p0) : DoesTo B evRun (fun S => NowS S B x p1 s m) (fun S => NowS S B (x.over p t (t.r 0)) p1 s m) := by
  intro W S N hW
  have Rn := T.runS N
  have ht : S.th p = some t := Rn.th
  have ht1 : S.one.th p = some t := ht
  have P0 : KP S.one := { N.ok.P with }
  have P1 := P0.over ht1 (t.r 0)
  have hpol : t.pol ≠ 2 := by
    obtain ⟨sv, t1, c, _⟩ := N.ok
    exact c.O.no p t hne ht
  have hmu : ∀ i, Tab.tk S.muT i = false := by
    obtain ⟨sv, t1, c, _⟩ := N.ok
    exact c.mu
  have ok1 : SpOk (S.one.over p t (t.r 0)) p1 s := N.ok.ends (t' := { t.unw (t.r 0) with en := true }) P1 ht hne (by show put (put S.th p _) p _ = _; rw [put_put]) rfl rfl rfl rfl rfl
  refine (do_sp W S N.B hW 1 0 p1 (fun Sf => Sf = S.one.over p t (t.r 0)) (by rintro Sf rfl; exact ⟨rfl, by show S.lo.ln ≤ _; rw [N.ln]; exact hln, s, ok1⟩) (.inl ⟨rfl, fun W hW => run_past W S N.B hW N.ok.P p t Rn y n (by rw [N.B]; exact hx) hpr k hpc hi (fun S1 => S1 = S.one.over p t (t.r 0)) fun W1 hW1 => (over_stays W1 S.one N.B hW1 P0 p p0 t T.p16 ht1 hpol hmu hjn hjr hun
    ⟨by show (S.L.getD p Hs.no).isIn = true; rw [N.L]; exact I.isIn, I.q1, I.q32, by show S.R.pr.getD p 0 = p0; rw [N.R]; exact I.pr, by show Lk (S.R.pv.getD p 0); rw [N.R]; exact I.pv, by show Lk (S.R.nx.getD p 0); rw [N.R]; exact I.nx, by show 0 ≤ S.st + 1; rw [N.st]; have := T.s0; omega, by show S.st + 1 ≤ 600000000; rw [N.st]; have := T.s1; omega⟩).mono ?_⟩)).mono ?_
  · rintro e w' ⟨rfl, k1, f1⟩
    exact ⟨_, rfl, rfl, k1, f1⟩
  · rintro e w' ⟨Sf, v, rfl, rfl, k1, f1⟩
    refine ⟨(S.one.over p t (t.r 0)).ev v, rfl, ⟨N.B, N.T, ?_, ?_, ?_, ?_, ?_, N.an, N.notes, N.mo, ok1.same { P1 with } rfl rfl rfl, N.q0, N.q1⟩, k1, f1⟩
    · show S.L.set p _ = x.L.set p _; rw [N.L]
    · show S.R.remF p = x.R.remF p; rw [N.R]
    · show S.st + 1 + 2 = x.st + 3; rw [N.st]; omega
    · show put (put S.th p _) p _ = put (put (put x.th p _) p _) p _
      rw [N.th, put_put, put_put, put_put]
    · show S.lo.ln + 1 = x.ln + 1; rw [N.ln]
end Go.Proofs.YtagmlijhgncklaaGreatDoor.Ker
namespace Go.Proofs.YtagmlijhgncklaaGreatDoor.Ker
open Go.RowKit Go.Proofs.YtagmlijhgncklaaGreatDoor Go.Proofs.YtagmlijhgncklaaGreatDoor.Code Go.Proofs.YtagmlijhgncklaaGreatDoor.Spo

/-- What a tick makes of the server. -/
def nextF (s : Sv) (r : Bool) (m : Int) : Sv := startF (dueF (tickF s r) m) m
theorem use_pv (s : Sv) (v : Value) : useF { s with pv := v } = { useF s with pv := v } := by
  unfold useF
  show (if 1 < s.lf then _ else _) = _
  split <;> rfl
theorem tick_pv (s : Sv) (v : Value) (r : Bool) : tickF { s with pv := v } r = { tickF s r with pv := v } := by
  unfold tickF
  rw [high_pv, use_pv]
  show (if r && (s.ac && highF s) then _ else _) = _
  split <;> rfl
theorem due_pv2 (s : Sv) (v : Value) (m : Int) : dueF { s with pv := v } m = { dueF s m with pv := v } := by
  obtain ⟨bu, pe, lf, ac, si, us, pv, ps⟩ := s
  match ps with
  | [] => rfl
  | [(a, k)] =>
    by_cases h : a ≤ m
    · simp only [dueF, if_pos h]
    · simp only [dueF, if_neg h]
  | _ :: _ :: _ => rfl
theorem next_pv (s : Sv) (v : Value) (r : Bool) (m : Int) : nextF { s with pv := v } r m = { nextF s r m with pv := v } := by
  unfold nextF
  rw [tick_pv, due_pv2, start_pv]
theorem SpCalm.lift {S : KS} {p1 sv : Nat} {t1 : Th} {s : Sv} (C : SpCalm S p1 sv t1 s) (pr : Nat) (h32 : pr < 32) : SpCalm ((S.effs p1 t1 pr).lifted p1 pr) p1 sv { t1 with eff := (pr : Int) } s where
  P := (C.P.effs C.O.th).turns (by show (List.set _ _ _).length = 16; rw [List.length_set]; exact C.P.L) (RdOk.headF (RdOk.remF C.P.R p1) h32 p1)
  O := ⟨C.O.p16, put_self _ _ _, C.O.en, C.O.pol, C.O.srv, C.O.wt, fun q x hne hx => by
    rcases put_some (S := S) hx with ⟨e, _⟩ | ⟨_, hx⟩
    · exact absurd e hne
    · exact C.O.no q x hne hx⟩
  H := by obtain ⟨pv, H⟩ := C.H; exact ⟨pv, H.same rfl⟩
  kd := fun q x hx => by
    rcases put_some (S := S) hx with ⟨_, rfl⟩ | ⟨_, hx⟩
    · exact C.kd p1 t1 C.O.th
    · exact C.kd q x hx
  ba := fun q x hne hq hx hen => by
    rcases put_some (S := S) hx with ⟨e, _⟩ | ⟨_, hx⟩
    · exact absurd e hne
    · exact C.ba q x hne hq hx hen
  hl := C.hl
  mu := C.mu
theorem prF_lift (S : KS) (p1 : Nat) (t1 : Th) (h : S.th p1 = some t1) (pr : Nat) (s : Sv) : prF ((S.effs p1 t1 pr).lifted p1 pr) p1 s = prF S p1 s := by
  funext q
  by_cases e : q = p1
  · subst e
    have h2 : ((S.effs q t1 pr).lifted q pr).th q = some { t1 with eff := (pr : Int) } := put_self _ _ _
    rw [prF_at h2, prF_at h]
    rfl
  · unfold prF
    rw [show ((S.effs p1 t1 pr).lifted p1 pr).th q = S.th q from put_ne _ _ e]
theorem Like.calm {S S' : KS} {p1 sv : Nat} {t1 : Th} {s s' : Sv} (L : Like S S') (C : SpCalm S p1 sv t1 s) (H : ∃ pv, HasSv S' sv { s' with pv := pv }) : SpCalm S' p1 sv t1 s' :=
  ⟨L.KP C.P, C.O.same L.th, H, by rw [L.th]; exact C.kd, by rw [L.th]; exact C.ba, C.hl, by rw [L.muT]; exact C.mu⟩
/-- It may be lifted. -/
structure LiftX (x : Pl) (p pr p0 : Nat) : Prop where
  isIn : (x.L.getD p Hs.no).isIn = true
  a1 : 1 ≤ pr
  a2 : pr < 32
  b1 : 1 ≤ p0
  b2 : p0 < 32
  ne : pr ≠ p0
  l : (x.L.getD p Hs.no).pr = p0
  z : x.R.pr.getD p 0 = p0
  v : Lk (x.R.pv.getD p 0)
  n : Lk (x.R.nx.getD p 0)
  h : Lk ((x.R.remF p).hd.getD pr 0)
def Pl.tk (x : Pl) : Pl := { x with st := x.st + 2, ln := x.ln + 1 }
def Pl.lift (x : Pl) (p pr : Nat) (t1 : Th) : Pl := { x with L := x.L.set p { x.L.getD p Hs.no with pr := pr }, R := (x.R.remF p).headF pr p, st := x.st + 8, th := put x.th p (some { t1 with eff := (pr : Int) }), ln := x.ln + 1 }
/-- What a tick leads to, ahead of settle. -/
def Ticked (S : KS) (sv : Nat) (s : Sv) (Sf : KS) : Prop := Like { S with st := S.st + 2, re := Clk.upF S.re, mo := Clk.upF S.mo } Sf ∧ ∃ pv, HasSv Sf sv { s with pv := pv }
theorem tick_now {S : KS} {B : KB} {x : Pl} {p p1 : Nat} {t : Th} {s : Sv} {m : Int} (N : NowS S B x p1 s m) (T : Turn B x p t) {sv : Nat} {t1 : Th} (C : SpCalm S p1 sv t1 s) (R0 : SvR s) (R1 : SvR (tickF s (decide (p = p1)))) (hrob : (x.L.getD p Hs.no).rob = false) (W : World) (hW : KW W S) :
    Calls Tryz.prog 45 #[.pointer (some ⟨B.kb, 0, none⟩)] W fun e w' => ∃ Sf, e = .returned (.tuple #[]) ∧ Ticked S sv (nextF s (decide (p = p1)) (Clk.upF m)) Sf ∧ KW w' Sf ∧ Fr S Sf W w' := by
  obtain ⟨pv, H⟩ := C.H
  have R1' : SvR (tickF { s with pv := pv } (decide (p = p1))) := by rw [tick_pv]; exact R1.pv pv
  refine (tick_sv W S N.B hW C.P p t (T.runS N) p1 sv t1 { s with pv := pv } C.O H (R0.pv pv) R1' N.q0 N.q1 (by rw [N.L]; exact hrob)).mono ?_
  rintro e w' ⟨rfl, S', pv', L, k, f, H'⟩
  refine ⟨S', rfl, ⟨L, pv', ?_⟩, k, f⟩
  have q : startF (dueF (tickF { s with pv := pv } (decide (p = p1))) (Clk.upF S.mo)) (Clk.upF S.mo) = { nextF s (decide (p = p1)) (Clk.upF m) with pv := pv } := by
    rw [N.mo]; exact next_pv s pv _ _
  rw [q] at H'
  exact H'
theorem nows_keep {B : KB} {x : Pl} {p p1 : Nat} {t t1 : Th} {s : Sv} {m : Int} (T : Turn B x p t) (h1 : x.th p1 = some t1) (R0 : SvR s) (R1 : SvR (tickF s (decide (p = p1)))) (hrob : (x.L.getD p Hs.no).rob = false) (hln : x.ln ≤ 100000)
    (hh : highF (nextF s (decide (p = p1)) (Clk.upF m)) = highF s) : DoesTo B evTick (fun S => NowS S B x p1 s m) (fun S => NowS S B x.tk p1 (nextF s (decide (p = p1)) (Clk.upF m)) (Clk.upF m)) := by
  intro W S N hW
  obtain ⟨sv, t1', C, he⟩ := N.ok
  obtain rfl : t1' = t1 := by have := C.O.th; rw [N.th, h1] at this; cases this; rfl
  obtain ⟨s', hs'⟩ : ∃ s', s' = nextF s (decide (p = p1)) (Clk.upF m) := ⟨_, rfl⟩
  have TN := tick_now N T C R0 R1 hrob
  rw [← hs'] at hh TN ⊢
  have C2 : SpCalm ({ S with st := S.st + 2, re := Clk.upF S.re, mo := Clk.upF S.mo } : KS) p1 sv t1' s := C.same { C.P with re := upF_le C.P.re, mo := upF_le C.P.mo } rfl rfl rfl
  have ok : ∀ Sf, Ticked S sv s' Sf → SpOk Sf p1 s' := fun Sf h => ⟨sv, t1', h.1.calm C2 h.2, by rw [he]; unfold effF; rw [hh]⟩
  refine (do_sp W S N.B hW 2 0 p1 (fun Sf => Ticked S sv s' Sf) (fun Sf h => ⟨h.1.B, by rw [h.1.ln]; show S.lo.ln ≤ _; rw [N.ln]; exact hln, s', ok Sf h⟩) (.inr ⟨rfl, fun W hW => TN W hW⟩)).mono ?_
  rintro e w' ⟨Sf, v, rfl, h, k1, f1⟩
  have L := h.1
  refine ⟨Sf.ev v, rfl, ⟨L.B.trans N.B, L.T.trans N.T, L.L.trans N.L, L.R.trans N.R, ?_, L.th.trans N.th, ?_, L.an.trans N.an, L.notes.trans N.notes, ?_, (ok Sf h).same { (ok Sf h).P with } rfl rfl rfl, ?_, ?_⟩, k1, f1⟩
  · show Sf.st = x.st + 2; rw [L.st, ← N.st]
  · show Sf.lo.ln + 1 = x.ln + 1; rw [L.ln, ← N.ln]
  · show Sf.mo = _; rw [L.mo, ← N.mo]
  · show Quiet Sf.W0; rw [L.W0]; exact N.q0
  · show Quiet Sf.W1; rw [L.W1]; exact N.q1
theorem nows_lift {B : KB} {x : Pl} {p p1 pr p0 : Nat} {t t1 : Th} {s : Sv} {m : Int} (T : Turn B x p t) (h1 : x.th p1 = some t1) (R0 : SvR s) (R1 : SvR (tickF s (decide (p = p1)))) (hrob : (x.L.getD p Hs.no).rob = false) (hln : x.ln ≤ 100000)
    (hp : effF (nextF s (decide (p = p1)) (Clk.upF m)) t1 = pr) (h0 : t1.eff = p0) (I : LiftX x p1 pr p0) : DoesTo B evTick (fun S => NowS S B x p1 s m) (fun S => NowS S B (x.lift p1 pr t1) p1 (nextF s (decide (p = p1)) (Clk.upF m)) (Clk.upF m)) := by
  intro W S N hW
  obtain ⟨sv, t1', C, he⟩ := N.ok
  obtain rfl : t1' = t1 := by have := C.O.th; rw [N.th, h1] at this; cases this; rfl
  obtain ⟨s', hs'⟩ : ∃ s', s' = nextF s (decide (p = p1)) (Clk.upF m) := ⟨_, rfl⟩
  have TN := tick_now N T C R0 R1 hrob
  rw [← hs'] at hp TN ⊢
  have C2 : SpCalm ({ S with st := S.st + 2, re := Clk.upF S.re, mo := Clk.upF S.mo } : KS) p1 sv t1' s := C.same { C.P with re := upF_le C.P.re, mo := upF_le C.P.mo } rfl rfl rfl
  have cal : ∀ Sf, Ticked S sv s' Sf → SpCalm Sf p1 sv t1' s' := fun Sf h => h.1.calm C2 h.2
  have s0 := T.s0
  have s1 := T.s1
  have can : ∀ Sf, Ticked S sv s' Sf → CanLift (Sf.effs p1 t1' pr) p1 pr p0 := fun Sf h => by
    have eL : Sf.L = x.L := h.1.L.trans N.L
    have eR : Sf.R = x.R := h.1.R.trans N.R
    have eS : Sf.st = x.st + 2 := by rw [h.1.st, ← N.st]
    exact ⟨by show (Sf.L.getD p1 Hs.no).isIn = true; rw [eL]; exact I.isIn, I.a1, I.a2, I.b1, I.b2, I.ne, by show (Sf.L.getD p1 Hs.no).pr = p0; rw [eL]; exact I.l, by show Sf.R.pr.getD p1 0 = p0; rw [eR]; exact I.z, by show Lk (Sf.R.pv.getD p1 0); rw [eR]; exact I.v, by show Lk (Sf.R.nx.getD p1 0); rw [eR]; exact I.n, by show Lk ((Sf.R.remF p1).hd.getD pr 0); rw [eR]; exact I.h, by show 0 ≤ Sf.st; omega, by show Sf.st ≤ _; omega⟩
  have ok : ∀ Sf, Ticked S sv s' Sf → SpOk ((Sf.effs p1 t1' pr).lifted p1 pr) p1 s' := fun Sf h => ⟨sv, _, (cal Sf h).lift pr I.a2, by show (pr : Int) = effF s' _; rw [← hp]; rfl⟩
  refine (do_g W S N.B hW 2 0 (fun Sf => Ticked S sv s' Sf) (fun Sg => ∃ Sf, Ticked S sv s' Sf ∧ Sg = (Sf.effs p1 t1' pr).lifted p1 pr) ?_ ?_ (.inr ⟨rfl, fun W hW => TN W hW⟩)).mono ?_
  · rintro Sg ⟨Sf, h, rfl⟩
    exact ⟨h.1.B, by show Sf.lo.ln ≤ _; rw [h.1.ln]; show S.lo.ln ≤ _; rw [N.ln]; exact hln⟩
  · intro W1 Sf h hW1
    have c := cal Sf h
    refine (settle_one W1 Sf (h.1.B.trans N.B) hW1 c.P (prF Sf p1 s') c.prioB c.range c.kd c.mu p1 pr p0 t1' c.O.p16 c.O.th c.O.en c.O.wt (by rw [prF_at c.O.th]; exact hp) h0 (fun q z hne hq hz hen => by rw [prF_ne hz hne]; exact (c.ba q z hne hq hz hen).2.2) (can Sf h) (c.lift pr I.a2).P ?_).mono ?_
    · have q := (c.lift pr I.a2).prioB
      rwa [prF_lift Sf p1 t1' c.O.th] at q
    · rintro e w' ⟨rfl, k, f⟩
      exact ⟨_, rfl, ⟨Sf, h, rfl⟩, k, f⟩
  · rintro e w' ⟨Sg, v, rfl, ⟨Sf, h, rfl⟩, k1, f1⟩
    have L := h.1
    refine ⟨((Sf.effs p1 t1' pr).lifted p1 pr).ev v, rfl, ⟨L.B.trans N.B, L.T.trans N.T, ?_, ?_, ?_, ?_, ?_, L.an.trans N.an, L.notes.trans N.notes, ?_, (ok Sf h).same { (ok Sf h).P with } rfl rfl rfl, ?_, ?_⟩, k1, f1⟩
    · show Sf.L.set p1 { Sf.L.getD p1 Hs.no with pr := (pr : Int) } = _; rw [show Sf.L = x.L from L.L.trans N.L]; rfl
    · show (Sf.R.remF p1).headF pr p1 = _; rw [show Sf.R = x.R from L.R.trans N.R]; rfl
    · show Sf.st + 6 = x.st + 8; rw [show Sf.st = S.st + 2 from L.st, N.st]; omega
    · show put Sf.th p1 _ = put x.th p1 _; rw [show Sf.th = x.th from L.th.trans N.th]
    · show Sf.lo.ln + 1 = x.ln + 1; rw [L.ln, ← N.ln]
    · show Sf.mo = _; rw [L.mo, ← N.mo]
    · show Quiet Sf.W0; rw [L.W0]; exact N.q0
    · show Quiet Sf.W1; rw [L.W1]; exact N.q1
end Go.Proofs.YtagmlijhgncklaaGreatDoor.Ker
namespace Go.Proofs.YtagmlijhgncklaaGreatDoor.Ker
open Go.RowKit Go.Proofs.YtagmlijhgncklaaGreatDoor Go.Proofs.YtagmlijhgncklaaGreatDoor.Code Go.Proofs.YtagmlijhgncklaaGreatDoor.Spo

/-- How a kernel stands, and the second clock. -/
def NowM (S : KS) (B : KB) (x : Pl) (m : Int) : Prop := Now S B x ∧ S.mo = m
theorem nowm_step {B : KB} {x : Pl} {p : Nat} {t : Th} {m : Int} (T : Turn B x p t) (y : Code.Prg) (n : Nat) (hx : B.J.PS[n]? = some y) (hpr : t.prog = n) (k : Nat) (hpc : t.pc = k) (i : Code.Ins) (hi : y.L[k]? = some i) (hln : x.ln ≤ 100000)
    (pc' : Int) (r' : Nat → Int) (hop : i.op ≠ 0 ∧ i.op ≠ 7 ∧ i.op ≠ 8) (A : StepsTo i k t.r pc' r') : DoesTo B evRun (fun S => NowM S B x m) (fun S => NowM S B (x.stepped p t pc' r') m) := by
  rintro W S ⟨N, hm⟩ hW
  refine (do_step W S N.B hW N.calm p t (T.run N) y n (by rw [N.B]; exact hx) hpr k hpc i hi (by rw [N.ln]; exact hln) pc' r' hop A).mono ?_
  rintro e w' ⟨v, rfl, k1, f1⟩
  have ht : S.th p = some t := (T.run N).th
  refine ⟨(S.stepped p t pc' r').ev v, rfl, ⟨⟨N.B, N.T, N.L, N.R, ?_, ?_, ?_, N.an, N.notes, (N.calm.stepped ht T.p16 pc' r').ev v, N.q0, N.q1⟩, hm⟩, k1, f1⟩
  · show S.st + 1 = x.st + 1; rw [N.st]
  · show put S.th p _ = put x.th p _; rw [N.th]
  · show S.lo.ln + 1 = x.ln + 1; rw [N.ln]
theorem nowm_create {B : KB} {x : Pl} {p : Nat} {t : Th} {m : Int} (T : Turn B x p t) (y : Code.Prg) (n : Nat) (hx : B.J.PS[n]? = some y) (hpr : t.prog = n) (k : Nat) (hpc : t.pc = k) (hi : y.L[k]? = some ⟨7, 0, 0, 0, 1⟩) (hk : k ≤ 1000) (hln : x.ln ≤ 100000) (han : x.an ≤ 100000)
    (i pr : Nat) (g prog pol jn : Int) (hr2 : t.r 2 = prog) (hr3 : t.r 3 = pr) (hr4 : t.r 4 = pol) (hr5 : t.r 5 = jn)
    (hg0 : 0 ≤ prog) (hg1 : prog < B.J.PS.length) (hg2 : B.J.PS.length ≤ 32) (hpl : pol = 0 ∨ pol = 1) (hj : jn = 0 ∨ jn = 1) (hf : Tab.freeF x.T = some i) (hg : g = Tab.gn x.T i + 1) (hg9 : g ≤ 900) (hn : x.th i = none) (hat : Tab.atF (x.T.set i (true, g)) (i + 16 * g) = some i)
    (h1 : 1 ≤ pr) (h32 : pr < 32) (hin : (x.L.getD i Hs.no).isIn = false) (hz : x.R.pr.getD i 0 = 0) (hl : Lk (x.R.tl.getD pr 0)) : DoesTo B evRun (fun S => NowM S B x m) (fun S => ∃ b c, NowM S B (x.created B p t k i pr g prog pol (decide (jn = 0)) b c) m) := by
  rintro W S ⟨N, hm⟩ hW
  have hT := N.T
  refine (do_create W S N.B hW N.calm p t (T.run N) y n (by rw [N.B]; exact hx) hpr k hpc hi hk (by rw [N.ln]; exact hln) (by rw [N.an]; exact han) i pr g prog pol jn hr2 hr3 hr4 hr5 hg0 (by rw [N.B]; exact hg1) (by rw [N.B]; exact hg2) hpl hj (by rw [hT]; exact hf) (by rw [hT]; exact hg) hg9 (by rw [N.th]; exact hn) (by rw [hT]; exact hat) h1 h32 (by rw [N.L]; exact hin) (by rw [N.R]; exact hz) (by rw [N.R]; exact hl)).mono ?_
  rintro e w' ⟨b, c, av, v, rfl, k1, f1⟩
  have ht : S.th p = some t := (T.run N).th
  have hip : p ≠ i := fun e => by have q := T.th; rw [e, hn] at q; cases q
  have hiB : i < S.B.n := by have q := (Tab.free_some hf).1; rw [← hT, N.calm.P.T] at q; exact q
  have g0 : 0 ≤ g := by have := (N.calm.P.gen i).1; rw [hT] at this; omega
  have hqB : B.J.q = S.B.J.q := by rw [N.B]
  refine ⟨(S.created p t k i pr g prog pol (decide (jn = 0)) b c av).ev v, rfl, ⟨b, c, ⟨N.B, ?_, ?_, ?_, ?_, ?_, ?_, ?_, N.notes, (N.calm.created (k := k) (g := g) (prog := prog) (jn := decide (jn = 0)) (b := b) (c := c) (av := av) ht T.p16 hip hiB g0 hg9 (by omega) h32).ev v, N.q0, N.q1⟩, hm⟩, k1, f1⟩
  · show S.T.set i _ = x.T.set i _; rw [N.T]
  · show S.L.set i _ = x.L.set i _; rw [N.L, hqB]; rfl
  · show S.R.tailF pr i = x.R.tailF pr i; rw [N.R]
  · show S.st + 1 + 4 = x.st + 5; rw [N.st]; omega
  · show put (put (put S.th p _) i _) p _ = put (put (put x.th p _) i _) p _; rw [N.th]
  · show S.lo.ln + 1 = x.ln + 1; rw [N.ln]
  · show S.lo.an + 1 = x.an + 1; rw [N.an]
/-- It may be made sporadic. -/
structure PutX (x : Pl) (p pr p0 : Nat) : Prop where
  isIn : (x.L.getD p Hs.no).isIn = true
  a1 : 1 ≤ pr
  a2 : pr < 32
  b1 : 1 ≤ p0
  b2 : p0 < 32
  z : x.R.pr.getD p 0 = p0
  v : Lk (x.R.pv.getD p 0)
  n : Lk (x.R.nx.getD p 0)
  h : Lk ((x.R.remF p).tl.getD pr 0)
/-- The thread q has become sporadic, by a call of p. -/
def Pl.spored (x : Pl) (B : KB) (p : Nat) (t : Th) (k q : Nat) (z : Th) (hi : Nat) (lo : Int) (sv : Nat) : Pl :=
  { x with L := x.L.set q ⟨(x.L.getD q Hs.no).isIn, false, hi, B.J.q⟩, R := (x.R.remF q).tailF hi q, st := x.st + 7, ln := x.ln + 1, an := x.an + 1, th := put (put x.th q (some { z.spor hi lo sv with eff := (hi : Int) })) p (some (({ t with pc := (k : Int) + 1 } : Th).ans 0 0)) }
theorem put_comm {α : Type} (f : Nat → α) {i j : Nat} (x y : α) (h : i ≠ j) : put (put f i x) j y = put (put f j y) i x := by
  funext k
  unfold put
  by_cases e1 : k = j
  · by_cases e2 : k = i
    · exact absurd (e2.symm.trans e1) h
    · rw [if_pos e1, if_neg e2, if_pos e1]
  · by_cases e2 : k = i
    · rw [if_neg e1, if_pos e2, if_pos e2]
    · rw [if_neg e1, if_neg e2, if_neg e2, if_neg e1]
theorem start_new {bu pe m : Int} (b1 : 1 ≤ bu) : startF (newF bu pe) m = { bu := bu, pe := pe, lf := bu, ac := true, si := m, us := 0, pv := .slice none 0 0, ps := [] } := by
  have h : highF (newF bu pe) = true := by
    unfold highF newF
    simp
    omega
  unfold startF
  rw [h]
  rfl
theorem now_spor {B : KB} {x : Pl} {p q : Nat} {t z : Th} {m : Int} (T : Turn B x p t) (y : Code.Prg) (n : Nat) (hx : B.J.PS[n]? = some y) (hpr : t.prog = n) (k : Nat) (hpc : t.pc = k) (hi : y.L[k]? = some ⟨7, 0, 0, 0, 9⟩) (hk : k ≤ 1000) (hln : x.ln ≤ 100000) (han : x.an ≤ 100000)
    (hq : q < 16) (hz : x.th q = some z) (hpq : q ≠ p) (hf : Tab.atF x.T (t.r 2) = some q) (hen : z.en = false) (hwk : z.wt.kind = 0) (hi' lo : Nat) (bu pe : Int) (h3 : t.r 3 = hi') (h4 : t.r 4 = lo) (h5 : t.r 5 = bu) (h7 : t.r 7 = pe) (l1 : 1 ≤ lo) (lh : lo ≤ hi') (h31 : hi' ≤ 31) (b1 : 1 ≤ bu) (bp : bu ≤ pe) (p1 : pe ≤ 1000) (p0 : Nat) (CP : PutX x q hi' p0) :
    DoesTo B evRun (fun S => NowM S B x m) (fun S => ∃ sv, NowS S B (x.spored B p t k q z hi' lo sv) q (startF (newF bu pe) m) m) := by
  rintro W S ⟨N, hm⟩ hW
  have Rn := T.run N
  have ht : S.th p = some t := Rn.th
  have C0 := N.calm.stepped ht Rn.p16 ((k : Int) + 1) t.r
  obtain ⟨S0, hS0⟩ : ∃ S0, S0 = S.stepped p t ((k : Int) + 1) t.r := ⟨_, rfl⟩
  have ht0 : S0.th p = some { t with pc := (k : Int) + 1, r := t.r } := by rw [hS0]; exact put_self _ _ _
  have hz0 : S0.th q = some z := by rw [hS0]; show put S.th p _ q = _; rw [put_ne _ _ hpq, N.th]; exact hz
  have B0 : S0.B = B := by rw [hS0]; exact N.B
  have L0 : S0.L = x.L := by rw [hS0]; exact N.L
  have R0 : S0.R = x.R := by rw [hS0]; exact N.R
  have st0 : S0.st = x.st + 1 := by rw [hS0, ← N.st]; rfl
  have mo0 : S0.mo = m := by rw [hS0]; exact hm
  rw [← hS0] at C0
  have s0 := T.s0
  have s1 := T.s1
  have can0 : t.can.L = [] := N.calm.P.can p t ht
  have pol0 : t.pol ≠ 2 := N.calm.pol p t ht
  have kd0 : t.wt.kind ≠ 2 := N.calm.kd p t ht
  have ba0 : t.en = false → 0 ≤ t.base ∧ t.base ≤ 31 ∧ t.base = t.eff := fun he => N.calm.ba p t Rn.p16 ht he
  have NS : NoSp S0 := ⟨fun a b h1 h2 h3 => ⟨(C0.ba a b h1 h2 h3).1, (C0.ba a b h1 h2 h3).2.1⟩, C0.kd, C0.mu, C0.pol⟩
  have CPS : CanPut S0 q hi' p0 := ⟨by rw [L0]; exact CP.isIn, CP.a1, CP.a2, CP.b1, CP.b2, by rw [R0]; exact CP.z, by rw [R0]; exact CP.v, by rw [R0]; exact CP.n, by rw [R0]; exact CP.h, by omega, by omega⟩
  -- what the call leads to
  have cal : ∀ sv W1 av, SpCalm ((S0.spored q z hi' lo sv bu pe W1).ans p (({ t with pc := (k : Int) + 1, r := t.r } : Th).ans 0 0) av) q sv { z.spor hi' lo sv with eff := (hi' : Int) } (startF (newF bu pe) m) := fun sv W1 av => by
    have th1 : ∀ a b, ((S0.spored q z hi' lo sv bu pe W1).ans p (({ t with pc := (k : Int) + 1, r := t.r } : Th).ans 0 0) av).th a = some b → (a = p ∧ b = (({ t with pc := (k : Int) + 1, r := t.r } : Th).ans 0 0)) ∨ (a ≠ p ∧ a = q ∧ b = { z.spor hi' lo sv with eff := (hi' : Int) }) ∨ (a ≠ p ∧ a ≠ q ∧ S0.th a = some b) := fun a b h => by
      rcases put_some (S := (S0.spored q z hi' lo sv bu pe W1)) h with h1 | ⟨h1, h⟩
      · exact .inl h1
      · rcases put_some (S := (S0.spor6 q z hi' lo sv bu pe W1)) h with ⟨h2, h⟩ | ⟨h2, h⟩
        · exact .inr (.inl ⟨h1, h2, h⟩)
        · rcases put_some (S := S0) h with ⟨h3, _⟩ | ⟨h3, h⟩
          · exact absurd h3 h2
          · exact .inr (.inr ⟨h1, h2, h⟩)
    have P1 : KP ((S0.spor5 q z hi' lo sv bu pe).effs q (z.spor hi' lo sv) hi') := (C0.P.spor5 hz0 hi' lo sv bu pe).effs (put_self _ _ _)
    have t1p : ((S0.spor5 q z hi' lo sv bu pe).effs q (z.spor hi' lo sv) hi').th p = some { t with pc := (k : Int) + 1, r := t.r } := by
      show put (put S0.th q _) q _ p = _
      rw [put_ne _ _ (Ne.symm hpq), put_ne _ _ (Ne.symm hpq)]
      exact ht0
    have P2 := P1.setTh (t' := ({ t with pc := (k : Int) + 1, r := t.r } : Th).ans 0 0) t1p rfl can0
    have P3 := P2.turns (L := S0.L.set q ⟨(S0.L.getD q Hs.no).isIn, false, hi', S0.B.J.q⟩) (R := (S0.R.remF q).tailF hi' q) (st := S0.st + 6) (by rw [List.length_set]; exact C0.P.L) (RdOk.tailF (RdOk.remF C0.P.R q) CP.a2 q)
    refine ⟨{ P3 with }, ⟨hq, ?_, hen, rfl, rfl, hwk, fun a b hne hb => ?_⟩, ⟨.slice none 0 0, ?_⟩, fun a b hb => ?_, fun a b hne ha hb he => ?_, ?_, C0.mu⟩
    · show put (put (put S0.th q _) q _) p _ q = _
      rw [put_ne _ _ hpq, put_self]
    · rcases th1 a b hb with ⟨rfl, rfl⟩ | ⟨_, e, _⟩ | ⟨_, _, hb⟩
      · exact pol0
      · exact absurd e hne
      · exact C0.pol a b hb
    · rw [start_new b1]
      have e0 : ((S0.spored q z hi' lo sv bu pe W1).ans p (({ t with pc := (k : Int) + 1, r := t.r } : Th).ans 0 0) av).ext 0 = some (sv, svO (startF (newF bu pe) S0.mo)) := rfl
      rw [start_new b1, mo0] at e0
      exact ⟨e0, fun g hg => (by cases hg), fun W _ => ⟨rfl, .inl ⟨rfl, rfl⟩⟩, by show 0 < bu; omega⟩
    · rcases th1 a b hb with ⟨rfl, rfl⟩ | ⟨_, _, rfl⟩ | ⟨_, _, hb⟩
      · exact kd0
      · show z.wt.kind ≠ 2; rw [hwk]; decide
      · exact C0.kd a b hb
    · rcases th1 a b hb with ⟨rfl, rfl⟩ | ⟨_, e, _⟩ | ⟨_, _, hb⟩
      · exact ba0 he
      · exact absurd e hne
      · exact C0.ba a b ha hb he
    · show (0 : Int) ≤ lo ∧ (lo : Int) ≤ 31 ∧ (0 : Int) ≤ hi' ∧ (hi' : Int) ≤ 31
      omega
  have ok : ∀ sv W1 av, SpOk ((S0.spored q z hi' lo sv bu pe W1).ans p (({ t with pc := (k : Int) + 1, r := t.r } : Th).ans 0 0) av) q (startF (newF bu pe) m) := fun sv W1 av => ⟨sv, _, cal sv W1 av, by
    unfold effF
    rw [start_high b1]
    rfl⟩
  refine (do_sp W S N.B hW 1 0 q (fun Sf => ∃ sv W1 av, Sf = (S0.spored q z hi' lo sv bu pe W1).ans p (({ t with pc := (k : Int) + 1, r := t.r } : Th).ans 0 0) av) ?_ (.inl ⟨rfl, fun W hW => run_call W S N.B hW N.calm.P p t Rn y n (by rw [N.B]; exact hx) hpr k hpc ⟨7, 0, 0, 0, 9⟩ hi (fun Sf => ∃ sv W1 av, Sf = (S0.spored q z hi' lo sv bu pe W1).ans p (({ t with pc := (k : Int) + 1, r := t.r } : Th).ans 0 0) av) rfl hk ?_⟩)).mono ?_
  · rintro Sf ⟨sv, W1, av, rfl⟩
    exact ⟨by show S0.B = S.B; rw [B0, N.B], by show S0.lo.ln ≤ _; rw [hS0]; show S.lo.ln ≤ _; rw [N.ln]; exact hln, _, ok sv W1 av⟩
  · intro W hW
    have hW : KW W S0 := by rw [hS0]; exact hW
    have G : Calls Tryz.prog 78 #[.pointer (some ⟨B.kb, 0, none⟩), .pointer (some ⟨t.b, 0, none⟩), .int .i64 9] W fun e w' => ∃ Sf, e = .returned (.tuple #[]) ∧ (∃ sv W1 av, Sf = (S0.spored q z hi' lo sv bu pe W1).ans p (({ t with pc := (k : Int) + 1, r := t.r } : Th).ans 0 0) av) ∧ KW w' Sf ∧ Fr S0 Sf W w' := by
      refine (call_ret W S0 B0 hW C0.P p { t with pc := (k : Int) + 1, r := t.r } Rn.p16 ht0 9 216 0 false (fun S1 t1 => t1 = { t with pc := (k : Int) + 1, r := t.r } ∧ ∃ sv W1, S1 = S0.spored q z hi' lo sv bu pe W1) (enters_of Tryz.func216 (by kernel_rfl) rfl) rfl (fun W => points_no W 9 (by decide)) (fun h => by cases h) ?_ ?_).mono ?_
      · rintro S1 t1 ⟨rfl, sv, W1, rfl⟩
        refine ⟨rfl, ?_, rfl, by show S0.lo.an ≤ _; rw [hS0]; show S.lo.an ≤ _; rw [N.an]; exact han⟩
        show put (put S0.th q _) q _ p = _
        rw [put_ne _ _ (Ne.symm hpq), put_ne _ _ (Ne.symm hpq)]
        exact ht0
      · intro W1 hW1
        refine (callSporadic_c W1 S0 B0 hW1 C0.P p q { t with pc := (k : Int) + 1, r := t.r } z Rn.p16 ht0 hq hz0 hpq (by rw [show S0.T = x.T by rw [hS0]; exact N.T]; exact hf) hen hwk hi' lo bu pe h3 h4 h5 h7 l1 lh h31 b1 bp p1 NS p0 CPS).mono ?_
        rintro e w' ⟨sv, W2, rfl, k1, f1⟩
        exact ⟨_, _, rfl, ⟨rfl, sv, W2, rfl⟩, k1, f1⟩
      · rintro e w' ⟨S1, t1, av, rfl, ⟨rfl, sv, W1, rfl⟩, k1, f1⟩
        exact ⟨_, rfl, ⟨sv, W1, av, rfl⟩, k1, f1⟩
    rw [hS0] at G ⊢
    exact G
  · rintro e w' ⟨Sf, v, rfl, ⟨sv, W1, av, rfl⟩, k1, f1⟩
    refine ⟨((S0.spored q z hi' lo sv bu pe W1).ans p (({ t with pc := (k : Int) + 1, r := t.r } : Th).ans 0 0) av).ev v, rfl, ⟨sv, ⟨?_, ?_, ?_, ?_, ?_, ?_, ?_, ?_, ?_, ?_, (ok sv W1 av).same { (ok sv W1 av).P with } rfl rfl rfl, ?_, ?_⟩⟩, k1, f1⟩
    · exact B0
    · show S0.T = x.T; rw [hS0]; exact N.T
    · show S0.L.set q _ = x.L.set q _
      rw [show S0.L = x.L from L0]
      show x.L.set q ⟨(S0.L.getD q Hs.no).isIn, false, hi', S0.B.J.q⟩ = _
      rw [L0, B0]
    · show (S0.R.remF q).tailF hi' q = _; rw [R0]; rfl
    · show S0.st + 6 = x.st + 7; rw [st0]; omega
    · show put (put (put S0.th q _) q _) p _ = put (put x.th q _) p _
      rw [put_put]
      rw [show S0.th = put x.th p (some { t with pc := (k : Int) + 1, r := t.r }) by rw [hS0, ← N.th]; rfl, put_comm _ _ _ (Ne.symm hpq), put_put]
    · show S0.lo.ln + 1 = x.ln + 1; rw [hS0, ← N.ln]; rfl
    · show S0.lo.an + 1 = x.an + 1; rw [hS0, ← N.an]; rfl
    · show S0.lo.notes = x.notes; rw [hS0, ← N.notes]; rfl
    · exact mo0
    · show Quiet S0.W0; rw [hS0]; exact N.q0
    · show Quiet S0.W1; rw [hS0]; exact N.q1
end Go.Proofs.YtagmlijhgncklaaGreatDoor.Ker
