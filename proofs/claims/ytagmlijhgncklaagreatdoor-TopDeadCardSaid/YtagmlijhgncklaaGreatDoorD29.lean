/-
  Calls that make a thread, and that end one, over the translation of this seat. Conditions: the blocks that are named hold what is said.
-/
import Derived.Test.YtagmlijhgncklaaGreatDoorD28
import Derived.LaidEqlPtr
set_option linter.unusedVariables false
namespace Go.Proofs.YtagmlijhgncklaaGreatDoor.Ker
open Go.RowKit Go.Proofs.YtagmlijhgncklaaGreatDoor

set_option maxRecDepth 100000 in
theorem callExit_c (w : World) (S : KS) {B : KB} (hB : S.B = B) (h : KW w S) (P : KP S) (p p0 : Nat) (t : Th) (hp : p < 16) (ht : S.th p = some t) (hpol : t.pol ≠ 2) (hm : ∀ i, Tab.tk S.muT i = false) (hjn : t.jn = true) (hjr : t.jr < 0) (hun : t.can.un = false) (I : InSeq S p p0) :
    Calls Tryz.prog 209 #[.pointer (some ⟨B.kb, 0, none⟩), .pointer (some ⟨t.b, 0, none⟩)] w fun e w' => e = .panicked [{ v := .iface 326 (.agg #[]), recovered := false }] ∧ KW w' ((S.setTh p (t.unw (t.r 2))).unw p (t.unw (t.r 2))) ∧ Fr S ((S.setTh p (t.unw (t.r 2))).unw p (t.unw (t.r 2))) w w' := by
  subst hB
  have c6 := tc6 (h.getTh hp ht)
  have U := unwind_stays w S rfl h P p p0 t (t.r 2) hp ht hpol hm hjn hjr hun I
  clear h P ht hpol hm hjn hjr hun I
  go_enter Tryz.func209, Tryz.ntmps209
  go_wp2_with (go_at_call 73; refine U.mono ?_; rintro e w4 ⟨rfl, k4, f4⟩)
  exact ⟨rfl, rfl, k4, f4⟩
set_option maxRecDepth 100000 in
set_option maxHeartbeats 1000000 in
theorem callCreate_c (w : World) (S : KS) {B : KB} (hB : S.B = B) (h : KW w S) (P : KP S) (p : Nat) (t : Th) (hp : p < 16) (ht : S.th p = some t) (i pr : Nat) (g prog pol jn : Int) (hr2 : t.r 2 = prog) (hr3 : t.r 3 = pr) (hr4 : t.r 4 = pol) (hr5 : t.r 5 = jn)
    (hg0 : 0 ≤ prog) (hg1 : prog < S.B.J.PS.length) (hg2 : S.B.J.PS.length ≤ 32) (hpl : pol = 0 ∨ pol = 1) (hj : jn = 0 ∨ jn = 1) (hf : Tab.freeF S.T = some i) (hg : g = Tab.gn S.T i + 1) (hg9 : g ≤ 900) (hn : S.th i = none) (hat : Tab.atF (S.T.set i (true, g)) (i + 16 * g) = some i)
    (h1 : 1 ≤ pr) (h32 : pr < 32) (hin : (S.L.getD i Hs.no).isIn = false) (hz : S.R.pr.getD i 0 = 0) (hl : Lk (S.R.tl.getD pr 0)) (hs0 : 0 ≤ S.st) (hs1 : S.st ≤ 800000000) :
    Calls Tryz.prog 208 #[.pointer (some ⟨B.kb, 0, none⟩), .pointer (some ⟨t.b, 0, none⟩)] w fun e w' => ∃ b c, e = .returned (.int .i64 (i + 16 * g)) ∧ KW w' (S.made i pr g (Th.new b c (i + 16 * g) prog pr pol (decide (jn = 0)))) ∧ Fr S (S.made i pr g (Th.new b c (i + 16 * g) prog pr pol (decide (jn = 0)))) w w' := by
  subst hB
  have hT := h.getTh hp ht
  have c6 := tc6 hT
  have c7 := tc7 hT
  have c8 := tc8 hT
  have c9 := tc9 hT
  rw [hr2] at c6
  rw [hr3] at c7
  rw [hr4] at c8
  rw [hr5] at c9
  have PG := program_c w S rfl h prog hg0 hg1 hg2
  have hin' : i < S.B.n := by have q := (Tab.free_some hf).1; rw [P.T] at q; exact q
  have hin16 : i < 16 := by have := P.n16; omega
  have CR := create_c w.drew S rfl (h.keeps (Nat.le_refl _) (fun _ _ _ => rfl)) P i pr g prog pol (decide (jn = 0)) hf hg hg9 hn hat (by rcases hpl with e | e <;> omega) h1 h32 hin hz hl hs0 hs1
  have hpi : p ≠ i := by intro e; rw [e, hn] at ht; cases ht
  have hpn := P.thn p t ht
  have htm : ∀ b c, (S.made i pr g (Th.new b c (i + 16 * g) prog pr pol (decide (jn = 0)))).th p = some t := fun b c => (put_ne _ _ hpi).trans ht
  have hti : ∀ b c, (S.made i pr g (Th.new b c (i + 16 * g) prog pr pol (decide (jn = 0)))).th i = some (Th.new b c (i + 16 * g) prog pr pol (decide (jn = 0))) := fun b c => put_self _ _ _
  have hBm : ∀ b c, (S.made i pr g (Th.new b c (i + 16 * g) prog pr pol (decide (jn = 0)))).B = S.B := fun b c => rfl
  have HJN : ∀ x : Int, x = jn → (x == 0) = decide (jn = 0) := fun x hx => by subst hx; rfl
  have hJn := P.n
  have pl0 : 0 ≤ pol := by rcases hpl with e | e <;> omega
  have pl1 : pol ≤ 1 := by rcases hpl with e | e <;> omega
  have jn0 : 0 ≤ jn := by rcases hj with e | e <;> omega
  have jn1 : jn ≤ 1 := by rcases hj with e | e <;> omega
  have HF := Lib.hid (Fr.refl S w).drew
  have p32 : (1 : Int) ≤ pr := by omega
  have p31 : (pr : Int) ≤ 31 := by omega
  have HTM := Lib.hid htm
  have HTI := Lib.hid hti
  have HJ := Lib.hid hJn
  clear h P hT ht hf hg hg9 hn hat hpl hj hin hz hl hs0 hs1 htm hti hr2 hr3 hr4 hr5 hJn
  go_enter Tryz.func208, Tryz.ntmps208
  go_wp2_with (first
    | (go_at_call 348; refine PG.mono ?_; rintro e w' ⟨rfl, rfl⟩)
    | (go_at_call 349; refine (priority_c _ _ p32 p31).mono ?_; rintro e w' ⟨rfl, rfl⟩)
    | (go_at_call 350; refine (in_c _ _ _ _ (by first | exact pl0 | exact jn0) (by first | exact pl1 | exact jn1)).mono ?_; rintro e w' ⟨rfl, rfl⟩))
  refine still_tail 22 (by kernel_rfl) (by kernel_rfl) ?_
  simp only [List.take_succ_cons, List.take_zero, List.drop_succ_cons, List.drop_zero]
  repeat still_step
  refine wpStill_nil ?_
  go_wp2_with (first
    | (go_at_call 41; refine CR.mono ?_; rintro e w2 ⟨b, c, hbs, rfl, k2, f2⟩; have HK2 := Lib.hid k2; have HF2 := Lib.hid (HF.out.trans f2); clear k2 f2 CR)
    | (go_at_call 146; refine (must_c _ _).mono ?_; rintro e w' ⟨rfl, rfl⟩))
  obtain ⟨Sm, hSm⟩ : ∃ Sm, Sm = S.made i pr g (Th.new b c (i + 16 * g) prog pr pol (decide (jn = 0))) := ⟨_, rfl⟩
  rw [← hSm] at HK2 HF2
  have hBm' : Sm.B = S.B := by rw [hSm]; exact hBm b c
  have hTi := HK2.out.getTh hin16 (by rw [hSm]; exact HTI.out b c)
  have hTp := HK2.out.getTh hp (by rw [hSm]; exact HTM.out b c)
  have ci0 : w2.cell? ⟨b, 0, none⟩ = some (.int .i64 i) := tc0 hTi
  have cp0 : w2.cell? ⟨t.b, 0, none⟩ = some (.int .i64 p) := tc0 hTp
  have c30 := kc30 (B := S.B) HK2.out hBm'
  have sg := HK2.out.has 7 rfl
  rw [hBm'] at sg
  have MK := mask_c w2.drew S.B.sg S.B.mb p S.B.J.t S.B.J.s sg hp (by rw [HJ.out]; omega)
  have SM := setmask_c w2.drew S.B.sg S.B.mb i S.B.J.t S.B.J.s sg hin16 (by rw [HJ.out]; omega)
  have HS := Lib.hid hSm
  have HB2 := Lib.hid hBm'
  clear hTi hTp sg hSm hBm' c6 c7 c8 c9 PG
  go_region_held3 (fun W' => W'.cell? ⟨S.B.kb, 30, none⟩ = some (.pointer (some ⟨S.B.sg, 0, none⟩)) ∧ W'.cell? ⟨b, 0, none⟩ = some (.int .i64 i) ∧ W'.cell? ⟨t.b, 0, none⟩ = some (.int .i64 p)) (first | exact ⟨c30, ci0, cp0⟩ | exact ⟨by assumption, by assumption, by assumption⟩)
    (first
      | (go_at_call 50; refine MK.mono ?_; rintro e w' ⟨rfl, rfl⟩)
      | (go_at_call 141; refine SM.mono ?_; rintro e w3 ⟨rfl, u3⟩
         have q3 := (HK2.out.keeps (w' := w2.drew) (Nat.le_refl _) (fun _ _ _ => rfl)).same 7 (b := S.B.sg) (o := sgO S.B.J.t S.B.J.s S.B.mb) (by rw [← HB2.out]; rfl) u3
         have e0 := tc0 (q3.1.getTh hin16 (by rw [HS.out]; exact HTI.out b c))
         have e1 := tc0 (q3.1.getTh hp (by rw [HS.out]; exact HTM.out b c))
         have e2 := kc30 (B := S.B) q3.1 HB2.out))
  have c1 : w3.cell? ⟨b, 1, none⟩ = some (.int .i64 (i + 16 * g)) := tc1 (q3.1.getTh hin16 (by rw [HS.out]; exact HTI.out b c))
  have HQ := Lib.hid q3
  clear q3 u3 e0 e1 e2 ci0 cp0 c30 MK SM
  go_wp2_with fail
  go_ret
  exact ⟨b, c, rfl, by rw [← HS.out]; exact HQ.out.1, by rw [← HS.out]; exact HF2.out.drew.trans HQ.out.2⟩
theorem run_neq_ptr_other {P : Program} (w : World) {tp te : TypeId} {j : TypeInfo} {a b : Addr} {ca cb : Array Value} {ta tb : TypeId} (hp : P.underlying tp = some (.pointer te)) (hte : P.info? te = some j) (hsz : j.size ≠ 0)
    (hne : a ≠ b) (ha : w.heap[a.block]? = some (.cells ca ta (0, 0))) (hb : w.heap[b.block]? = some (.cells cb tb (0, 0))) :
    (binOp .neq tp (.pointer (some a)) (.pointer (some b))).run P w = .ok (.bool true) w := by
  have h : ∀ d : Nat, (Op.equalIn (d + 1) tp (.pointer (some a)) (.pointer (some b))).run P w = .ok false w := fun d => by
    simp [Op.equalIn, run_underlying hp, sizeOf, typeInfo, hte, hsz, run_sameAddr_other w hne ha hb]
  simp only [binOp]
  simp [Op.equal, Op.maxDepth, h 9999]
theorem info140 : ∃ j, Tryz.prog.info? 140 = some j ∧ j.size ≠ 0 := by
  have h : (Tryz.prog.info? 140).map (·.size) = some 33 := by kernel_rfl
  cases hj : Tryz.prog.info? 140 with
  | none => rw [hj] at h; cases h
  | some j =>
    rw [hj] at h
    have : j.size = 33 := Option.some.inj h
    exact ⟨j, rfl, by omega⟩
/-- Two threads are told apart. -/
theorem KW.two {w : World} {S : KS} (h : KW w S) {p q : Nat} {t x : Th} (hp : p < 16) (ht : S.th p = some t) (hq : q < 16) (hx : S.th q = some x) (hpq : q ≠ p) : (binOp .neq 71 (.pointer (some ⟨x.b, 0, none⟩)) (.pointer (some ⟨t.b, 0, none⟩))).run Tryz.prog w = .ok (.bool true) w := by
  obtain ⟨j, h1, h2⟩ := info140
  refine run_neq_ptr_other w Tryz.underlying71 h1 h2 ?_ (h.getTh hq hx) (h.getTh hp ht)
  intro e
  have hxb : x.b ≠ t.b := h.ne (obj_th hq hx) (obj_th hp ht) (by omega)
  exact hxb (congrArg Addr.block e)
set_option maxRecDepth 100000 in
theorem callJoin_c (w : World) (S : KS) {B : KB} (hB : S.B = B) (h : KW w S) (P : KP S) (p q : Nat) (t x : Th) (hp : p < 16) (ht : S.th p = some t) (hq : q < 16) (hx : S.th q = some x) (hpq : q ≠ p) (hf : Tab.atF S.T (t.r 2) = some q) (hxd : x.hd = t.r 2) (hjn : x.jn = true) (hjr : x.jr < 0) (hen : x.en = true) :
    Calls Tryz.prog 210 #[.pointer (some ⟨B.kb, 0, none⟩), .pointer (some ⟨t.b, 0, none⟩)] w fun e w' => e = .returned (.int .i64 x.val) ∧ KW w' (S.gone q) ∧ Fr S (S.gone q) w w' := by
  subst hB
  have c6 := tc6 (h.getTh hp ht)
  have A := any1_c w S rfl h P (t.r 2) q x hq hf hx
  have hxb : x.b ≠ t.b := h.ne (obj_th hq hx) (obj_th hp ht) (by omega)
  have GO := fun W (hW : KW W S) => gone_c W S rfl hW P q x hq hx (by rw [hxd]; exact hf)
  have TW := fun W (hW : KW W S) => hW.two hp ht hq hx hpq
  have CX := fun W (hW : KW W S) => And.intro (tc18 (hW.getTh hq hx)) (And.intro (tc19 (hW.getTh hq hx)) (tc20 (hW.getTh hq hx)))
  simp only [hjn, hen] at CX
  have d : decide (x.jr < 0) = true := by simpa using hjr
  have HK := Lib.hid h
  clear h P ht hf hjn hjr hen
  go_enter Tryz.func210, Tryz.ntmps210
  go_wp2_with (first
    | (go_at_call 351; refine A.mono ?_; rintro e w2 ⟨rfl, b2⟩; have k2 := HK.out.reads b2; obtain ⟨d18, d19, d20⟩ := CX w2 k2; have tw := TW w2 k2; have HB2 := Lib.hid b2; have HK2 := Lib.hid k2; clear b2 k2 A)
    | (go_at_call 146; refine (must_c _ _).mono ?_; rintro e w' ⟨rfl, rfl⟩)
    | (go_at_call 344; refine (GO _ HK2.out).mono ?_; rintro e w3 ⟨rfl, k3, f3, hX⟩; have e21 := tc21 hX; have HK3 := Lib.hid k3; have HF3 := Lib.hid f3; clear k3 f3 hX tw d18 d19 d20))
  refine bodyPost_ret (results_tmp rfl _ _ _) rfl ?_
  exact ⟨rfl, HK3.out, (Fr.reads S HB2.out).trans HF3.out⟩
end Go.Proofs.YtagmlijhgncklaaGreatDoor.Ker
