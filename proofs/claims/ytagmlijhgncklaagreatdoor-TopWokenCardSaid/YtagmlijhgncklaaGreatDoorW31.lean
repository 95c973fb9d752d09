/-
  Calls that make a thread, and that end one, over the translation of this seat. Conditions: the blocks that are named hold what is said.
  Who runs does one thing (run), over the translation of this seat. Conditions: the blocks that are named hold what is said.
  The kernel's Do of an event that runs, or that ticks, over the translation of this seat. Conditions: the blocks that are named hold what is said; what the event does is known.
  Who runs notes something, or goes on (run), over the translation of this seat. Conditions: the blocks that are named hold what is said.
  Who runs notes something, or goes on (run), over the translation of this seat. Conditions: the blocks that are named hold what is said.
  The kernel runs (run): a thread that is behind its program's last instruction comes to its end, over the translation of this seat. Conditions: the blocks that are named hold what is said.
-/
import Derived.Test.YtagmlijhgncklaaGreatDoorW30
import Derived.LaidEqlPtr
import Derived.Test.YtagmlijhgncklaaGreatDoorW22
set_option linter.unusedVariables false
namespace Go.Proofs.YtagmlijhgncklaaGreatDoor.Ker
open Go.RowKit Go.Proofs.YtagmlijhgncklaaGreatDoor

set_option maxRecDepth 100000 in
theorem callExit_c (w : World) (S : KS) {B : KB} (hB : S.B = B) (h : KW w S) (P : KP S) (p p0 : Nat) (t : Th) (hp : p < 16) (ht : S.th p = some t) (hpol : t.pol ≠ 2) (hm : ∀ i, Tab.tk S.muT i = false) (hjn : t.jn = true) (hjr : t.jr < 0) (hun : t.can.un = false) (I : InSeq S p p0) :
    Calls Tryz.prog 209 #[.pointer (some ⟨B.kb, 0, none⟩), .pointer (some ⟨t.b, 0, none⟩)] w fun e w' => e = .panicked [{ v := .iface 326 (.agg #[]), recovered := false }] ∧ KW w' ((S.setTh p (t.unw (t.r 2))).unw p (t.unw (t.r 2))) ∧ Fr S ((S.setTh p (t.unw (t.r 2))).unw p (t.unw (t.r 2))) w w' := by
  subst hB
  have c6 := tc6 (h.getTh hp ht)
  have U := unwind_stays w S rfl h P p p0 t (t.r 2) hp ht hpol hm hjn hjr hun I
  clear h P ht hpol hm hjn hjr hun I
  go_enter Tryz.func209, Tryz.ntmps209
  go_wp2_with (go_at_call 73; refine U.mono ?_; rintro e w4 ⟨rfl, k4, f4⟩)
  exact ⟨rfl, rfl, k4, f4⟩
set_option maxRecDepth 100000 in
set_option maxHeartbeats 1000000 in
theorem callCreate_c (w : World) (S : KS) {B : KB} (hB : S.B = B) (h : KW w S) (P : KP S) (p : Nat) (t : Th) (hp : p < 16) (ht : S.th p = some t) (i pr : Nat) (g prog pol jn : Int) (hr2 : t.r 2 = prog) (hr3 : t.r 3 = pr) (hr4 : t.r 4 = pol) (hr5 : t.r 5 = jn)
    (hg0 : 0 ≤ prog) (hg1 : prog < S.B.J.PS.length) (hg2 : S.B.J.PS.length ≤ 32) (hpl : pol = 0 ∨ pol = 1) (hj : jn = 0 ∨ jn = 1) (hf : Tab.freeF S.T = some i) (hg : g = Tab.gn S.T i + 1) (hg9 : g ≤ 900) (hn : S.th i = none) (hat : Tab.atF (S.T.set i (true, g)) (i + 16 * g) = some i)
    (h1 : 1 ≤ pr) (h32 : pr < 32) (hin : (S.L.getD i Hs.no).isIn = false) (hz : S.R.pr.getD i 0 = 0) (hl : Lk (S.R.tl.getD pr 0)) (hs0 : 0 ≤ S.st) (hs1 : S.st ≤ 800000000) :
    Calls Tryz.prog 208 #[.pointer (some ⟨B.kb, 0, none⟩), .pointer (some ⟨t.b, 0, none⟩)] w fun e w' => ∃ b c, e = .returned (.int .i64 (i + 16 * g)) ∧ KW w' (S.made i pr g (Th.new b c (i + 16 * g) prog pr pol (decide (jn = 0)))) ∧ Fr S (S.made i pr g (Th.new b c (i + 16 * g) prog pr pol (decide (jn = 0)))) w w' := by
  subst hB
  have hT := h.getTh hp ht
  have c6 := tc6 hT
  have c7 := tc7 hT
  have c8 := tc8 hT
  have c9 := tc9 hT
  rw [hr2] at c6
  rw [hr3] at c7
  rw [hr4] at c8
  rw [hr5] at c9
  have PG := program_c w S rfl h prog hg0 hg1 hg2
  have hin' : i < S.B.n := by have q := (Tab.free_some hf).1; rw [P.T] at q; exact q
  have hin16 : i < 16 := by have := P.n16; omega
  have CR := create_c w.drew S rfl (h.keeps (Nat.le_refl _) (fun _ _ _ => rfl)) P i pr g prog pol (decide (jn = 0)) hf hg hg9 hn hat (by rcases hpl with e | e <;> omega) h1 h32 hin hz hl hs0 hs1
  have hpi : p ≠ i := by intro e; rw [e, hn] at ht; cases ht
  have hpn := P.thn p t ht
  have htm : ∀ b c, (S.made i pr g (Th.new b c (i + 16 * g) prog pr pol (decide (jn = 0)))).th p = some t := fun b c => (put_ne _ _ hpi).trans ht
  have hti : ∀ b c, (S.made i pr g (Th.new b c (i + 16 * g) prog pr pol (decide (jn = 0)))).th i = some (Th.new b c (i + 16 * g) prog pr pol (decide (jn = 0))) := fun b c => put_self _ _ _
  have hBm : ∀ b c, (S.made i pr g (Th.new b c (i + 16 * g) prog pr pol (decide (jn = 0)))).B = S.B := fun b c => rfl
  have HJN : ∀ x : Int, x = jn → (x == 0) = decide (jn = 0) := fun x hx => by subst hx; rfl
  have hJn := P.n
  have pl0 : 0 ≤ pol := by rcases hpl with e | e <;> omega
  have pl1 : pol ≤ 1 := by rcases hpl with e | e <;> omega
  have jn0 : 0 ≤ jn := by rcases hj with e | e <;> omega
  have jn1 : jn ≤ 1 := by rcases hj with e | e <;> omega
  have HF := Lib.hid (Fr.refl S w).drew
  have p32 : (1 : Int) ≤ pr := by omega
  have p31 : (pr : Int) ≤ 31 := by omega
  have HTM := Lib.hid htm
  have HTI := Lib.hid hti
  have HJ := Lib.hid hJn
  clear h P hT ht hf hg hg9 hn hat hpl hj hin hz hl hs0 hs1 htm hti hr2 hr3 hr4 hr5 hJn
  go_enter Tryz.func208, Tryz.ntmps208
  go_wp2_with (first
    | (go_at_call 348; refine PG.mono ?_; rintro e w' ⟨rfl, rfl⟩)
    | (go_at_call 349; refine (priority_c _ _ p32 p31).mono ?_; rintro e w' ⟨rfl, rfl⟩)
    | (go_at_call 350; refine (in_c _ _ _ _ (by first | exact pl0 | exact jn0) (by first | exact pl1 | exact jn1)).mono ?_; rintro e w' ⟨rfl, rfl⟩))
  refine still_tail 22 (by kernel_rfl) (by kernel_rfl) ?_
  simp only [List.take_succ_cons, List.take_zero, List.drop_succ_cons, List.drop_zero]
  repeat still_step
  refine wpStill_nil ?_
  go_wp2_with (first
    | (go_at_call 41; refine CR.mono ?_; rintro e w2 ⟨b, c, hbs, rfl, k2, f2⟩; have HK2 := Lib.hid k2; have HF2 := Lib.hid (HF.out.trans f2); clear k2 f2 CR)
    | (go_at_call 146; refine (must_c _ _).mono ?_; rintro e w' ⟨rfl, rfl⟩))
  obtain ⟨Sm, hSm⟩ : ∃ Sm, Sm = S.made i pr g (Th.new b c (i + 16 * g) prog pr pol (decide (jn = 0))) := ⟨_, rfl⟩
  rw [← hSm] at HK2 HF2
  have hBm' : Sm.B = S.B := by rw [hSm]; exact hBm b c
  have hTi := HK2.out.getTh hin16 (by rw [hSm]; exact HTI.out b c)
  have hTp := HK2.out.getTh hp (by rw [hSm]; exact HTM.out b c)
  have ci0 : w2.cell? ⟨b, 0, none⟩ = some (.int .i64 i) := tc0 hTi
  have cp0 : w2.cell? ⟨t.b, 0, none⟩ = some (.int .i64 p) := tc0 hTp
  have c30 := kc30 (B := S.B) HK2.out hBm'
  have sg := HK2.out.has 7 rfl
  rw [hBm'] at sg
  have MK := mask_c w2.drew S.B.sg S.B.mb p S.B.J.t S.B.J.s sg hp (by rw [HJ.out]; omega)
  have SM := setmask_c w2.drew S.B.sg S.B.mb i S.B.J.t S.B.J.s sg hin16 (by rw [HJ.out]; omega)
  have HS := Lib.hid hSm
  have HB2 := Lib.hid hBm'
  clear hTi hTp sg hSm hBm' c6 c7 c8 c9 PG
  go_region_held3 (fun W' => W'.cell? ⟨S.B.kb, 30, none⟩ = some (.pointer (some ⟨S.B.sg, 0, none⟩)) ∧ W'.cell? ⟨b, 0, none⟩ = some (.int .i64 i) ∧ W'.cell? ⟨t.b, 0, none⟩ = some (.int .i64 p)) (first | exact ⟨c30, ci0, cp0⟩ | exact ⟨by assumption, by assumption, by assumption⟩)
    (first
      | (go_at_call 50; refine MK.mono ?_; rintro e w' ⟨rfl, rfl⟩)
      | (go_at_call 141; refine SM.mono ?_; rintro e w3 ⟨rfl, u3⟩
         have q3 := (HK2.out.keeps (w' := w2.drew) (Nat.le_refl _) (fun _ _ _ => rfl)).same 7 (b := S.B.sg) (o := sgO S.B.J.t S.B.J.s S.B.mb) (by rw [← HB2.out]; rfl) u3
         have e0 := tc0 (q3.1.getTh hin16 (by rw [HS.out]; exact HTI.out b c))
         have e1 := tc0 (q3.1.getTh hp (by rw [HS.out]; exact HTM.out b c))
         have e2 := kc30 (B := S.B) q3.1 HB2.out))
  have c1 : w3.cell? ⟨b, 1, none⟩ = some (.int .i64 (i + 16 * g)) := tc1 (q3.1.getTh hin16 (by rw [HS.out]; exact HTI.out b c))
  have HQ := Lib.hid q3
  clear q3 u3 e0 e1 e2 ci0 cp0 c30 MK SM
  go_wp2_with fail
  go_ret
  exact ⟨b, c, rfl, by rw [← HS.out]; exact HQ.out.1, by rw [← HS.out]; exact HF2.out.drew.trans HQ.out.2⟩
theorem run_neq_ptr_other {P : Program} (w : World) {tp te : TypeId} {j : TypeInfo} {a b : Addr} {ca cb : Array Value} {ta tb : TypeId} (hp : P.underlying tp = some (.pointer te)) (hte : P.info? te = some j) (hsz : j.size ≠ 0)
    (hne : a ≠ b) (ha : w.heap[a.block]? = some (.cells ca ta (0, 0))) (hb : w.heap[b.block]? = some (.cells cb tb (0, 0))) :
    (binOp .neq tp (.pointer (some a)) (.pointer (some b))).run P w = .ok (.bool true) w := by
  have h : ∀ d : Nat, (Op.equalIn (d + 1) tp (.pointer (some a)) (.pointer (some b))).run P w = .ok false w := fun d => by
    simp [Op.equalIn, run_underlying hp, sizeOf, typeInfo, hte, hsz, run_sameAddr_other w hne ha hb]
  simp only [binOp]
  simp [Op.equal, Op.maxDepth, h 9999]
theorem info140 : ∃ j, Tryz.prog.info? 140 = some j ∧ j.size ≠ 0 := by
  have h : (Tryz.prog.info? 140).map (·.size) = some 33 := by kernel_rfl
  cases hj : Tryz.prog.info? 140 with
  | none => rw [hj] at h; cases h
  | some j =>
    rw [hj] at h
    have : j.size = 33 := Option.some.inj h
    exact ⟨j, rfl, by omega⟩
/-- Two threads are told apart. -/
theorem KW.two {w : World} {S : KS} (h : KW w S) {p q : Nat} {t x : Th} (hp : p < 16) (ht : S.th p = some t) (hq : q < 16) (hx : S.th q = some x) (hpq : q ≠ p) : (binOp .neq 71 (.pointer (some ⟨x.b, 0, none⟩)) (.pointer (some ⟨t.b, 0, none⟩))).run Tryz.prog w = .ok (.bool true) w := by
  obtain ⟨j, h1, h2⟩ := info140
  refine run_neq_ptr_other w Tryz.underlying71 h1 h2 ?_ (h.getTh hq hx) (h.getTh hp ht)
  intro e
  have hxb : x.b ≠ t.b := h.ne (obj_th hq hx) (obj_th hp ht) (by omega)
  exact hxb (congrArg Addr.block e)
set_option maxRecDepth 100000 in
theorem callJoin_c (w : World) (S : KS) {B : KB} (hB : S.B = B) (h : KW w S) (P : KP S) (p q : Nat) (t x : Th) (hp : p < 16) (ht : S.th p = some t) (hq : q < 16) (hx : S.th q = some x) (hpq : q ≠ p) (hf : Tab.atF S.T (t.r 2) = some q) (hxd : x.hd = t.r 2) (hjn : x.jn = true) (hjr : x.jr < 0) (hen : x.en = true) :
    Calls Tryz.prog 210 #[.pointer (some ⟨B.kb, 0, none⟩), .pointer (some ⟨t.b, 0, none⟩)] w fun e w' => e = .returned (.int .i64 x.val) ∧ KW w' (S.gone q) ∧ Fr S (S.gone q) w w' := by
  subst hB
  have c6 := tc6 (h.getTh hp ht)
  have A := any1_c w S rfl h P (t.r 2) q x hq hf hx
  have hxb : x.b ≠ t.b := h.ne (obj_th hq hx) (obj_th hp ht) (by omega)
  have GO := fun W (hW : KW W S) => gone_c W S rfl hW P q x hq hx (by rw [hxd]; exact hf)
  have TW := fun W (hW : KW W S) => hW.two hp ht hq hx hpq
  have CX := fun W (hW : KW W S) => And.intro (tc18 (hW.getTh hq hx)) (And.intro (tc19 (hW.getTh hq hx)) (tc20 (hW.getTh hq hx)))
  simp only [hjn, hen] at CX
  have d : decide (x.jr < 0) = true := by simpa using hjr
  have HK := Lib.hid h
  clear h P ht hf hjn hjr hen
  go_enter Tryz.func210, Tryz.ntmps210
  go_wp2_with (first
    | (go_at_call 351; refine A.mono ?_; rintro e w2 ⟨rfl, b2⟩; have k2 := HK.out.reads b2; obtain ⟨d18, d19, d20⟩ := CX w2 k2; have tw := TW w2 k2; have HB2 := Lib.hid b2; have HK2 := Lib.hid k2; clear b2 k2 A)
    | (go_at_call 146; refine (must_c _ _).mono ?_; rintro e w' ⟨rfl, rfl⟩)
    | (go_at_call 344; refine (GO _ HK2.out).mono ?_; rintro e w3 ⟨rfl, k3, f3, hX⟩; have e21 := tc21 hX; have HK3 := Lib.hid k3; have HF3 := Lib.hid f3; clear k3 f3 hX tw d18 d19 d20))
  refine bodyPost_ret (results_tmp rfl _ _ _) rfl ?_
  exact ⟨rfl, HK3.out, (Fr.reads S HB2.out).trans HF3.out⟩
end Go.Proofs.YtagmlijhgncklaaGreatDoor.Ker
namespace Go.Proofs.YtagmlijhgncklaaGreatDoor.Ker
open Go.RowKit Go.Proofs.YtagmlijhgncklaaGreatDoor

theorem run_nobody (w : World) (S : KS) {B : KB} (hB : S.B = B) (h : KW w S) (P : KP S) (hs : S.R.sm = 0) : Calls Tryz.prog 44 #[.pointer (some ⟨B.kb, 0, none⟩)] w fun e w' => e = .returned (.tuple #[]) ∧ w = w' := by
  subst hB
  have c26 := kc26 h rfl
  have A := turns_nobody w S.B.tb S.B.rb S.B.J.q S.L S.R S.st (h.tn P.L P.R) hs
  clear h P hs
  go_enter Tryz.func44, Tryz.ntmps44
  go_wp2_with (go_at_call 48; refine A.mono ?_; rintro e w' ⟨rfl, rfl⟩)
  exact bodyPost_ret (results_none rfl _ _ _) rfl ⟨rfl, rfl⟩
/-- Thread p runs. -/
structure Running (S : KS) (p : Nat) (t : Th) : Prop where
  p16 : p < 16
  pn : p < S.B.n
  th : S.th p = some t
  first : S.R.firstF = p
  b1 : 1 ≤ Lib.bitLen S.R.sm
  b2 : Lib.bitLen S.R.sm ≤ 32
  sm : S.R.sm ≠ 0
  s0 : 0 ≤ S.st
  s1 : S.st ≤ 500000000
  ak : t.can.ak = false
/-- Where the instruction lies. -/
structure At9 (w W : World) (S S1 : KS) (z : Nat) (i : Code.Ins) : Prop where
  k : KW W S1
  f : Fr S S1 w W
  z : Out W S1 z (.cells #[.int .i64 i.op, .int .i64 i.d, .int .i64 i.a, .int .i64 i.b, .int .i64 i.imm] 29 (0, 0))
theorem at9_new {w w2 w3 : World} {S S1 : KS} {i : Code.Ins} (k3 : KW w3 S1) (f2 : Fr S S1 w w2) (b3 : Below w2.heap.size w2.drew w3) : At9 w (w3.alloc (.cells #[.int .i64 i.op, .int .i64 i.d, .int .i64 i.a, .int .i64 i.b, .int .i64 i.imm] 29)) S S1 w3.heap.size i :=
  ⟨k3.reads ((Below.refl _ _).alloc (Nat.le_refl _) _), (f2.trans (Fr.reads S1 (below_undrew b3))).trans (Fr.reads S1 ((Below.refl _ _).alloc (Nat.le_refl _) _)), heap_alloc_new _ _, k3.fresh _ (Nat.le_refl _)⟩
theorem at9_old {w w2 w3 : World} {S S1 : KS} {i : Code.Ins} {o : Obj} (k2 : KW w2 S1) (k3 : KW w3 S1) (f2 : Fr S S1 w w2) (b3 : Below (w2.alloc o).heap.size (w2.alloc o).drew w3) (x6 : w3.heap[w2.heap.size]? = some (.cells #[.int .i64 0, .int .i64 0, .int .i64 0, .int .i64 0, .int .i64 0] 29 (0, 0))) :
    At9 w (((((w3.setCell ⟨w2.heap.size, 0, none⟩ (.int .i64 i.op)).setCell ⟨w2.heap.size, 1, none⟩ (.int .i64 i.d)).setCell ⟨w2.heap.size, 2, none⟩ (.int .i64 i.a)).setCell ⟨w2.heap.size, 3, none⟩ (.int .i64 i.b)).setCell ⟨w2.heap.size, 4, none⟩ (.int .i64 i.imm)) S S1 w2.heap.size i := by
  have lb : S1.lo.lab w2.heap.size = 0 := k2.fresh _ (Nat.le_refl _)
  have hs := f2.size
  have B2 : Below w2.heap.size w2 w3 := ((Below.refl w2.heap.size w2).alloc (Nat.le_refl _) o).trans ((below_undrew b3).mono (by simp))
  have U := ((((((Upd.refl x6).setCell 0 (.int .i64 i.op)).setCell 1 (.int .i64 i.d)).setCell 2 (.int .i64 i.a)).setCell 3 (.int .i64 i.b)).setCell 4 (.int .i64 i.imm))
  exact ⟨((((k3.outside lb).outside lb).outside lb).outside lb).outside lb, (((((f2.trans (Fr.reads S1 B2)).outside hs).outside hs).outside hs).outside hs).outside hs, by simpa using U.1, lb⟩
set_option maxRecDepth 100000 in
set_option maxHeartbeats 2000000 in
theorem run_call (w : World) (S : KS) {B : KB} (hB : S.B = B) (h : KW w S) (P : KP S) (p : Nat) (t : Th) (Rn : Running S p t) (x : Code.Prg) (n : Nat) (hx : S.B.J.PS[n]? = some x) (hpr : t.prog = n) (k : Nat) (hpc : t.pc = k) (i : Code.Ins) (hi : x.L[k]? = some i)
    (Q : KS → Prop) (hop : i.op = 7) (hk : k ≤ 1000) (A : ∀ W, KW W ({ S with st := S.st + 1, th := put S.th p (some { t with pc := (k : Int) + 1 }) } : KS) → Calls Tryz.prog 78 #[.pointer (some ⟨B.kb, 0, none⟩), .pointer (some ⟨t.b, 0, none⟩), .int .i64 i.imm] W fun e w' => ∃ Sf, e = .returned (.tuple #[]) ∧ Q Sf ∧ KW w' Sf ∧ Fr { S with st := S.st + 1, th := put S.th p (some { t with pc := (k : Int) + 1 }) } Sf W w') :
    Calls Tryz.prog 44 #[.pointer (some ⟨B.kb, 0, none⟩)] w fun e w' => ∃ Sf, e = .returned (.tuple #[]) ∧ Q Sf ∧ KW w' Sf ∧ Fr S Sf w w' := by
  subst hB
  have hp := Rn.p16
  have c26 := kc26 h rfl
  have AR := turns_runs w S.B.tb S.B.rb S.B.J.q S.L S.R S.st (h.tn P.L P.R) Rn.b1 Rn.b2 Rn.sm Rn.s0 (by have := Rn.s1; omega)
  rw [Rn.first] at AR
  obtain ⟨S1, hS1⟩ : ∃ S1 : KS, S1 = { S with st := S.st + 1 } := ⟨_, rfl⟩
  have A : ∀ W, KW W { S1 with th := put S1.th p (some { t with pc := (k : Int) + 1 }) } → Calls Tryz.prog 78 #[.pointer (some ⟨S.B.kb, 0, none⟩), .pointer (some ⟨t.b, 0, none⟩), .int .i64 i.imm] W fun e w' => ∃ Sf, e = .returned (.tuple #[]) ∧ Q Sf ∧ KW w' Sf ∧ Fr { S1 with th := put S1.th p (some { t with pc := (k : Int) + 1 }) } Sf W w' := by rw [hS1]; exact A
  have HPC := Lib.hid hpc
  have hB1 : S1.B = S.B := by rw [hS1]
  have ht1 : S1.th p = some t := by rw [hS1]; exact Rn.th
  have K1 : ∀ W, Upd w S.B.rb (rdO S.R (S.st + 1)) W → KW W S1 ∧ Fr S S1 w W := fun W u => by rw [hS1]; exact h.rdy u
  have P1 : KP S1 := by rw [hS1]; exact { P with }
  have tp1 : S1.tp p = some ⟨t.b, 0, none⟩ := by rw [P1.tp p hp, ht1]; rfl
  have ACT : ∀ W, KW W S1 → Calls Tryz.prog 72 #[.pointer (some ⟨t.c, 0, none⟩), .bool false] W fun e w' => e = .returned (.bool false) ∧ W = w' := fun W hW => by
    have q := Can.acts_c W t.c t.can false (hW.getCan hp ht1) (by rw [P1.can p t ht1]; decide)
    rw [show Can.actsF t.can false = false by simp [Can.actsF, Rn.ak]] at q
    exact q
  have OP : ∀ W, KW W S1 → Calls Tryz.prog 74 #[.pointer (some ⟨S.B.kb, 0, none⟩), .pointer (some ⟨t.b, 0, none⟩)] W fun e w' => e = .returned (.int .u32 0) ∧ Below W.heap.size W w' := fun W hW => open_c W S1 hB1 hW P1 p t hp (by rw [hB1]; exact Rn.pn) ht1
  have AT : ∀ W, KW W S1 → Calls Tryz.prog 76 #[.slice (some ⟨x.p, 0, none⟩) x.L.length x.cap, .int .i64 k] W fun e w' => e = .returned (.agg #[.int .i64 i.op, .int .i64 i.d, .int .i64 i.a, .int .i64 i.b, .int .i64 i.imm]) ∧ Below W.heap.size W w' := fun W hW => Code.at_some W x.p x.L x.cap ((hW.pgs P1).2 x (List.mem_of_getElem? (by rw [hB1]; exact hx))) k i hi
  have PC : ∀ W, KW W S1 → W.cell? ⟨S.B.J.b, n, none⟩ = some (.slice (some ⟨x.p, 0, none⟩) x.L.length x.cap) := fun W hW => by
    have q := (hW.pgs P1).cell n x (by rw [hB1]; exact hx)
    rw [hB1] at q
    exact q
  have TC : ∀ W, KW W S1 → W.cell? ⟨t.b, 2, none⟩ = some (.int .i64 n) ∧ W.cell? ⟨t.b, 3, none⟩ = some (.int .i64 k) := fun W hW => by
    have hT := hW.getTh hp ht1
    exact ⟨by rw [← hpr]; exact tc2 hT, by rw [← hpc]; exact tc3 hT⟩
  have hn : n < S.B.J.PS.length := (List.getElem?_eq_some_iff.1 hx).1
  have i0 : (0 : Int) ≤ p := by omega
  have i1 : (p : Int) < 16 := by omega
  have n0 : (0 : Int) ≤ n := by omega
  have n1 : (n : Int) < (S.B.J.PS.length : Int) := by omega
  have HB1 := Lib.hid hB1
  have HT1 := Lib.hid ht1
  have HTP := Lib.hid tp1
  have HOP := Lib.hid hop
  clear h P Rn hS1 hB1 ht1 P1 tp1 hx hpr hpc hi hn hop
  go_enter Tryz.func44, Tryz.ntmps44
  go_upto_region 8 with (first
    | (go_at_call 48; refine AR.mono ?_; rintro e w1 ⟨rfl, _, u1⟩; obtain ⟨k1, f1⟩ := K1 w1 u1
       have ct := k1.tpc hp
       rw [HB1.out, HTP.out] at ct
       have c32 := tc32 (k1.getTh hp HT1.out)
       have HK1 := Lib.hid k1; have HF1 := Lib.hid f1; clear u1 k1 f1 AR K1)
    | (go_at_call 72; refine (ACT _ HK1.out).mono ?_; rintro e w' ⟨rfl, rfl⟩)
    | (go_at_call 74; refine (OP _ HK1.out).mono ?_; rintro e w2 ⟨rfl, b2⟩; have HK2 := Lib.hid (HK1.out.reads b2); have HF2 := Lib.hid (HF1.out.trans (Fr.reads _ b2)); clear b2))
  have HK2d := Lib.hid (HK2.out.keeps (w' := w2.drew) (Nat.le_refl _) (fun _ _ _ => rfl))
  have HKA : RowKit.Hid (∀ o, KW (w2.alloc o).drew S1) := Lib.hid (fun o => (HK2.out.reads ((Below.refl w2.heap.size w2).alloc (Nat.le_refl _) o)).keeps (w' := (w2.alloc o).drew) (Nat.le_refl _) (fun _ _ _ => rfl))
  have HC : ∀ W, KW W S1 → W.cell? ⟨S.B.kb, 6, none⟩ = some (.slice (some ⟨S.B.J.b, 0, none⟩) S.B.J.PS.length S.B.J.cap) ∧ W.cell? ⟨S.B.J.b, n, none⟩ = some (.slice (some ⟨x.p, 0, none⟩) x.L.length x.cap) ∧ W.cell? ⟨t.b, 2, none⟩ = some (.int .i64 n) ∧ W.cell? ⟨t.b, 3, none⟩ = some (.int .i64 k) := fun W hW => ⟨kc6 (B := S.B) hW HB1.out, PC W hW, TC W hW⟩
  have hC0 := HC _ HK2d.out
  have hCA := fun o => HC _ (HKA.out o)
  go_region_held3 (fun W' => W'.cell? ⟨S.B.kb, 6, none⟩ = some (.slice (some ⟨S.B.J.b, 0, none⟩) S.B.J.PS.length S.B.J.cap) ∧ W'.cell? ⟨S.B.J.b, n, none⟩ = some (.slice (some ⟨x.p, 0, none⟩) x.L.length x.cap) ∧ W'.cell? ⟨t.b, 2, none⟩ = some (.int .i64 n) ∧ W'.cell? ⟨t.b, 3, none⟩ = some (.int .i64 k))
    (first | (with_reducible exact hC0) | (with_reducible exact hCA _) | (with_reducible exact hC3) | (with_reducible exact hCA3 _) | (with_reducible assumption))
    (first
      | (go_at_call 76; refine (AT _ HK2d.out).mono ?_; rintro e w3 ⟨rfl, b3⟩; have k3 := HK2d.out.reads b3; have hC3 := HC _ k3; have hCA3 := fun o => HC _ (k3.reads ((Below.refl w3.heap.size w3).alloc (Nat.le_refl _) o)))
      | (go_at_call 76; refine (AT _ (HKA.out _)).mono ?_; rintro e w3 ⟨rfl, b3⟩; have k3 := (HKA.out _).reads b3
         have x6 : w3.heap[w2.heap.size]? = some (.cells #[.int .i64 0, .int .i64 0, .int .i64 0, .int .i64 0, .int .i64 0] 29 (0, 0)) := below_has b3 (heap_alloc_new w2 _)
         have y0 : w3.cell? ⟨w2.heap.size, 0, none⟩ = some (.int .i64 0) := has_cell 0 x6 rfl
         have y1 : w3.cell? ⟨w2.heap.size, 1, none⟩ = some (.int .i64 0) := has_cell 1 x6 rfl
         have y2 : w3.cell? ⟨w2.heap.size, 2, none⟩ = some (.int .i64 0) := has_cell 2 x6 rfl
         have y3 : w3.cell? ⟨w2.heap.size, 3, none⟩ = some (.int .i64 0) := has_cell 3 x6 rfl
         have y4 : w3.cell? ⟨w2.heap.size, 4, none⟩ = some (.int .i64 0) := has_cell 4 x6 rfl
         have yf := has_free x6
         have hC3 := HC _ k3
         have lb : S1.lo.lab w2.heap.size = 0 := HK2.out.fresh _ (Nat.le_refl _)
         have ks := ((((k3.outside (i := 0) (v := .int .i64 i.op) lb).outside (i := 1) (v := .int .i64 i.d) lb).outside (i := 2) (v := .int .i64 i.a) lb).outside (i := 3) (v := .int .i64 i.b) lb).outside (i := 4) (v := .int .i64 i.imm) lb
         have hC5 := HC _ ks))
  all_goals go_upto_region 9 with fail
  · have Q9 := at9_new (i := i) k3 HF2.out b3
    obtain ⟨z, hz⟩ : ∃ z, z = w3.heap.size := ⟨_, rfl⟩
    rw [← hz] at Q9 ⊢
    refine world_wp (fun W => At9 w W S S1 z i) Q9 ?_
    clear Q9 hz k3 b3 hC3 hCA3 hC0 hCA HC PC TC AT OP ACT HKA HK2d HK2 HF2 HK1 HF1
    rintro W Q9
    have c0 : W.cell? ⟨z, 0, none⟩ = some (.int .i64 i.op) := has_cell 0 Q9.z.1 rfl
    rw [HOP.out] at c0
    have hT := Q9.k.getTh hp HT1.out
    have c3 : W.cell? ⟨t.b, 3, none⟩ = some (.int .i64 k) := by rw [← HPC.out]; exact tc3 hT
    have fz := has_free hT
    have q2 := Q9.k.thr (t' := { t with pc := (k : Int) + 1 }) hp HT1.out (((Upd.refl hT).setCell 3 (.int .i64 ((k : Int) + 1))).to (by simp only [thO]; congr 1)) rfl rfl rfl
    have z2 := Q9.z.fr q2.2
    have c4 : (W.setCell ⟨t.b, 3, none⟩ (.int .i64 ((k : Int) + 1))).cell? ⟨z, 4, none⟩ = some (.int .i64 i.imm) := has_cell 4 z2.1 rfl
    have H9 := Lib.hid (And.intro q2.1 (Q9.f.trans q2.2))
    have kk : (k : Int) ≤ 1000 := by omega
    clear Q9 q2 z2 hT
    go_wp2_with (go_at_call 78; refine (A _ H9.out.1).mono ?_; rintro e w5 ⟨Sf, rfl, q, k5, f5⟩)
    exact bodyPost_end (results_none rfl _ _ _) rfl ⟨Sf, rfl, q, k5, H9.out.2.trans f5⟩
  · have Q9 := at9_old (i := i) HK2.out k3 HF2.out b3 x6
    obtain ⟨z, hz⟩ : ∃ z, z = w2.heap.size := ⟨_, rfl⟩
    rw [← hz] at Q9 ⊢
    refine world_wp (fun W => At9 w W S S1 z i) Q9 ?_
    clear Q9 hz hC5 ks lb hC3 yf y4 y3 y2 y1 y0 x6 k3 b3 hC0 hCA HC PC TC AT OP ACT HKA HK2d HK2 HF2 HK1 HF1
    rintro W Q9
    have c0 : W.cell? ⟨z, 0, none⟩ = some (.int .i64 i.op) := has_cell 0 Q9.z.1 rfl
    rw [HOP.out] at c0
    have hT := Q9.k.getTh hp HT1.out
    have c3 : W.cell? ⟨t.b, 3, none⟩ = some (.int .i64 k) := by rw [← HPC.out]; exact tc3 hT
    have fz := has_free hT
    have q2 := Q9.k.thr (t' := { t with pc := (k : Int) + 1 }) hp HT1.out (((Upd.refl hT).setCell 3 (.int .i64 ((k : Int) + 1))).to (by simp only [thO]; congr 1)) rfl rfl rfl
    have z2 := Q9.z.fr q2.2
    have c4 : (W.setCell ⟨t.b, 3, none⟩ (.int .i64 ((k : Int) + 1))).cell? ⟨z, 4, none⟩ = some (.int .i64 i.imm) := has_cell 4 z2.1 rfl
    have H9 := Lib.hid (And.intro q2.1 (Q9.f.trans q2.2))
    have kk : (k : Int) ≤ 1000 := by omega
    clear Q9 q2 z2 hT
    go_wp2_with (go_at_call 78; refine (A _ H9.out.1).mono ?_; rintro e w5 ⟨Sf, rfl, q, k5, f5⟩)
    exact bodyPost_end (results_none rfl _ _ _) rfl ⟨Sf, rfl, q, k5, H9.out.2.trans f5⟩
end Go.Proofs.YtagmlijhgncklaaGreatDoor.Ker
namespace Go.Proofs.YtagmlijhgncklaaGreatDoor.Ker
open Go.RowKit Go.Proofs.YtagmlijhgncklaaGreatDoor

theorem info43 : (Tryz.prog.info? 43).map (fun i => (i.zero, i.size, i.bytes)) = some (some (.agg #[.int .i64 0, .int .i64 0]), 2, 16) := by kernel_rfl
/-- A kernel in which nothing is inherited: each thread's effective priority is its base. -/
structure Calm (S : KS) : Prop where
  P : KP S
  pol : ∀ p t, S.th p = some t → t.pol ≠ 2
  kd : ∀ p t, S.th p = some t → t.wt.kind ≠ 2
  ba : ∀ p t, p < 16 → S.th p = some t → t.en = false → 0 ≤ t.base ∧ t.base ≤ 31 ∧ t.base = t.eff
  mu : ∀ i, Tab.tk S.muT i = false
theorem Calm.settle {S : KS} (C : Calm S) (w : World) {B : KB} (hB : S.B = B) (h : KW w S) : Calls Tryz.prog 42 #[.pointer (some ⟨B.kb, 0, none⟩)] w fun e w' => e = .returned (.tuple #[]) ∧ Below w.heap.size w w' := by
  have b : ∀ p t, S.th p = some t → S.baseF p = t.base := fun p t ht => by simp [KS.baseF, ht]
  exact settle_c w S hB h C.P S.baseF (prioOk_base C.pol) (fun p t hp ht he => by rw [b p t ht]; exact ⟨(C.ba p t hp ht he).1, (C.ba p t hp ht he).2.1⟩) C.kd C.mu (fun p t hp ht he => by rw [b p t ht]; exact (C.ba p t hp ht he).2.2)
/-- One more event is kept. -/
def KS.ev (S : KS) (v : Value) : KS := { S with lo := { S.lo with lv := v, ln := S.lo.ln + 1, lab := relab S.lo.lab v 2 } }
set_option maxRecDepth 100000 in
theorem do_c (w : World) (S : KS) {B : KB} (hB : S.B = B) (h : KW w S) (kind n : Int) (Q : KS → Prop) (HQ : ∀ Sf, Q Sf → Sf.B = S.B ∧ Calm Sf ∧ Sf.lo.ln ≤ 100000)
    (hA : (kind = 1 ∧ ∀ W, KW W S → Calls Tryz.prog 44 #[.pointer (some ⟨B.kb, 0, none⟩)] W fun e w' => ∃ Sf, e = .returned (.tuple #[]) ∧ Q Sf ∧ KW w' Sf ∧ Fr S Sf W w')
      ∨ (kind = 2 ∧ ∀ W, KW W S → Calls Tryz.prog 45 #[.pointer (some ⟨B.kb, 0, none⟩)] W fun e w' => ∃ Sf, e = .returned (.tuple #[]) ∧ Q Sf ∧ KW w' Sf ∧ Fr S Sf W w')) :
    Calls Tryz.prog 13 #[.pointer (some ⟨B.kb, 0, none⟩), .agg #[.int .i64 kind, .int .i64 n]] w fun e w' => ∃ Sf v, e = .returned (.int .i64 0) ∧ Q Sf ∧ KW w' (Sf.ev v) ∧ Fr S (Sf.ev v) w w' := by
  subst hB
  obtain ⟨w0, hw0⟩ : ∃ w0, w0 = w.alloc (.cells #[.int .i64 kind, .int .i64 n] 43) := ⟨_, rfl⟩
  have b0 : Below w.heap.size w w0 := by rw [hw0]; exact (Below.refl _ _).alloc (Nat.le_refl _) _
  have k0 := h.reads b0
  have x0 : Out w0 S w.heap.size (.cells #[.int .i64 kind, .int .i64 n] 43 (0, 0)) := by
    rw [hw0]
    exact ⟨heap_alloc_new w _, h.fresh _ (Nat.le_refl _)⟩
  have f0 := Fr.reads S b0
  have T := there_c w0 S rfl k0
  have HW := Lib.hid hw0
  have HK := Lib.hid k0
  have HX := Lib.hid x0
  have HF := Lib.hid f0
  obtain ⟨z, hz⟩ : ∃ z, z = w.heap.size := ⟨_, rfl⟩
  have HZ := Lib.hid hz
  have HQ := Lib.hid HQ
  clear b0 k0 x0 f0 hw0 h hz
  have z0 : w0.cell? ⟨z, 0, none⟩ = some (.int .i64 kind) := by rw [HZ.out]; exact has_cell 0 HX.out.1 rfl
  have z1 : w0.cell? ⟨z, 1, none⟩ = some (.int .i64 n) := by rw [HZ.out]; exact has_cell 1 HX.out.1 rfl
  rcases hA with ⟨rfl, A⟩ | ⟨rfl, A⟩ <;> (
    have A := A _ HK.out
    go_enter Tryz.func13, Tryz.ntmps13
    go_upto_region 1 with fail
    rw [← HW.out, ← HZ.out]
    have arm : ∀ w1 Sf, Q Sf → KW w1 Sf → Fr S Sf w0 w1 → Calls Tryz.prog 42 #[.pointer (some ⟨S.B.kb, 0, none⟩)] w1 fun e w' => e = .returned (.tuple #[]) ∧ Below w1.heap.size w1 w' := fun w1 Sf hq k1 f1 => (HQ.out Sf hq).2.1.settle w1 (HQ.out Sf hq).1 k1
    have HA := Lib.hid arm
    clear arm
    go_upto_region 13 with (first
      | (go_at_call 43; refine T.mono ?_; rintro e w' ⟨rfl, rfl⟩)
      | (go_at_call 44; refine A.mono ?_; rintro e w1 ⟨Sf, rfl, hq, k1, f1⟩; have HQ1 := Lib.hid hq; have HK1 := Lib.hid k1; have HF1 := Lib.hid f1; clear hq k1 f1 A)
      | (go_at_call 45; refine A.mono ?_; rintro e w1 ⟨Sf, rfl, hq, k1, f1⟩; have HQ1 := Lib.hid hq; have HK1 := Lib.hid k1; have HF1 := Lib.hid f1; clear hq k1 f1 A)
      | (go_at_call 42; refine (HA.out _ _ HQ1.out HK1.out HF1.out).mono ?_; rintro e w2 ⟨rfl, b2⟩))
    have k2 := HK1.out.reads b2
    have HBf := Lib.hid (HQ.out _ HQ1.out).1
    have HF2 := Lib.hid (HF.out.trans (HF1.out.trans (Fr.reads Sf b2)))
    have x2 := (HX.out.fr HF1.out).fr (Fr.reads Sf b2)
    rw [← HZ.out] at x2
    have HK2 := Lib.hid k2
    have HLN := Lib.hid (HQ.out _ HQ1.out).2.2
    obtain ⟨xs, hxs⟩ := k2.l
    have c8 : w2.cell? ⟨S.B.kb, 8, none⟩ = some Sf.lo.lv := kc8 (B := S.B) k2 HBf.out
    have f8 : ∀ i, w2.frozen? ⟨S.B.kb, i, none⟩ = false := by rw [← HBf.out]; exact has_free (k2.has 0 rfl)
    have hbk : S.B.kb < w2.heap.size := by rw [← HBf.out]; exact has_lt (k2.has 0 rfl)
    have hal : ∀ b, Sf.lo.lv.ownBlock = some b → S.B.kb ≠ b := fun b hb e => by
      have h4 := k2.ll b hb
      have h5 := (k2.ob 0 _ _ rfl).2
      rw [HBf.out, e] at h5
      omega
    have y0 := has_cell (v := .int .i64 _) 0 x2.1 rfl
    have y1 := has_cell (v := .int .i64 n) 1 x2.1 rfl
    obtain ⟨i0, hi, hz0, hz1, hz2⟩ := info_parts info43
    have HXS := Lib.hid hxs
    have HAL := Lib.hid hal
    have HI := Lib.hid hi
    have HZ0 := Lib.hid hz0
    have HZ1 := Lib.hid hz1
    have HZ2 := Lib.hid hz2
    clear hxs hal hi hz0 hz1 hz2 x2 k2 z0 z1 T b2
    go_region_law (first
    | (refine step_append_lies _ rfl (.tmp 38) (.tmp 40) 69 rfl 0 43 i0 _ 2 16 Tryz.underlying69 HI.out HZ0.out HZ1.out HZ2.out rfl (by decide) Sf.lo.lv Sf.lo.ln xs rfl (by exact owns_kept HXS.out fun b hb => Below.heap_alloc w2 _ b (owns_lt HXS.out hb)) ⟨w2.heap.size, 0, none⟩ 1 1 [.int .i64 _, .int .i64 n] rfl rfl (by exact World.news_of_block (heap_alloc_new w2 (.cells #[.int .i64 _, .int .i64 n] 43))) (by intro u hu; simp at hu; rcases hu with rfl | rfl <;> rfl) (by decide) (by have := HLN.out; simp only [maxLen]; omega) (by have := HLN.out; omega) (Nat.zero_le _) _ rfl ?_
       intro g cap w' q1 q2 q3 q4
       have q5 : w2.grownBy w' Sf.lo.lv.ownBlock := grown_alloc ⟨q2.os, q2.tape, q2.output, q2.size, q2.block⟩
       have y : w'.cell? ⟨S.B.kb, 8, none⟩ = some Sf.lo.lv := (World.cell?_of_block (q5.block S.B.kb hbk (fun e => HAL.out _ e.symm rfl))).trans c8
       have yf : ∀ i, w'.frozen? ⟨S.B.kb, i, none⟩ = false := fun i => (World.frozen?_of_block (q5.block S.B.kb hbk (fun e => HAL.out _ e.symm rfl))).trans (f8 i)))
    all_goals go_wp2_with fail
    all_goals go_ret
    all_goals
      have hkb : w'.heap[S.B.kb]? = some (kO Sf) := (q5.block S.B.kb hbk (fun e => HAL.out _ e.symm rfl)).trans (by rw [← HBf.out]; exact HK2.out.has 0 rfl)
      have F := HK2.out.logL q1 q5 (by
        rcases q3 with h | h
        · exact .inl h.symm
        · right
          intro b hb
          cases hb
          rw [h]
          show w2.heap.size ≤ (w2.alloc _).heap.size
          simp) (by intro b hb; cases hb; exact q4) (by rw [show Sf.B.kb = S.B.kb by rw [HBf.out]]; exact (Upd.refl hkb).setCell 8 _)
      exact ⟨Sf, _, rfl, HQ1.out, F.1, HF2.out.trans F.2⟩)
end Go.Proofs.YtagmlijhgncklaaGreatDoor.Ker
namespace Go.Proofs.YtagmlijhgncklaaGreatDoor.Ker
open Go.RowKit Go.Proofs.YtagmlijhgncklaaGreatDoor

theorem info48 : (Tryz.prog.info? 48).map (fun i => (i.zero, i.size, i.bytes)) = some (some (.agg #[.int .i64 0, .int .i64 0]), 2, 16) := by kernel_rfl
/-- The kernel behind a note. -/
def KS.noted (S : KS) (p : Nat) (t : Th) (k a : Nat) (v : Value) : KS := { S with st := S.st + 1, th := put S.th p (some { t with pc := (k : Int) + 1 }), lo := { S.lo with nv := v, notes := S.lo.notes ++ [((p : Int), t.r a)], lab := relab S.lo.lab v 3 } }
set_option maxRecDepth 100000 in
set_option maxHeartbeats 2000000 in
theorem run_note (w : World) (S : KS) {B : KB} (hB : S.B = B) (h : KW w S) (P : KP S) (p : Nat) (t : Th) (Rn : Running S p t) (x : Code.Prg) (n : Nat) (hx : S.B.J.PS[n]? = some x) (hpr : t.prog = n) (k : Nat) (hpc : t.pc = k) (i : Code.Ins) (hi : x.L[k]? = some i)
    (a : Nat) (hop : i.op = 8) (hia : i.a = a) (ha8 : a < 8) (hk : k ≤ 1000) (hnn : S.lo.notes.length ≤ 1000) :
    Calls Tryz.prog 44 #[.pointer (some ⟨B.kb, 0, none⟩)] w fun e w' => ∃ v, e = .returned (.tuple #[]) ∧ KW w' (S.noted p t k a v) ∧ Fr S (S.noted p t k a v) w w' := by
  subst hB
  have hp := Rn.p16
  have c26 := kc26 h rfl
  have AR := turns_runs w S.B.tb S.B.rb S.B.J.q S.L S.R S.st (h.tn P.L P.R) Rn.b1 Rn.b2 Rn.sm Rn.s0 (by have := Rn.s1; omega)
  rw [Rn.first] at AR
  obtain ⟨S1, hS1⟩ : ∃ S1 : KS, S1 = { S with st := S.st + 1 } := ⟨_, rfl⟩
  have HPC := Lib.hid hpc
  have HA := Lib.hid hia
  have HNN : RowKit.Hid (S1.lo.notes.length ≤ 1000) := Lib.hid (by rw [hS1]; exact hnn)
  have HSN : RowKit.Hid (∀ v, S.noted p t k a v = { S1 with th := put S1.th p (some { t with pc := (k : Int) + 1 }), lo := { S1.lo with nv := v, notes := S1.lo.notes ++ [((p : Int), t.r a)], lab := relab S1.lo.lab v 3 } }) := Lib.hid (fun v => by rw [hS1]; rfl)
  clear hnn hia
  have hB1 : S1.B = S.B := by rw [hS1]
  have ht1 : S1.th p = some t := by rw [hS1]; exact Rn.th
  have K1 : ∀ W, Upd w S.B.rb (rdO S.R (S.st + 1)) W → KW W S1 ∧ Fr S S1 w W := fun W u => by rw [hS1]; exact h.rdy u
  have P1 : KP S1 := by rw [hS1]; exact { P with }
  have tp1 : S1.tp p = some ⟨t.b, 0, none⟩ := by rw [P1.tp p hp, ht1]; rfl
  have ACT : ∀ W, KW W S1 → Calls Tryz.prog 72 #[.pointer (some ⟨t.c, 0, none⟩), .bool false] W fun e w' => e = .returned (.bool false) ∧ W = w' := fun W hW => by
    have q := Can.acts_c W t.c t.can false (hW.getCan hp ht1) (by rw [P1.can p t ht1]; decide)
    rw [show Can.actsF t.can false = false by simp [Can.actsF, Rn.ak]] at q
    exact q
  have OP : ∀ W, KW W S1 → Calls Tryz.prog 74 #[.pointer (some ⟨S.B.kb, 0, none⟩), .pointer (some ⟨t.b, 0, none⟩)] W fun e w' => e = .returned (.int .u32 0) ∧ Below W.heap.size W w' := fun W hW => open_c W S1 hB1 hW P1 p t hp (by rw [hB1]; exact Rn.pn) ht1
  have AT : ∀ W, KW W S1 → Calls Tryz.prog 76 #[.slice (some ⟨x.p, 0, none⟩) x.L.length x.cap, .int .i64 k] W fun e w' => e = .returned (.agg #[.int .i64 i.op, .int .i64 i.d, .int .i64 i.a, .int .i64 i.b, .int .i64 i.imm]) ∧ Below W.heap.size W w' := fun W hW => Code.at_some W x.p x.L x.cap ((hW.pgs P1).2 x (List.mem_of_getElem? (by rw [hB1]; exact hx))) k i hi
  have PC : ∀ W, KW W S1 → W.cell? ⟨S.B.J.b, n, none⟩ = some (.slice (some ⟨x.p, 0, none⟩) x.L.length x.cap) := fun W hW => by
    have q := (hW.pgs P1).cell n x (by rw [hB1]; exact hx)
    rw [hB1] at q
    exact q
  have TC : ∀ W, KW W S1 → W.cell? ⟨t.b, 2, none⟩ = some (.int .i64 n) ∧ W.cell? ⟨t.b, 3, none⟩ = some (.int .i64 k) := fun W hW => by
    have hT := hW.getTh hp ht1
    exact ⟨by rw [← hpr]; exact tc2 hT, by rw [← hpc]; exact tc3 hT⟩
  have hn : n < S.B.J.PS.length := (List.getElem?_eq_some_iff.1 hx).1
  have i0 : (0 : Int) ≤ p := by omega
  have i1 : (p : Int) < 16 := by omega
  have n0 : (0 : Int) ≤ n := by omega
  have n1 : (n : Int) < (S.B.J.PS.length : Int) := by omega
  have HB1 := Lib.hid hB1
  have HT1 := Lib.hid ht1
  have HTP := Lib.hid tp1
  have HOP := Lib.hid hop
  clear h P Rn hS1 hB1 ht1 P1 tp1 hx hpr hpc hi hn hop
  go_enter Tryz.func44, Tryz.ntmps44
  go_upto_region 8 with (first
    | (go_at_call 48; refine AR.mono ?_; rintro e w1 ⟨rfl, _, u1⟩; obtain ⟨k1, f1⟩ := K1 w1 u1
       have ct := k1.tpc hp
       rw [HB1.out, HTP.out] at ct
       have c32 := tc32 (k1.getTh hp HT1.out)
       have HK1 := Lib.hid k1; have HF1 := Lib.hid f1; clear u1 k1 f1 AR K1)
    | (go_at_call 72; refine (ACT _ HK1.out).mono ?_; rintro e w' ⟨rfl, rfl⟩)
    | (go_at_call 74; refine (OP _ HK1.out).mono ?_; rintro e w2 ⟨rfl, b2⟩; have HK2 := Lib.hid (HK1.out.reads b2); have HF2 := Lib.hid (HF1.out.trans (Fr.reads _ b2)); clear b2))
  have HK2d := Lib.hid (HK2.out.keeps (w' := w2.drew) (Nat.le_refl _) (fun _ _ _ => rfl))
  have HKA : RowKit.Hid (∀ o, KW (w2.alloc o).drew S1) := Lib.hid (fun o => (HK2.out.reads ((Below.refl w2.heap.size w2).alloc (Nat.le_refl _) o)).keeps (w' := (w2.alloc o).drew) (Nat.le_refl _) (fun _ _ _ => rfl))
  have HC : ∀ W, KW W S1 → W.cell? ⟨S.B.kb, 6, none⟩ = some (.slice (some ⟨S.B.J.b, 0, none⟩) S.B.J.PS.length S.B.J.cap) ∧ W.cell? ⟨S.B.J.b, n, none⟩ = some (.slice (some ⟨x.p, 0, none⟩) x.L.length x.cap) ∧ W.cell? ⟨t.b, 2, none⟩ = some (.int .i64 n) ∧ W.cell? ⟨t.b, 3, none⟩ = some (.int .i64 k) := fun W hW => ⟨kc6 (B := S.B) hW HB1.out, PC W hW, TC W hW⟩
  have hC0 := HC _ HK2d.out
  have hCA := fun o => HC _ (HKA.out o)
  go_region_held3 (fun W' => W'.cell? ⟨S.B.kb, 6, none⟩ = some (.slice (some ⟨S.B.J.b, 0, none⟩) S.B.J.PS.length S.B.J.cap) ∧ W'.cell? ⟨S.B.J.b, n, none⟩ = some (.slice (some ⟨x.p, 0, none⟩) x.L.length x.cap) ∧ W'.cell? ⟨t.b, 2, none⟩ = some (.int .i64 n) ∧ W'.cell? ⟨t.b, 3, none⟩ = some (.int .i64 k))
    (first | (with_reducible exact hC0) | (with_reducible exact hCA _) | (with_reducible exact hC3) | (with_reducible exact hCA3 _) | (with_reducible assumption))
    (first
      | (go_at_call 76; refine (AT _ HK2d.out).mono ?_; rintro e w3 ⟨rfl, b3⟩; have k3 := HK2d.out.reads b3; have hC3 := HC _ k3; have hCA3 := fun o => HC _ (k3.reads ((Below.refl w3.heap.size w3).alloc (Nat.le_refl _) o)))
      | (go_at_call 76; refine (AT _ (HKA.out _)).mono ?_; rintro e w3 ⟨rfl, b3⟩; have k3 := (HKA.out _).reads b3
         have x6 : w3.heap[w2.heap.size]? = some (.cells #[.int .i64 0, .int .i64 0, .int .i64 0, .int .i64 0, .int .i64 0] 29 (0, 0)) := below_has b3 (heap_alloc_new w2 _)
         have y0 : w3.cell? ⟨w2.heap.size, 0, none⟩ = some (.int .i64 0) := has_cell 0 x6 rfl
         have y1 : w3.cell? ⟨w2.heap.size, 1, none⟩ = some (.int .i64 0) := has_cell 1 x6 rfl
         have y2 : w3.cell? ⟨w2.heap.size, 2, none⟩ = some (.int .i64 0) := has_cell 2 x6 rfl
         have y3 : w3.cell? ⟨w2.heap.size, 3, none⟩ = some (.int .i64 0) := has_cell 3 x6 rfl
         have y4 : w3.cell? ⟨w2.heap.size, 4, none⟩ = some (.int .i64 0) := has_cell 4 x6 rfl
         have yf := has_free x6
         have hC3 := HC _ k3
         have lb : S1.lo.lab w2.heap.size = 0 := HK2.out.fresh _ (Nat.le_refl _)
         have ks := ((((k3.outside (i := 0) (v := .int .i64 i.op) lb).outside (i := 1) (v := .int .i64 i.d) lb).outside (i := 2) (v := .int .i64 i.a) lb).outside (i := 3) (v := .int .i64 i.b) lb).outside (i := 4) (v := .int .i64 i.imm) lb
         have hC5 := HC _ ks))
  all_goals go_upto_region 9 with fail
  · have Q9 := at9_new (i := i) k3 HF2.out b3
    obtain ⟨z, hz⟩ : ∃ z, z = w3.heap.size := ⟨_, rfl⟩
    rw [← hz] at Q9 ⊢
    refine world_wp (fun W => At9 w W S S1 z i) Q9 ?_
    clear Q9 hz k3 b3 hC3 hCA3 hC0 hCA HC PC TC AT OP ACT HKA HK2d HK2 HF2 HK1 HF1
    rintro W Q9
    have c0 : W.cell? ⟨z, 0, none⟩ = some (.int .i64 i.op) := has_cell 0 Q9.z.1 rfl
    have ca : W.cell? ⟨z, 2, none⟩ = some (.int .i64 i.a) := has_cell 2 Q9.z.1 rfl
    rw [HOP.out] at c0
    rw [HA.out] at ca
    have hT := Q9.k.getTh hp HT1.out
    have cr := tcr hT ha8
    have c90 := kc90 (B := S.B) Q9.k HB1.out
    have fk : ∀ j, W.frozen? ⟨S.B.kb, j, none⟩ = false := by rw [← HB1.out]; exact has_free (Q9.k.has 0 rfl)
    have hxs := Q9.k.nt
    have hal : ∀ b, S1.lo.nv.ownBlock = some b → S.B.kb ≠ b ∧ t.b ≠ b := fun b hb => by
      have h4 := Q9.k.nl b hb
      have h5 := (Q9.k.ob 0 _ _ rfl).2
      have h6 := (Q9.k.ob _ _ _ (obj_th hp HT1.out)).2
      rw [HB1.out] at h5
      exact ⟨fun e => by rw [e] at h5; omega, fun e => by rw [e] at h6; omega⟩
    have hbk : S.B.kb < W.heap.size := by rw [← HB1.out]; exact has_lt (Q9.k.has 0 rfl)
    have htk : t.b < W.heap.size := has_lt hT
    obtain ⟨i0', hi', hz0, hz1, hz2⟩ := info_parts info48
    have HXS := Lib.hid hxs
    have HAL2 := Lib.hid hal
    have HI := Lib.hid hi'
    have HZ0 := Lib.hid hz0
    have HZ1 := Lib.hid hz1
    have HZ2 := Lib.hid hz2
    have H9 := Lib.hid Q9
    have HTT := Lib.hid hT
    have kk : (k : Int) ≤ 1000 := by omega
    have a0 : (0 : Int) ≤ a := by omega
    have a1 : (a : Int) < 8 := by omega
    clear hxs hal hi' hz0 hz1 hz2 Q9 hT
    go_wp2_with fail
    go_region_law (first
      | (refine step_append_lies _ rfl (.tmp 117) (.tmp 127) 45 rfl 0 48 i0' _ 2 16 Tryz.underlying45 HI.out HZ0.out HZ1.out HZ2.out rfl (by decide) S1.lo.nv S1.lo.notes.length (S1.lo.notes.flatMap fun x => [.int .i64 x.1, .int .i64 x.2]) rfl (by exact owns_kept HXS.out fun b hb => Below.heap_alloc W _ b (owns_lt HXS.out hb)) ⟨W.heap.size, 0, none⟩ 1 1 [.int .i64 p, .int .i64 (t.r a)] rfl rfl (by exact World.news_of_block (heap_alloc_new W (.cells #[.int .i64 p, .int .i64 (t.r a)] 48))) (by intro u hu; simp at hu; rcases hu with rfl | rfl <;> rfl) (by decide) (by have := HNN.out; simp only [maxLen]; omega) (by have := HNN.out; omega) (Nat.zero_le _) _ rfl ?_
         intro g cap w' q1 q2 q3 q4
         have q5 : W.grownBy w' S1.lo.nv.ownBlock := grown_alloc ⟨q2.os, q2.tape, q2.output, q2.size, q2.block⟩
         have y : w'.cell? ⟨S.B.kb, 90, none⟩ = some S1.lo.nv := (World.cell?_of_block (q5.block S.B.kb hbk (fun e => (HAL2.out _ e.symm).1 rfl))).trans c90
         have yf : ∀ j, w'.frozen? ⟨S.B.kb, j, none⟩ = false := fun j => (World.frozen?_of_block (q5.block S.B.kb hbk (fun e => (HAL2.out _ e.symm).1 rfl))).trans (fk j)
         have hkb : w'.heap[S.B.kb]? = some (kO S1) := (q5.block S.B.kb hbk (fun e => (HAL2.out _ e.symm).1 rfl)).trans (by rw [← HB1.out]; exact H9.out.k.has 0 rfl)
         have F := H9.out.k.logN (ns := S1.lo.notes ++ [((p : Int), t.r a)]) (by simpa using q1) q5 (by
           rcases q3 with h | h
           · exact .inl h.symm
           · right
             intro b hb
             cases hb
             rw [h]
             show W.heap.size ≤ (W.alloc _).heap.size
             simp) (by intro b hb; cases hb; exact q4) (by rw [show S1.B.kb = S.B.kb by rw [HB1.out]]; exact (Upd.refl hkb).setCell 90 _)
         have hTF := F.1.getTh (t := t) hp HT1.out
         have e3 : (w'.setCell ⟨S.B.kb, 90, none⟩ (.slice (some ⟨g, 0, none⟩) (S1.lo.notes.length + 1) cap)).cell? ⟨t.b, 3, none⟩ = some (.int .i64 k) := by rw [← HPC.out]; exact tc3 hTF
         have ef := has_free hTF
         have G := Lib.hid (F.1.thr (t' := { t with pc := (k : Int) + 1 }) hp HT1.out (((Upd.refl hTF).setCell 3 (.int .i64 ((k : Int) + 1))).to (by simp only [thO]; congr 1)) rfl rfl rfl)
         have HFF := Lib.hid (H9.out.f.trans F.2)
         clear q1 q2 F hTF hkb))
    all_goals go_wp2_with fail
    all_goals refine bodyPost_end (results_none rfl _ _ _) rfl ?_
    all_goals exact ⟨rfl, _, by rw [HSN.out]; exact G.out.1, by rw [HSN.out]; exact HFF.out.trans G.out.2⟩
  · have Q9 := at9_old (i := i) HK2.out k3 HF2.out b3 x6
    obtain ⟨z, hz⟩ : ∃ z, z = w2.heap.size := ⟨_, rfl⟩
    rw [← hz] at Q9 ⊢
    refine world_wp (fun W => At9 w W S S1 z i) Q9 ?_
    clear Q9 hz hC5 ks lb hC3 yf y4 y3 y2 y1 y0 x6 k3 b3 hC0 hCA HC PC TC AT OP ACT HKA HK2d HK2 HF2 HK1 HF1
    rintro W Q9
    have c0 : W.cell? ⟨z, 0, none⟩ = some (.int .i64 i.op) := has_cell 0 Q9.z.1 rfl
    have ca : W.cell? ⟨z, 2, none⟩ = some (.int .i64 i.a) := has_cell 2 Q9.z.1 rfl
    rw [HOP.out] at c0
    rw [HA.out] at ca
    have hT := Q9.k.getTh hp HT1.out
    have cr := tcr hT ha8
    have c90 := kc90 (B := S.B) Q9.k HB1.out
    have fk : ∀ j, W.frozen? ⟨S.B.kb, j, none⟩ = false := by rw [← HB1.out]; exact has_free (Q9.k.has 0 rfl)
    have hxs := Q9.k.nt
    have hal : ∀ b, S1.lo.nv.ownBlock = some b → S.B.kb ≠ b ∧ t.b ≠ b := fun b hb => by
      have h4 := Q9.k.nl b hb
      have h5 := (Q9.k.ob 0 _ _ rfl).2
      have h6 := (Q9.k.ob _ _ _ (obj_th hp HT1.out)).2
      rw [HB1.out] at h5
      exact ⟨fun e => by rw [e] at h5; omega, fun e => by rw [e] at h6; omega⟩
    have hbk : S.B.kb < W.heap.size := by rw [← HB1.out]; exact has_lt (Q9.k.has 0 rfl)
    have htk : t.b < W.heap.size := has_lt hT
    obtain ⟨i0', hi', hz0, hz1, hz2⟩ := info_parts info48
    have HXS := Lib.hid hxs
    have HAL2 := Lib.hid hal
    have HI := Lib.hid hi'
    have HZ0 := Lib.hid hz0
    have HZ1 := Lib.hid hz1
    have HZ2 := Lib.hid hz2
    have H9 := Lib.hid Q9
    have HTT := Lib.hid hT
    have kk : (k : Int) ≤ 1000 := by omega
    have a0 : (0 : Int) ≤ a := by omega
    have a1 : (a : Int) < 8 := by omega
    clear hxs hal hi' hz0 hz1 hz2 Q9 hT
    go_wp2_with fail
    go_region_law (first
      | (refine step_append_lies _ rfl (.tmp 117) (.tmp 127) 45 rfl 0 48 i0' _ 2 16 Tryz.underlying45 HI.out HZ0.out HZ1.out HZ2.out rfl (by decide) S1.lo.nv S1.lo.notes.length (S1.lo.notes.flatMap fun x => [.int .i64 x.1, .int .i64 x.2]) rfl (by exact owns_kept HXS.out fun b hb => Below.heap_alloc W _ b (owns_lt HXS.out hb)) ⟨W.heap.size, 0, none⟩ 1 1 [.int .i64 p, .int .i64 (t.r a)] rfl rfl (by exact World.news_of_block (heap_alloc_new W (.cells #[.int .i64 p, .int .i64 (t.r a)] 48))) (by intro u hu; simp at hu; rcases hu with rfl | rfl <;> rfl) (by decide) (by have := HNN.out; simp only [maxLen]; omega) (by have := HNN.out; omega) (Nat.zero_le _) _ rfl ?_
         intro g cap w' q1 q2 q3 q4
         have q5 : W.grownBy w' S1.lo.nv.ownBlock := grown_alloc ⟨q2.os, q2.tape, q2.output, q2.size, q2.block⟩
         have y : w'.cell? ⟨S.B.kb, 90, none⟩ = some S1.lo.nv := (World.cell?_of_block (q5.block S.B.kb hbk (fun e => (HAL2.out _ e.symm).1 rfl))).trans c90
         have yf : ∀ j, w'.frozen? ⟨S.B.kb, j, none⟩ = false := fun j => (World.frozen?_of_block (q5.block S.B.kb hbk (fun e => (HAL2.out _ e.symm).1 rfl))).trans (fk j)
         have hkb : w'.heap[S.B.kb]? = some (kO S1) := (q5.block S.B.kb hbk (fun e => (HAL2.out _ e.symm).1 rfl)).trans (by rw [← HB1.out]; exact H9.out.k.has 0 rfl)
         have F := H9.out.k.logN (ns := S1.lo.notes ++ [((p : Int), t.r a)]) (by simpa using q1) q5 (by
           rcases q3 with h | h
           · exact .inl h.symm
           · right
             intro b hb
             cases hb
             rw [h]
             show W.heap.size ≤ (W.alloc _).heap.size
             simp) (by intro b hb; cases hb; exact q4) (by rw [show S1.B.kb = S.B.kb by rw [HB1.out]]; exact (Upd.refl hkb).setCell 90 _)
         have hTF := F.1.getTh (t := t) hp HT1.out
         have e3 : (w'.setCell ⟨S.B.kb, 90, none⟩ (.slice (some ⟨g, 0, none⟩) (S1.lo.notes.length + 1) cap)).cell? ⟨t.b, 3, none⟩ = some (.int .i64 k) := by rw [← HPC.out]; exact tc3 hTF
         have ef := has_free hTF
         have G := Lib.hid (F.1.thr (t' := { t with pc := (k : Int) + 1 }) hp HT1.out (((Upd.refl hTF).setCell 3 (.int .i64 ((k : Int) + 1))).to (by simp only [thO]; congr 1)) rfl rfl rfl)
         have HFF := Lib.hid (H9.out.f.trans F.2)
         clear q1 q2 F hTF hkb))
    all_goals go_wp2_with fail
    all_goals refine bodyPost_end (results_none rfl _ _ _) rfl ?_
    all_goals exact ⟨rfl, _, by rw [HSN.out]; exact G.out.1, by rw [HSN.out]; exact HFF.out.trans G.out.2⟩
end Go.Proofs.YtagmlijhgncklaaGreatDoor.Ker
namespace Go.Proofs.YtagmlijhgncklaaGreatDoor.Ker
open Go.RowKit Go.Proofs.YtagmlijhgncklaaGreatDoor

theorem At9.drew {w W : World} {S S1 : KS} {z : Nat} {i : Code.Ins} (h : At9 w W S S1 z i) : At9 w W.drew S S1 z i := ⟨h.k.keeps (Nat.le_refl _) (fun _ _ _ => rfl), h.f.drew, h.z⟩
theorem At9.reads {w W W' : World} {S S1 : KS} {z : Nat} {i : Code.Ins} (h : At9 w W S S1 z i) (k : Below W.heap.size W W') : At9 w W' S S1 z i := ⟨h.k.reads k, h.f.trans (Fr.reads S1 k), h.z.fr (Fr.reads S1 k)⟩
theorem At9.alloc {w W : World} {S S1 : KS} {z : Nat} {i : Code.Ins} (h : At9 w W S S1 z i) (o : Obj) : At9 w (W.alloc o) S S1 z i := h.reads ((Below.refl _ _).alloc (Nat.le_refl _) o)
theorem At9.outside {w W : World} {S S1 : KS} {z d j : Nat} {v : Value} {i : Code.Ins} (h : At9 w W S S1 z i) (hl : S1.lo.lab d = 0) (hd : w.heap.size ≤ d) (hz : z ≠ d) : At9 w (W.setCell ⟨d, j, none⟩ v) S S1 z i :=
  ⟨h.k.outside hl, h.f.outside hd, (Below.heap_setCell W ⟨d, j, none⟩ v z hz).trans h.z.1, h.z.2⟩
theorem At9.outside9 {w W : World} {S S1 : KS} {z d : Nat} {v0 v1 v2 v3 v4 v5 v6 v7 v8 : Value} {i : Code.Ins} (h : At9 w W S S1 z i) (hl : S1.lo.lab d = 0) (hd : w.heap.size ≤ d) (hz : z ≠ d) :
    At9 w (((((((((W.setCell ⟨d, 0, none⟩ v0).setCell ⟨d, 1, none⟩ v1).setCell ⟨d, 2, none⟩ v2).setCell ⟨d, 3, none⟩ v3).setCell ⟨d, 4, none⟩ v4).setCell ⟨d, 5, none⟩ v5).setCell ⟨d, 6, none⟩ v6).setCell ⟨d, 7, none⟩ v7).setCell ⟨d, 8, none⟩ v8) S S1 z i :=
  ((((((((h.outside hl hd hz).outside hl hd hz).outside hl hd hz).outside hl hd hz).outside hl hd hz).outside hl hd hz).outside hl hd hz).outside hl hd hz).outside hl hd hz
theorem ts_step (p : Nat) (t : Th) (pc' : Int) (r' : Nat → Int) : (((((((((thC p t).setIfInBounds 3 (.int .i64 pc')).setIfInBounds 4 (.int .i64 (r' 0))).setIfInBounds 5 (.int .i64 (r' 1))).setIfInBounds 6 (.int .i64 (r' 2))).setIfInBounds 7 (.int .i64 (r' 3))).setIfInBounds 8 (.int .i64 (r' 4))).setIfInBounds 9 (.int .i64 (r' 5))).setIfInBounds 10 (.int .i64 (r' 6))).setIfInBounds 11 (.int .i64 (r' 7)) = thC p { t with pc := pc', r := r' } := by
  simp only [thC, List.setIfInBounds_toArray, List.set_cons_succ, List.set_cons_zero]
/-- What the instruction has made of the state lies in block q. -/
structure At11 (w W : World) (S S1 : KS) (q : Nat) (pc' : Int) (r' : Nat → Int) : Prop where
  k : KW W S1
  f : Fr S S1 w W
  hq : W.heap[q]? = some (.cells #[.int .i64 pc', .int .i64 (r' 0), .int .i64 (r' 1), .int .i64 (r' 2), .int .i64 (r' 3), .int .i64 (r' 4), .int .i64 (r' 5), .int .i64 (r' 6), .int .i64 (r' 7)] 247 (0, 0))
  o : S1.lo.lab q = 0
theorem at11_new {w W : World} {S S1 : KS} {z : Nat} {i : Code.Ins} {pc' : Int} {r' : Nat → Int} (h : At9 w W S S1 z i) : At11 w (W.alloc (.cells #[.int .i64 pc', .int .i64 (r' 0), .int .i64 (r' 1), .int .i64 (r' 2), .int .i64 (r' 3), .int .i64 (r' 4), .int .i64 (r' 5), .int .i64 (r' 6), .int .i64 (r' 7)] 247)) S S1 W.heap.size pc' r' :=
  ⟨(h.alloc _).k, (h.alloc _).f, heap_alloc_new _ _, h.k.fresh _ (Nat.le_refl _)⟩
theorem at11_old {w W : World} {S S1 : KS} {z d : Nat} {i : Code.Ins} {pc' : Int} {r' : Nat → Int} (h : At9 w W S S1 z i) (x : W.heap[d]? = some (.cells #[.int .i64 0, .int .i64 0, .int .i64 0, .int .i64 0, .int .i64 0, .int .i64 0, .int .i64 0, .int .i64 0, .int .i64 0] 247 (0, 0))) (hl : S1.lo.lab d = 0) (hd : w.heap.size ≤ d) (hz : z ≠ d) :
    At11 w (((((((((W.setCell ⟨d, 0, none⟩ (.int .i64 pc')).setCell ⟨d, 1, none⟩ (.int .i64 (r' 0))).setCell ⟨d, 2, none⟩ (.int .i64 (r' 1))).setCell ⟨d, 3, none⟩ (.int .i64 (r' 2))).setCell ⟨d, 4, none⟩ (.int .i64 (r' 3))).setCell ⟨d, 5, none⟩ (.int .i64 (r' 4))).setCell ⟨d, 6, none⟩ (.int .i64 (r' 5))).setCell ⟨d, 7, none⟩ (.int .i64 (r' 6))).setCell ⟨d, 8, none⟩ (.int .i64 (r' 7))) S S1 d pc' r' := by
  have q := h.outside9 (v0 := .int .i64 pc') (v1 := .int .i64 (r' 0)) (v2 := .int .i64 (r' 1)) (v3 := .int .i64 (r' 2)) (v4 := .int .i64 (r' 3)) (v5 := .int .i64 (r' 4)) (v6 := .int .i64 (r' 5)) (v7 := .int .i64 (r' 6)) (v8 := .int .i64 (r' 7)) hl hd hz
  have U := (((((((((Upd.refl x).setCell 0 (.int .i64 pc')).setCell 1 (.int .i64 (r' 0))).setCell 2 (.int .i64 (r' 1))).setCell 3 (.int .i64 (r' 2))).setCell 4 (.int .i64 (r' 3))).setCell 5 (.int .i64 (r' 4))).setCell 6 (.int .i64 (r' 5))).setCell 7 (.int .i64 (r' 6))).setCell 8 (.int .i64 (r' 7))
  exact ⟨q.k, q.f, by simpa using U.1, hl⟩
set_option maxRecDepth 100000 in
set_option maxHeartbeats 2000000 in
theorem run_step (w : World) (S : KS) {B : KB} (hB : S.B = B) (h : KW w S) (P : KP S) (p : Nat) (t : Th) (Rn : Running S p t) (x : Code.Prg) (n : Nat) (hx : S.B.J.PS[n]? = some x) (hpr : t.prog = n) (k : Nat) (hpc : t.pc = k) (i : Code.Ins) (hi : x.L[k]? = some i)
    (pc' : Int) (r' : Nat → Int) (hop : i.op ≠ 0 ∧ i.op ≠ 7 ∧ i.op ≠ 8) (A : ∀ W, Calls Tryz.prog 79 #[.agg #[.int .i64 i.op, .int .i64 i.d, .int .i64 i.a, .int .i64 i.b, .int .i64 i.imm], .agg #[.int .i64 k, .int .i64 (t.r 0), .int .i64 (t.r 1), .int .i64 (t.r 2), .int .i64 (t.r 3), .int .i64 (t.r 4), .int .i64 (t.r 5), .int .i64 (t.r 6), .int .i64 (t.r 7)]] W fun e w' => e = .returned (.tuple #[.agg #[.int .i64 pc', .int .i64 (r' 0), .int .i64 (r' 1), .int .i64 (r' 2), .int .i64 (r' 3), .int .i64 (r' 4), .int .i64 (r' 5), .int .i64 (r' 6), .int .i64 (r' 7)], .bool true]) ∧ Below W.heap.size W w') :
    Calls Tryz.prog 44 #[.pointer (some ⟨B.kb, 0, none⟩)] w fun e w' => e = .returned (.tuple #[]) ∧ KW w' ({ S with st := S.st + 1, th := put S.th p (some { t with pc := pc', r := r' }) } : KS) ∧ Fr S { S with st := S.st + 1, th := put S.th p (some { t with pc := pc', r := r' }) } w w' := by
  subst hB
  have hp := Rn.p16
  have c26 := kc26 h rfl
  have AR := turns_runs w S.B.tb S.B.rb S.B.J.q S.L S.R S.st (h.tn P.L P.R) Rn.b1 Rn.b2 Rn.sm Rn.s0 (by have := Rn.s1; omega)
  rw [Rn.first] at AR
  obtain ⟨S1, hS1⟩ : ∃ S1 : KS, S1 = { S with st := S.st + 1 } := ⟨_, rfl⟩
  have HPC := Lib.hid hpc
  have HSN : RowKit.Hid (({ S with st := S.st + 1, th := put S.th p (some { t with pc := pc', r := r' }) } : KS) = { S1 with th := put S1.th p (some { t with pc := pc', r := r' }) }) := Lib.hid (by rw [hS1])
  have hB1 : S1.B = S.B := by rw [hS1]
  have ht1 : S1.th p = some t := by rw [hS1]; exact Rn.th
  have K1 : ∀ W, Upd w S.B.rb (rdO S.R (S.st + 1)) W → KW W S1 ∧ Fr S S1 w W := fun W u => by rw [hS1]; exact h.rdy u
  have P1 : KP S1 := by rw [hS1]; exact { P with }
  have tp1 : S1.tp p = some ⟨t.b, 0, none⟩ := by rw [P1.tp p hp, ht1]; rfl
  have ACT : ∀ W, KW W S1 → Calls Tryz.prog 72 #[.pointer (some ⟨t.c, 0, none⟩), .bool false] W fun e w' => e = .returned (.bool false) ∧ W = w' := fun W hW => by
    have q := Can.acts_c W t.c t.can false (hW.getCan hp ht1) (by rw [P1.can p t ht1]; decide)
    rw [show Can.actsF t.can false = false by simp [Can.actsF, Rn.ak]] at q
    exact q
  have OP : ∀ W, KW W S1 → Calls Tryz.prog 74 #[.pointer (some ⟨S.B.kb, 0, none⟩), .pointer (some ⟨t.b, 0, none⟩)] W fun e w' => e = .returned (.int .u32 0) ∧ Below W.heap.size W w' := fun W hW => open_c W S1 hB1 hW P1 p t hp (by rw [hB1]; exact Rn.pn) ht1
  have AT : ∀ W, KW W S1 → Calls Tryz.prog 76 #[.slice (some ⟨x.p, 0, none⟩) x.L.length x.cap, .int .i64 k] W fun e w' => e = .returned (.agg #[.int .i64 i.op, .int .i64 i.d, .int .i64 i.a, .int .i64 i.b, .int .i64 i.imm]) ∧ Below W.heap.size W w' := fun W hW => Code.at_some W x.p x.L x.cap ((hW.pgs P1).2 x (List.mem_of_getElem? (by rw [hB1]; exact hx))) k i hi
  have PC : ∀ W, KW W S1 → W.cell? ⟨S.B.J.b, n, none⟩ = some (.slice (some ⟨x.p, 0, none⟩) x.L.length x.cap) := fun W hW => by
    have q := (hW.pgs P1).cell n x (by rw [hB1]; exact hx)
    rw [hB1] at q
    exact q
  have TC : ∀ W, KW W S1 → W.cell? ⟨t.b, 2, none⟩ = some (.int .i64 n) ∧ W.cell? ⟨t.b, 3, none⟩ = some (.int .i64 k) := fun W hW => by
    have hT := hW.getTh hp ht1
    exact ⟨by rw [← hpr]; exact tc2 hT, by rw [← hpc]; exact tc3 hT⟩
  have hn : n < S.B.J.PS.length := (List.getElem?_eq_some_iff.1 hx).1
  have i0 : (0 : Int) ≤ p := by omega
  have i1 : (p : Int) < 16 := by omega
  have n0 : (0 : Int) ≤ n := by omega
  have n1 : (n : Int) < (S.B.J.PS.length : Int) := by omega
  have HB1 := Lib.hid hB1
  have HT1 := Lib.hid ht1
  have HTP := Lib.hid tp1
  have HOP := Lib.hid hop
  clear h P Rn hS1 hB1 ht1 P1 tp1 hx hpr hpc hi hn hop
  go_enter Tryz.func44, Tryz.ntmps44
  go_upto_region 8 with (first
    | (go_at_call 48; refine AR.mono ?_; rintro e w1 ⟨rfl, _, u1⟩; obtain ⟨k1, f1⟩ := K1 w1 u1
       have ct := k1.tpc hp
       rw [HB1.out, HTP.out] at ct
       have c32 := tc32 (k1.getTh hp HT1.out)
       have HK1 := Lib.hid k1; have HF1 := Lib.hid f1; clear u1 k1 f1 AR K1)
    | (go_at_call 72; refine (ACT _ HK1.out).mono ?_; rintro e w' ⟨rfl, rfl⟩)
    | (go_at_call 74; refine (OP _ HK1.out).mono ?_; rintro e w2 ⟨rfl, b2⟩; have HK2 := Lib.hid (HK1.out.reads b2); have HF2 := Lib.hid (HF1.out.trans (Fr.reads _ b2)); clear b2))
  have HK2d := Lib.hid (HK2.out.keeps (w' := w2.drew) (Nat.le_refl _) (fun _ _ _ => rfl))
  have HKA : RowKit.Hid (∀ o, KW (w2.alloc o).drew S1) := Lib.hid (fun o => (HK2.out.reads ((Below.refl w2.heap.size w2).alloc (Nat.le_refl _) o)).keeps (w' := (w2.alloc o).drew) (Nat.le_refl _) (fun _ _ _ => rfl))
  have HC : ∀ W, KW W S1 → W.cell? ⟨S.B.kb, 6, none⟩ = some (.slice (some ⟨S.B.J.b, 0, none⟩) S.B.J.PS.length S.B.J.cap) ∧ W.cell? ⟨S.B.J.b, n, none⟩ = some (.slice (some ⟨x.p, 0, none⟩) x.L.length x.cap) ∧ W.cell? ⟨t.b, 2, none⟩ = some (.int .i64 n) ∧ W.cell? ⟨t.b, 3, none⟩ = some (.int .i64 k) := fun W hW => ⟨kc6 (B := S.B) hW HB1.out, PC W hW, TC W hW⟩
  have hC0 := HC _ HK2d.out
  have hCA := fun o => HC _ (HKA.out o)
  go_region_held3 (fun W' => W'.cell? ⟨S.B.kb, 6, none⟩ = some (.slice (some ⟨S.B.J.b, 0, none⟩) S.B.J.PS.length S.B.J.cap) ∧ W'.cell? ⟨S.B.J.b, n, none⟩ = some (.slice (some ⟨x.p, 0, none⟩) x.L.length x.cap) ∧ W'.cell? ⟨t.b, 2, none⟩ = some (.int .i64 n) ∧ W'.cell? ⟨t.b, 3, none⟩ = some (.int .i64 k))
    (first | (with_reducible exact hC0) | (with_reducible exact hCA _) | (with_reducible exact hC3) | (with_reducible exact hCA3 _) | (with_reducible assumption))
    (first
      | (go_at_call 76; refine (AT _ HK2d.out).mono ?_; rintro e w3 ⟨rfl, b3⟩; have k3 := HK2d.out.reads b3; have hC3 := HC _ k3; have hCA3 := fun o => HC _ (k3.reads ((Below.refl w3.heap.size w3).alloc (Nat.le_refl _) o)))
      | (go_at_call 76; refine (AT _ (HKA.out _)).mono ?_; rintro e w3 ⟨rfl, b3⟩; have k3 := (HKA.out _).reads b3
         have x6 : w3.heap[w2.heap.size]? = some (.cells #[.int .i64 0, .int .i64 0, .int .i64 0, .int .i64 0, .int .i64 0] 29 (0, 0)) := below_has b3 (heap_alloc_new w2 _)
         have y0 : w3.cell? ⟨w2.heap.size, 0, none⟩ = some (.int .i64 0) := has_cell 0 x6 rfl
         have y1 : w3.cell? ⟨w2.heap.size, 1, none⟩ = some (.int .i64 0) := has_cell 1 x6 rfl
         have y2 : w3.cell? ⟨w2.heap.size, 2, none⟩ = some (.int .i64 0) := has_cell 2 x6 rfl
         have y3 : w3.cell? ⟨w2.heap.size, 3, none⟩ = some (.int .i64 0) := has_cell 3 x6 rfl
         have y4 : w3.cell? ⟨w2.heap.size, 4, none⟩ = some (.int .i64 0) := has_cell 4 x6 rfl
         have yf := has_free x6
         have hC3 := HC _ k3
         have lb : S1.lo.lab w2.heap.size = 0 := HK2.out.fresh _ (Nat.le_refl _)
         have ks := ((((k3.outside (i := 0) (v := .int .i64 i.op) lb).outside (i := 1) (v := .int .i64 i.d) lb).outside (i := 2) (v := .int .i64 i.a) lb).outside (i := 3) (v := .int .i64 i.b) lb).outside (i := 4) (v := .int .i64 i.imm) lb
         have hC5 := HC _ ks))
  all_goals go_upto_region 9 with fail
  · have Q9 := at9_new (i := i) k3 HF2.out b3
    obtain ⟨z, hz⟩ : ∃ z, z = w3.heap.size := ⟨_, rfl⟩
    rw [← hz] at Q9 ⊢
    refine world_wp (fun W => At9 w W S S1 z i) Q9 ?_
    clear Q9 hz k3 b3 hC3 hCA3 hC0 hCA HC PC TC AT OP ACT HKA HK2d HK2 HF2 HK1 HF1
    rintro W Q9
    have c0 : W.cell? ⟨z, 0, none⟩ = some (.int .i64 i.op) := has_cell 0 Q9.z.1 rfl
    have hz1 : W.cell? ⟨z, 1, none⟩ = some (.int .i64 i.d) := has_cell 1 Q9.z.1 rfl
    have hz2 : W.cell? ⟨z, 2, none⟩ = some (.int .i64 i.a) := has_cell 2 Q9.z.1 rfl
    have hz3 : W.cell? ⟨z, 3, none⟩ = some (.int .i64 i.b) := has_cell 3 Q9.z.1 rfl
    have hz4 : W.cell? ⟨z, 4, none⟩ = some (.int .i64 i.imm) := has_cell 4 Q9.z.1 rfl
    have hT := Q9.k.getTh hp HT1.out
    have c3 : W.cell? ⟨t.b, 3, none⟩ = some (.int .i64 k) := by rw [← HPC.out]; exact tc3 hT
    have r0 := tc4 hT
    have r1 := tc5 hT
    have r2 := tc6 hT
    have r3 := tc7 hT
    have r4 := tc8 hT
    have r5 := tc9 hT
    have r6 := tc10 hT
    have r7 := tc11 hT
    have o0 : (i.op == 0) = false := by simpa using HOP.out.1
    have o7 : (i.op == 7) = false := by simpa using HOP.out.2.1
    have o8 : (i.op == 8) = false := by simpa using HOP.out.2.2
    have H9 := Lib.hid Q9
    clear Q9 hT
    go_wp2_with fail
    have HS : ∀ W', At9 w W' S S1 z i → W'.cell? ⟨z, 0, none⟩ = some (.int .i64 i.op) ∧ W'.cell? ⟨z, 1, none⟩ = some (.int .i64 i.d) ∧ W'.cell? ⟨z, 2, none⟩ = some (.int .i64 i.a) ∧ W'.cell? ⟨z, 3, none⟩ = some (.int .i64 i.b) ∧ W'.cell? ⟨z, 4, none⟩ = some (.int .i64 i.imm) ∧ W'.cell? ⟨t.b, 3, none⟩ = some (.int .i64 k) ∧ W'.cell? ⟨t.b, 4, none⟩ = some (.int .i64 (t.r 0)) ∧ W'.cell? ⟨t.b, 5, none⟩ = some (.int .i64 (t.r 1)) ∧ W'.cell? ⟨t.b, 6, none⟩ = some (.int .i64 (t.r 2)) ∧ W'.cell? ⟨t.b, 7, none⟩ = some (.int .i64 (t.r 3)) ∧ W'.cell? ⟨t.b, 8, none⟩ = some (.int .i64 (t.r 4)) ∧ W'.cell? ⟨t.b, 9, none⟩ = some (.int .i64 (t.r 5)) ∧ W'.cell? ⟨t.b, 10, none⟩ = some (.int .i64 (t.r 6)) ∧ W'.cell? ⟨t.b, 11, none⟩ = some (.int .i64 (t.r 7)) := fun W' h => by
      have hT := h.k.getTh hp HT1.out
      exact ⟨has_cell 0 h.z.1 rfl, has_cell 1 h.z.1 rfl, has_cell 2 h.z.1 rfl, has_cell 3 h.z.1 rfl, has_cell 4 h.z.1 rfl, by rw [← HPC.out]; exact tc3 hT, tc4 hT, tc5 hT, tc6 hT, tc7 hT, tc8 hT, tc9 hT, tc10 hT, tc11 hT⟩
    have N0 := H9.out.drew
    have hC0 := HS _ N0
    have hCA := fun o => HS _ (H9.out.alloc o).drew
    go_region_held3 (fun W' => W'.cell? ⟨z, 0, none⟩ = some (.int .i64 i.op) ∧ W'.cell? ⟨z, 1, none⟩ = some (.int .i64 i.d) ∧ W'.cell? ⟨z, 2, none⟩ = some (.int .i64 i.a) ∧ W'.cell? ⟨z, 3, none⟩ = some (.int .i64 i.b) ∧ W'.cell? ⟨z, 4, none⟩ = some (.int .i64 i.imm) ∧ W'.cell? ⟨t.b, 3, none⟩ = some (.int .i64 k) ∧ W'.cell? ⟨t.b, 4, none⟩ = some (.int .i64 (t.r 0)) ∧ W'.cell? ⟨t.b, 5, none⟩ = some (.int .i64 (t.r 1)) ∧ W'.cell? ⟨t.b, 6, none⟩ = some (.int .i64 (t.r 2)) ∧ W'.cell? ⟨t.b, 7, none⟩ = some (.int .i64 (t.r 3)) ∧ W'.cell? ⟨t.b, 8, none⟩ = some (.int .i64 (t.r 4)) ∧ W'.cell? ⟨t.b, 9, none⟩ = some (.int .i64 (t.r 5)) ∧ W'.cell? ⟨t.b, 10, none⟩ = some (.int .i64 (t.r 6)) ∧ W'.cell? ⟨t.b, 11, none⟩ = some (.int .i64 (t.r 7)))
      (first | (with_reducible exact hC0) | (with_reducible exact hCA _) | (with_reducible exact hC3) | (with_reducible exact hCA3 _) | (with_reducible assumption))
      (first
        | (go_at_call 79; refine (A W.drew).mono ?_; rintro e w4 ⟨rfl, b4⟩; have N4 := N0.reads b4; have hC3 := HS _ N4; have hCA3 := fun o => HS _ (N4.alloc o))
        | (go_at_call 79; refine (A _).mono ?_; rintro e w4 ⟨rfl, b4⟩; have N4 := ((H9.out.alloc _).drew).reads b4; have hC3 := HS _ N4
           have x6 : w4.heap[W.heap.size]? = some (.cells #[.int .i64 0, .int .i64 0, .int .i64 0, .int .i64 0, .int .i64 0, .int .i64 0, .int .i64 0, .int .i64 0, .int .i64 0] 247 (0, 0)) := below_has b4 (heap_alloc_new W _)
           have y0 : w4.cell? ⟨W.heap.size, 0, none⟩ = some (.int .i64 0) := has_cell 0 x6 rfl
           have y1 : w4.cell? ⟨W.heap.size, 1, none⟩ = some (.int .i64 0) := has_cell 1 x6 rfl
           have y2 : w4.cell? ⟨W.heap.size, 2, none⟩ = some (.int .i64 0) := has_cell 2 x6 rfl
           have y3 : w4.cell? ⟨W.heap.size, 3, none⟩ = some (.int .i64 0) := has_cell 3 x6 rfl
           have y4 : w4.cell? ⟨W.heap.size, 4, none⟩ = some (.int .i64 0) := has_cell 4 x6 rfl
           have y5 : w4.cell? ⟨W.heap.size, 5, none⟩ = some (.int .i64 0) := has_cell 5 x6 rfl
           have y6 : w4.cell? ⟨W.heap.size, 6, none⟩ = some (.int .i64 0) := has_cell 6 x6 rfl
           have y7 : w4.cell? ⟨W.heap.size, 7, none⟩ = some (.int .i64 0) := has_cell 7 x6 rfl
           have y8 : w4.cell? ⟨W.heap.size, 8, none⟩ = some (.int .i64 0) := has_cell 8 x6 rfl
           have yf := has_free x6
           have lb : S1.lo.lab W.heap.size = 0 := H9.out.k.fresh _ (Nat.le_refl _)
           have M5 := N4.outside9 (v0 := .int .i64 pc') (v1 := .int .i64 (r' 0)) (v2 := .int .i64 (r' 1)) (v3 := .int .i64 (r' 2)) (v4 := .int .i64 (r' 3)) (v5 := .int .i64 (r' 4)) (v6 := .int .i64 (r' 5)) (v7 := .int .i64 (r' 6)) (v8 := .int .i64 (r' 7)) (d := W.heap.size) lb H9.out.f.size (by have := has_lt H9.out.z.1; omega)
           have hC5 := HS _ M5))
    all_goals go_upto_region 11 with fail
    · have Q11 := at11_new (pc' := pc') (r' := r') N4
      obtain ⟨q, hq⟩ : ∃ q, q = w4.heap.size := ⟨_, rfl⟩
      rw [← hq] at Q11 ⊢
      refine world_wp (fun V => At11 w V S S1 q pc' r') Q11 ?_
      clear Q11 hq b4 N4 hC3 hCA3 hC0 hCA HS N0 A H9 c0 hz1 hz2 hz3 hz4 c3 r0 r1 r2 r3 r4 r5 r6 r7
      rintro V Q11
      have hT := Q11.k.getTh hp HT1.out
      have c3 := tc3 hT
      have r0 := tc4 hT
      have r1 := tc5 hT
      have r2 := tc6 hT
      have r3 := tc7 hT
      have r4 := tc8 hT
      have r5 := tc9 hT
      have r6 := tc10 hT
      have r7 := tc11 hT
      have fz := has_free hT
      have y0 : V.cell? ⟨q, 0, none⟩ = some (.int .i64 pc') := has_cell 0 Q11.hq rfl
      have y1 : V.cell? ⟨q, 1, none⟩ = some (.int .i64 (r' 0)) := has_cell 1 Q11.hq rfl
      have y2 : V.cell? ⟨q, 2, none⟩ = some (.int .i64 (r' 1)) := has_cell 2 Q11.hq rfl
      have y3 : V.cell? ⟨q, 3, none⟩ = some (.int .i64 (r' 2)) := has_cell 3 Q11.hq rfl
      have y4 : V.cell? ⟨q, 4, none⟩ = some (.int .i64 (r' 3)) := has_cell 4 Q11.hq rfl
      have y5 : V.cell? ⟨q, 5, none⟩ = some (.int .i64 (r' 4)) := has_cell 5 Q11.hq rfl
      have y6 : V.cell? ⟨q, 6, none⟩ = some (.int .i64 (r' 5)) := has_cell 6 Q11.hq rfl
      have y7 : V.cell? ⟨q, 7, none⟩ = some (.int .i64 (r' 6)) := has_cell 7 Q11.hq rfl
      have y8 : V.cell? ⟨q, 8, none⟩ = some (.int .i64 (r' 7)) := has_cell 8 Q11.hq rfl
      have hqt : q ≠ t.b := fun e => by
        have := (Q11.k.ob _ _ _ (obj_th hp HT1.out)).2
        rw [← e, Q11.o] at this
        omega
      have htq : t.b ≠ q := Ne.symm hqt
      have HTT := Lib.hid hT
      have H11 := Lib.hid Q11
      clear Q11 hT
      go_region
      go_wp2_with fail
      refine bodyPost_end (results_none rfl _ _ _) rfl ?_
      have U := ((((((((((Upd.refl HTT.out).setCell 3 (.int .i64 pc')).setCell 4 (.int .i64 (r' 0))).setCell 5 (.int .i64 (r' 1))).setCell 6 (.int .i64 (r' 2))).setCell 7 (.int .i64 (r' 3))).setCell 8 (.int .i64 (r' 4))).setCell 9 (.int .i64 (r' 5))).setCell 10 (.int .i64 (r' 6))).setCell 11 (.int .i64 (r' 7))).drew.to (o' := thO p { t with pc := pc', r := r' }) (congrArg (fun c => Obj.cells c 140 (0, 0)) (ts_step p t pc' r'))
      have G := H11.out.k.thr (t' := { t with pc := pc', r := r' }) hp HT1.out U rfl rfl rfl
      rw [HSN.out]
      exact ⟨rfl, G.1, H11.out.f.trans G.2⟩
    · have Q11 := at11_old (pc' := pc') (r' := r') N4 x6 lb H9.out.f.size (by have := has_lt H9.out.z.1; omega)
      obtain ⟨q, hq⟩ : ∃ q, q = W.heap.size := ⟨_, rfl⟩
      rw [← hq] at Q11 ⊢
      refine world_wp (fun V => At11 w V S S1 q pc' r') Q11 ?_
      clear Q11 hq b4 N4 hC3 hC5 M5 lb yf y0 y1 y2 y3 y4 y5 y6 y7 y8 x6 hC0 hCA HS N0 A H9 c0 hz1 hz2 hz3 hz4 c3 r0 r1 r2 r3 r4 r5 r6 r7
      rintro V Q11
      have hT := Q11.k.getTh hp HT1.out
      have c3 := tc3 hT
      have r0 := tc4 hT
      have r1 := tc5 hT
      have r2 := tc6 hT
      have r3 := tc7 hT
      have r4 := tc8 hT
      have r5 := tc9 hT
      have r6 := tc10 hT
      have r7 := tc11 hT
      have fz := has_free hT
      have y0 : V.cell? ⟨q, 0, none⟩ = some (.int .i64 pc') := has_cell 0 Q11.hq rfl
      have y1 : V.cell? ⟨q, 1, none⟩ = some (.int .i64 (r' 0)) := has_cell 1 Q11.hq rfl
      have y2 : V.cell? ⟨q, 2, none⟩ = some (.int .i64 (r' 1)) := has_cell 2 Q11.hq rfl
      have y3 : V.cell? ⟨q, 3, none⟩ = some (.int .i64 (r' 2)) := has_cell 3 Q11.hq rfl
      have y4 : V.cell? ⟨q, 4, none⟩ = some (.int .i64 (r' 3)) := has_cell 4 Q11.hq rfl
      have y5 : V.cell? ⟨q, 5, none⟩ = some (.int .i64 (r' 4)) := has_cell 5 Q11.hq rfl
      have y6 : V.cell? ⟨q, 6, none⟩ = some (.int .i64 (r' 5)) := has_cell 6 Q11.hq rfl
      have y7 : V.cell? ⟨q, 7, none⟩ = some (.int .i64 (r' 6)) := has_cell 7 Q11.hq rfl
      have y8 : V.cell? ⟨q, 8, none⟩ = some (.int .i64 (r' 7)) := has_cell 8 Q11.hq rfl
      have hqt : q ≠ t.b := fun e => by
        have := (Q11.k.ob _ _ _ (obj_th hp HT1.out)).2
        rw [← e, Q11.o] at this
        omega
      have htq : t.b ≠ q := Ne.symm hqt
      have HTT := Lib.hid hT
      have H11 := Lib.hid Q11
      clear Q11 hT
      go_region
      go_wp2_with fail
      refine bodyPost_end (results_none rfl _ _ _) rfl ?_
      have U := ((((((((((Upd.refl HTT.out).setCell 3 (.int .i64 pc')).setCell 4 (.int .i64 (r' 0))).setCell 5 (.int .i64 (r' 1))).setCell 6 (.int .i64 (r' 2))).setCell 7 (.int .i64 (r' 3))).setCell 8 (.int .i64 (r' 4))).setCell 9 (.int .i64 (r' 5))).setCell 10 (.int .i64 (r' 6))).setCell 11 (.int .i64 (r' 7))).drew.to (o' := thO p { t with pc := pc', r := r' }) (congrArg (fun c => Obj.cells c 140 (0, 0)) (ts_step p t pc' r'))
      have G := H11.out.k.thr (t' := { t with pc := pc', r := r' }) hp HT1.out U rfl rfl rfl
      rw [HSN.out]
      exact ⟨rfl, G.1, H11.out.f.trans G.2⟩
  · have Q9 := at9_old (i := i) HK2.out k3 HF2.out b3 x6
    obtain ⟨z, hz⟩ : ∃ z, z = w2.heap.size := ⟨_, rfl⟩
    rw [← hz] at Q9 ⊢
    refine world_wp (fun W => At9 w W S S1 z i) Q9 ?_
    clear Q9 hz hC5 ks lb hC3 yf y4 y3 y2 y1 y0 x6 k3 b3 hC0 hCA HC PC TC AT OP ACT HKA HK2d HK2 HF2 HK1 HF1
    rintro W Q9
    have c0 : W.cell? ⟨z, 0, none⟩ = some (.int .i64 i.op) := has_cell 0 Q9.z.1 rfl
    have hz1 : W.cell? ⟨z, 1, none⟩ = some (.int .i64 i.d) := has_cell 1 Q9.z.1 rfl
    have hz2 : W.cell? ⟨z, 2, none⟩ = some (.int .i64 i.a) := has_cell 2 Q9.z.1 rfl
    have hz3 : W.cell? ⟨z, 3, none⟩ = some (.int .i64 i.b) := has_cell 3 Q9.z.1 rfl
    have hz4 : W.cell? ⟨z, 4, none⟩ = some (.int .i64 i.imm) := has_cell 4 Q9.z.1 rfl
    have hT := Q9.k.getTh hp HT1.out
    have c3 : W.cell? ⟨t.b, 3, none⟩ = some (.int .i64 k) := by rw [← HPC.out]; exact tc3 hT
    have r0 := tc4 hT
    have r1 := tc5 hT
    have r2 := tc6 hT
    have r3 := tc7 hT
    have r4 := tc8 hT
    have r5 := tc9 hT
    have r6 := tc10 hT
    have r7 := tc11 hT
    have o0 : (i.op == 0) = false := by simpa using HOP.out.1
    have o7 : (i.op == 7) = false := by simpa using HOP.out.2.1
    have o8 : (i.op == 8) = false := by simpa using HOP.out.2.2
    have H9 := Lib.hid Q9
    clear Q9 hT
    go_wp2_with fail
    have HS : ∀ W', At9 w W' S S1 z i → W'.cell? ⟨z, 0, none⟩ = some (.int .i64 i.op) ∧ W'.cell? ⟨z, 1, none⟩ = some (.int .i64 i.d) ∧ W'.cell? ⟨z, 2, none⟩ = some (.int .i64 i.a) ∧ W'.cell? ⟨z, 3, none⟩ = some (.int .i64 i.b) ∧ W'.cell? ⟨z, 4, none⟩ = some (.int .i64 i.imm) ∧ W'.cell? ⟨t.b, 3, none⟩ = some (.int .i64 k) ∧ W'.cell? ⟨t.b, 4, none⟩ = some (.int .i64 (t.r 0)) ∧ W'.cell? ⟨t.b, 5, none⟩ = some (.int .i64 (t.r 1)) ∧ W'.cell? ⟨t.b, 6, none⟩ = some (.int .i64 (t.r 2)) ∧ W'.cell? ⟨t.b, 7, none⟩ = some (.int .i64 (t.r 3)) ∧ W'.cell? ⟨t.b, 8, none⟩ = some (.int .i64 (t.r 4)) ∧ W'.cell? ⟨t.b, 9, none⟩ = some (.int .i64 (t.r 5)) ∧ W'.cell? ⟨t.b, 10, none⟩ = some (.int .i64 (t.r 6)) ∧ W'.cell? ⟨t.b, 11, none⟩ = some (.int .i64 (t.r 7)) := fun W' h => by
      have hT := h.k.getTh hp HT1.out
      exact ⟨has_cell 0 h.z.1 rfl, has_cell 1 h.z.1 rfl, has_cell 2 h.z.1 rfl, has_cell 3 h.z.1 rfl, has_cell 4 h.z.1 rfl, by rw [← HPC.out]; exact tc3 hT, tc4 hT, tc5 hT, tc6 hT, tc7 hT, tc8 hT, tc9 hT, tc10 hT, tc11 hT⟩
    have N0 := H9.out.drew
    have hC0 := HS _ N0
    have hCA := fun o => HS _ (H9.out.alloc o).drew
    go_region_held3 (fun W' => W'.cell? ⟨z, 0, none⟩ = some (.int .i64 i.op) ∧ W'.cell? ⟨z, 1, none⟩ = some (.int .i64 i.d) ∧ W'.cell? ⟨z, 2, none⟩ = some (.int .i64 i.a) ∧ W'.cell? ⟨z, 3, none⟩ = some (.int .i64 i.b) ∧ W'.cell? ⟨z, 4, none⟩ = some (.int .i64 i.imm) ∧ W'.cell? ⟨t.b, 3, none⟩ = some (.int .i64 k) ∧ W'.cell? ⟨t.b, 4, none⟩ = some (.int .i64 (t.r 0)) ∧ W'.cell? ⟨t.b, 5, none⟩ = some (.int .i64 (t.r 1)) ∧ W'.cell? ⟨t.b, 6, none⟩ = some (.int .i64 (t.r 2)) ∧ W'.cell? ⟨t.b, 7, none⟩ = some (.int .i64 (t.r 3)) ∧ W'.cell? ⟨t.b, 8, none⟩ = some (.int .i64 (t.r 4)) ∧ W'.cell? ⟨t.b, 9, none⟩ = some (.int .i64 (t.r 5)) ∧ W'.cell? ⟨t.b, 10, none⟩ = some (.int .i64 (t.r 6)) ∧ W'.cell? ⟨t.b, 11, none⟩ = some (.int .i64 (t.r 7)))
      (first | (with_reducible exact hC0) | (with_reducible exact hCA _) | (with_reducible exact hC3) | (with_reducible exact hCA3 _) | (with_reducible assumption))
      (first
        | (go_at_call 79; refine (A W.drew).mono ?_; rintro e w4 ⟨rfl, b4⟩; have N4 := N0.reads b4; have hC3 := HS _ N4; have hCA3 := fun o => HS _ (N4.alloc o))
        | (go_at_call 79; refine (A _).mono ?_; rintro e w4 ⟨rfl, b4⟩; have N4 := ((H9.out.alloc _).drew).reads b4; have hC3 := HS _ N4
           have x6 : w4.heap[W.heap.size]? = some (.cells #[.int .i64 0, .int .i64 0, .int .i64 0, .int .i64 0, .int .i64 0, .int .i64 0, .int .i64 0, .int .i64 0, .int .i64 0] 247 (0, 0)) := below_has b4 (heap_alloc_new W _)
           have y0 : w4.cell? ⟨W.heap.size, 0, none⟩ = some (.int .i64 0) := has_cell 0 x6 rfl
           have y1 : w4.cell? ⟨W.heap.size, 1, none⟩ = some (.int .i64 0) := has_cell 1 x6 rfl
           have y2 : w4.cell? ⟨W.heap.size, 2, none⟩ = some (.int .i64 0) := has_cell 2 x6 rfl
           have y3 : w4.cell? ⟨W.heap.size, 3, none⟩ = some (.int .i64 0) := has_cell 3 x6 rfl
           have y4 : w4.cell? ⟨W.heap.size, 4, none⟩ = some (.int .i64 0) := has_cell 4 x6 rfl
           have y5 : w4.cell? ⟨W.heap.size, 5, none⟩ = some (.int .i64 0) := has_cell 5 x6 rfl
           have y6 : w4.cell? ⟨W.heap.size, 6, none⟩ = some (.int .i64 0) := has_cell 6 x6 rfl
           have y7 : w4.cell? ⟨W.heap.size, 7, none⟩ = some (.int .i64 0) := has_cell 7 x6 rfl
           have y8 : w4.cell? ⟨W.heap.size, 8, none⟩ = some (.int .i64 0) := has_cell 8 x6 rfl
           have yf := has_free x6
           have lb : S1.lo.lab W.heap.size = 0 := H9.out.k.fresh _ (Nat.le_refl _)
           have M5 := N4.outside9 (v0 := .int .i64 pc') (v1 := .int .i64 (r' 0)) (v2 := .int .i64 (r' 1)) (v3 := .int .i64 (r' 2)) (v4 := .int .i64 (r' 3)) (v5 := .int .i64 (r' 4)) (v6 := .int .i64 (r' 5)) (v7 := .int .i64 (r' 6)) (v8 := .int .i64 (r' 7)) (d := W.heap.size) lb H9.out.f.size (by have := has_lt H9.out.z.1; omega)
           have hC5 := HS _ M5))
    all_goals go_upto_region 11 with fail
    · have Q11 := at11_new (pc' := pc') (r' := r') N4
      obtain ⟨q, hq⟩ : ∃ q, q = w4.heap.size := ⟨_, rfl⟩
      rw [← hq] at Q11 ⊢
      refine world_wp (fun V => At11 w V S S1 q pc' r') Q11 ?_
      clear Q11 hq b4 N4 hC3 hCA3 hC0 hCA HS N0 A H9 c0 hz1 hz2 hz3 hz4 c3 r0 r1 r2 r3 r4 r5 r6 r7
      rintro V Q11
      have hT := Q11.k.getTh hp HT1.out
      have c3 := tc3 hT
      have r0 := tc4 hT
      have r1 := tc5 hT
      have r2 := tc6 hT
      have r3 := tc7 hT
      have r4 := tc8 hT
      have r5 := tc9 hT
      have r6 := tc10 hT
      have r7 := tc11 hT
      have fz := has_free hT
      have y0 : V.cell? ⟨q, 0, none⟩ = some (.int .i64 pc') := has_cell 0 Q11.hq rfl
      have y1 : V.cell? ⟨q, 1, none⟩ = some (.int .i64 (r' 0)) := has_cell 1 Q11.hq rfl
      have y2 : V.cell? ⟨q, 2, none⟩ = some (.int .i64 (r' 1)) := has_cell 2 Q11.hq rfl
      have y3 : V.cell? ⟨q, 3, none⟩ = some (.int .i64 (r' 2)) := has_cell 3 Q11.hq rfl
      have y4 : V.cell? ⟨q, 4, none⟩ = some (.int .i64 (r' 3)) := has_cell 4 Q11.hq rfl
      have y5 : V.cell? ⟨q, 5, none⟩ = some (.int .i64 (r' 4)) := has_cell 5 Q11.hq rfl
      have y6 : V.cell? ⟨q, 6, none⟩ = some (.int .i64 (r' 5)) := has_cell 6 Q11.hq rfl
      have y7 : V.cell? ⟨q, 7, none⟩ = some (.int .i64 (r' 6)) := has_cell 7 Q11.hq rfl
      have y8 : V.cell? ⟨q, 8, none⟩ = some (.int .i64 (r' 7)) := has_cell 8 Q11.hq rfl
      have hqt : q ≠ t.b := fun e => by
        have := (Q11.k.ob _ _ _ (obj_th hp HT1.out)).2
        rw [← e, Q11.o] at this
        omega
      have htq : t.b ≠ q := Ne.symm hqt
      have HTT := Lib.hid hT
      have H11 := Lib.hid Q11
      clear Q11 hT
      go_region
      go_wp2_with fail
      refine bodyPost_end (results_none rfl _ _ _) rfl ?_
      have U := ((((((((((Upd.refl HTT.out).setCell 3 (.int .i64 pc')).setCell 4 (.int .i64 (r' 0))).setCell 5 (.int .i64 (r' 1))).setCell 6 (.int .i64 (r' 2))).setCell 7 (.int .i64 (r' 3))).setCell 8 (.int .i64 (r' 4))).setCell 9 (.int .i64 (r' 5))).setCell 10 (.int .i64 (r' 6))).setCell 11 (.int .i64 (r' 7))).drew.to (o' := thO p { t with pc := pc', r := r' }) (congrArg (fun c => Obj.cells c 140 (0, 0)) (ts_step p t pc' r'))
      have G := H11.out.k.thr (t' := { t with pc := pc', r := r' }) hp HT1.out U rfl rfl rfl
      rw [HSN.out]
      exact ⟨rfl, G.1, H11.out.f.trans G.2⟩
    · have Q11 := at11_old (pc' := pc') (r' := r') N4 x6 lb H9.out.f.size (by have := has_lt H9.out.z.1; omega)
      obtain ⟨q, hq⟩ : ∃ q, q = W.heap.size := ⟨_, rfl⟩
      rw [← hq] at Q11 ⊢
      refine world_wp (fun V => At11 w V S S1 q pc' r') Q11 ?_
      clear Q11 hq b4 N4 hC3 hC5 M5 lb yf y0 y1 y2 y3 y4 y5 y6 y7 y8 x6 hC0 hCA HS N0 A H9 c0 hz1 hz2 hz3 hz4 c3 r0 r1 r2 r3 r4 r5 r6 r7
      rintro V Q11
      have hT := Q11.k.getTh hp HT1.out
      have c3 := tc3 hT
      have r0 := tc4 hT
      have r1 := tc5 hT
      have r2 := tc6 hT
      have r3 := tc7 hT
      have r4 := tc8 hT
      have r5 := tc9 hT
      have r6 := tc10 hT
      have r7 := tc11 hT
      have fz := has_free hT
      have y0 : V.cell? ⟨q, 0, none⟩ = some (.int .i64 pc') := has_cell 0 Q11.hq rfl
      have y1 : V.cell? ⟨q, 1, none⟩ = some (.int .i64 (r' 0)) := has_cell 1 Q11.hq rfl
      have y2 : V.cell? ⟨q, 2, none⟩ = some (.int .i64 (r' 1)) := has_cell 2 Q11.hq rfl
      have y3 : V.cell? ⟨q, 3, none⟩ = some (.int .i64 (r' 2)) := has_cell 3 Q11.hq rfl
      have y4 : V.cell? ⟨q, 4, none⟩ = some (.int .i64 (r' 3)) := has_cell 4 Q11.hq rfl
      have y5 : V.cell? ⟨q, 5, none⟩ = some (.int .i64 (r' 4)) := has_cell 5 Q11.hq rfl
      have y6 : V.cell? ⟨q, 6, none⟩ = some (.int .i64 (r' 5)) := has_cell 6 Q11.hq rfl
      have y7 : V.cell? ⟨q, 7, none⟩ = some (.int .i64 (r' 6)) := has_cell 7 Q11.hq rfl
      have y8 : V.cell? ⟨q, 8, none⟩ = some (.int .i64 (r' 7)) := has_cell 8 Q11.hq rfl
      have hqt : q ≠ t.b := fun e => by
        have := (Q11.k.ob _ _ _ (obj_th hp HT1.out)).2
        rw [← e, Q11.o] at this
        omega
      have htq : t.b ≠ q := Ne.symm hqt
      have HTT := Lib.hid hT
      have H11 := Lib.hid Q11
      clear Q11 hT
      go_region
      go_wp2_with fail
      refine bodyPost_end (results_none rfl _ _ _) rfl ?_
      have U := ((((((((((Upd.refl HTT.out).setCell 3 (.int .i64 pc')).setCell 4 (.int .i64 (r' 0))).setCell 5 (.int .i64 (r' 1))).setCell 6 (.int .i64 (r' 2))).setCell 7 (.int .i64 (r' 3))).setCell 8 (.int .i64 (r' 4))).setCell 9 (.int .i64 (r' 5))).setCell 10 (.int .i64 (r' 6))).setCell 11 (.int .i64 (r' 7))).drew.to (o' := thO p { t with pc := pc', r := r' }) (congrArg (fun c => Obj.cells c 140 (0, 0)) (ts_step p t pc' r'))
      have G := H11.out.k.thr (t' := { t with pc := pc', r := r' }) hp HT1.out U rfl rfl rfl
      rw [HSN.out]
      exact ⟨rfl, G.1, H11.out.f.trans G.2⟩
end Go.Proofs.YtagmlijhgncklaaGreatDoor.Ker
namespace Go.Proofs.YtagmlijhgncklaaGreatDoor.Ker
open Go.RowKit Go.Proofs.YtagmlijhgncklaaGreatDoor

set_option maxRecDepth 100000 in
set_option maxHeartbeats 2000000 in
theorem run_past (w : World) (S : KS) {B : KB} (hB : S.B = B) (h : KW w S) (P : KP S) (p : Nat) (t : Th) (Rn : Running S p t) (x : Code.Prg) (n : Nat) (hx : S.B.J.PS[n]? = some x) (hpr : t.prog = n) (k : Nat) (hpc : t.pc = k) (hi : k = x.L.length)
    (Q : KS → Prop) (A : ∀ W, KW W { S with st := S.st + 1 } → Calls Tryz.prog 77 #[.pointer (some ⟨B.kb, 0, none⟩), .pointer (some ⟨t.b, 0, none⟩)] W fun e w' => ∃ Sf, e = .returned (.tuple #[]) ∧ Q Sf ∧ KW w' Sf ∧ Fr { S with st := S.st + 1 } Sf W w') :
    Calls Tryz.prog 44 #[.pointer (some ⟨B.kb, 0, none⟩)] w fun e w' => ∃ Sf, e = .returned (.tuple #[]) ∧ Q Sf ∧ KW w' Sf ∧ Fr S Sf w w' := by
  subst hB
  obtain ⟨i, hi0⟩ : ∃ i : Code.Ins, i = Code.Ins.none := ⟨_, rfl⟩
  have hop : i.op = 0 := by rw [hi0]; rfl
  have hp := Rn.p16
  have c26 := kc26 h rfl
  have AR := turns_runs w S.B.tb S.B.rb S.B.J.q S.L S.R S.st (h.tn P.L P.R) Rn.b1 Rn.b2 Rn.sm Rn.s0 (by have := Rn.s1; omega)
  rw [Rn.first] at AR
  obtain ⟨S1, hS1⟩ : ∃ S1 : KS, S1 = { S with st := S.st + 1 } := ⟨_, rfl⟩
  rw [← hS1] at A
  have hB1 : S1.B = S.B := by rw [hS1]
  have ht1 : S1.th p = some t := by rw [hS1]; exact Rn.th
  have K1 : ∀ W, Upd w S.B.rb (rdO S.R (S.st + 1)) W → KW W S1 ∧ Fr S S1 w W := fun W u => by rw [hS1]; exact h.rdy u
  have P1 : KP S1 := by rw [hS1]; exact { P with }
  have tp1 : S1.tp p = some ⟨t.b, 0, none⟩ := by rw [P1.tp p hp, ht1]; rfl
  have ACT : ∀ W, KW W S1 → Calls Tryz.prog 72 #[.pointer (some ⟨t.c, 0, none⟩), .bool false] W fun e w' => e = .returned (.bool false) ∧ W = w' := fun W hW => by
    have q := Can.acts_c W t.c t.can false (hW.getCan hp ht1) (by rw [P1.can p t ht1]; decide)
    rw [show Can.actsF t.can false = false by simp [Can.actsF, Rn.ak]] at q
    exact q
  have OP : ∀ W, KW W S1 → Calls Tryz.prog 74 #[.pointer (some ⟨S.B.kb, 0, none⟩), .pointer (some ⟨t.b, 0, none⟩)] W fun e w' => e = .returned (.int .u32 0) ∧ Below W.heap.size W w' := fun W hW => open_c W S1 hB1 hW P1 p t hp (by rw [hB1]; exact Rn.pn) ht1
  have AT : ∀ W, KW W S1 → Calls Tryz.prog 76 #[.slice (some ⟨x.p, 0, none⟩) x.L.length x.cap, .int .i64 k] W fun e w' => e = .returned (.agg #[.int .i64 i.op, .int .i64 i.d, .int .i64 i.a, .int .i64 i.b, .int .i64 i.imm]) ∧ Below W.heap.size W w' := fun W hW => by rw [hi, hi0]; exact Code.at_end W x.p x.L.length x.cap
  have PC : ∀ W, KW W S1 → W.cell? ⟨S.B.J.b, n, none⟩ = some (.slice (some ⟨x.p, 0, none⟩) x.L.length x.cap) := fun W hW => by
    have q := (hW.pgs P1).cell n x (by rw [hB1]; exact hx)
    rw [hB1] at q
    exact q
  have TC : ∀ W, KW W S1 → W.cell? ⟨t.b, 2, none⟩ = some (.int .i64 n) ∧ W.cell? ⟨t.b, 3, none⟩ = some (.int .i64 k) := fun W hW => by
    have hT := hW.getTh hp ht1
    exact ⟨by rw [← hpr]; exact tc2 hT, by rw [← hpc]; exact tc3 hT⟩
  have hn : n < S.B.J.PS.length := (List.getElem?_eq_some_iff.1 hx).1
  have i0 : (0 : Int) ≤ p := by omega
  have i1 : (p : Int) < 16 := by omega
  have n0 : (0 : Int) ≤ n := by omega
  have n1 : (n : Int) < (S.B.J.PS.length : Int) := by omega
  have HB1 := Lib.hid hB1
  have HT1 := Lib.hid ht1
  have HTP := Lib.hid tp1
  have HOP := Lib.hid hop
  clear h P Rn hS1 hB1 ht1 P1 tp1 hx hpr hpc hi hi0 hn hop
  go_enter Tryz.func44, Tryz.ntmps44
  go_upto_region 8 with (first
    | (go_at_call 48; refine AR.mono ?_; rintro e w1 ⟨rfl, _, u1⟩; obtain ⟨k1, f1⟩ := K1 w1 u1
       have ct := k1.tpc hp
       rw [HB1.out, HTP.out] at ct
       have c32 := tc32 (k1.getTh hp HT1.out)
       have HK1 := Lib.hid k1; have HF1 := Lib.hid f1; clear u1 k1 f1 AR K1)
    | (go_at_call 72; refine (ACT _ HK1.out).mono ?_; rintro e w' ⟨rfl, rfl⟩)
    | (go_at_call 74; refine (OP _ HK1.out).mono ?_; rintro e w2 ⟨rfl, b2⟩; have HK2 := Lib.hid (HK1.out.reads b2); have HF2 := Lib.hid (HF1.out.trans (Fr.reads _ b2)); clear b2))
  have HK2d := Lib.hid (HK2.out.keeps (w' := w2.drew) (Nat.le_refl _) (fun _ _ _ => rfl))
  have HKA : RowKit.Hid (∀ o, KW (w2.alloc o).drew S1) := Lib.hid (fun o => (HK2.out.reads ((Below.refl w2.heap.size w2).alloc (Nat.le_refl _) o)).keeps (w' := (w2.alloc o).drew) (Nat.le_refl _) (fun _ _ _ => rfl))
  have HC : ∀ W, KW W S1 → W.cell? ⟨S.B.kb, 6, none⟩ = some (.slice (some ⟨S.B.J.b, 0, none⟩) S.B.J.PS.length S.B.J.cap) ∧ W.cell? ⟨S.B.J.b, n, none⟩ = some (.slice (some ⟨x.p, 0, none⟩) x.L.length x.cap) ∧ W.cell? ⟨t.b, 2, none⟩ = some (.int .i64 n) ∧ W.cell? ⟨t.b, 3, none⟩ = some (.int .i64 k) := fun W hW => ⟨kc6 (B := S.B) hW HB1.out, PC W hW, TC W hW⟩
  have hC0 := HC _ HK2d.out
  have hCA := fun o => HC _ (HKA.out o)
  go_region_held3 (fun W' => W'.cell? ⟨S.B.kb, 6, none⟩ = some (.slice (some ⟨S.B.J.b, 0, none⟩) S.B.J.PS.length S.B.J.cap) ∧ W'.cell? ⟨S.B.J.b, n, none⟩ = some (.slice (some ⟨x.p, 0, none⟩) x.L.length x.cap) ∧ W'.cell? ⟨t.b, 2, none⟩ = some (.int .i64 n) ∧ W'.cell? ⟨t.b, 3, none⟩ = some (.int .i64 k))
    (first | (with_reducible exact hC0) | (with_reducible exact hCA _) | (with_reducible exact hC3) | (with_reducible exact hCA3 _) | (with_reducible assumption))
    (first
      | (go_at_call 76; refine (AT _ HK2d.out).mono ?_; rintro e w3 ⟨rfl, b3⟩; have k3 := HK2d.out.reads b3; have hC3 := HC _ k3; have hCA3 := fun o => HC _ (k3.reads ((Below.refl w3.heap.size w3).alloc (Nat.le_refl _) o)))
      | (go_at_call 76; refine (AT _ (HKA.out _)).mono ?_; rintro e w3 ⟨rfl, b3⟩; have k3 := (HKA.out _).reads b3
         have x6 : w3.heap[w2.heap.size]? = some (.cells #[.int .i64 0, .int .i64 0, .int .i64 0, .int .i64 0, .int .i64 0] 29 (0, 0)) := below_has b3 (heap_alloc_new w2 _)
         have y0 : w3.cell? ⟨w2.heap.size, 0, none⟩ = some (.int .i64 0) := has_cell 0 x6 rfl
         have y1 : w3.cell? ⟨w2.heap.size, 1, none⟩ = some (.int .i64 0) := has_cell 1 x6 rfl
         have y2 : w3.cell? ⟨w2.heap.size, 2, none⟩ = some (.int .i64 0) := has_cell 2 x6 rfl
         have y3 : w3.cell? ⟨w2.heap.size, 3, none⟩ = some (.int .i64 0) := has_cell 3 x6 rfl
         have y4 : w3.cell? ⟨w2.heap.size, 4, none⟩ = some (.int .i64 0) := has_cell 4 x6 rfl
         have yf := has_free x6
         have hC3 := HC _ k3
         have lb : S1.lo.lab w2.heap.size = 0 := HK2.out.fresh _ (Nat.le_refl _)
         have ks := ((((k3.outside (i := 0) (v := .int .i64 i.op) lb).outside (i := 1) (v := .int .i64 i.d) lb).outside (i := 2) (v := .int .i64 i.a) lb).outside (i := 3) (v := .int .i64 i.b) lb).outside (i := 4) (v := .int .i64 i.imm) lb
         have hC5 := HC _ ks))
  all_goals go_upto_region 9 with fail
  · have Q9 := at9_new (i := i) k3 HF2.out b3
    obtain ⟨z, hz⟩ : ∃ z, z = w3.heap.size := ⟨_, rfl⟩
    rw [← hz] at Q9 ⊢
    refine world_wp (fun W => At9 w W S S1 z i) Q9 ?_
    clear Q9 hz k3 b3 hC3 hCA3 hC0 hCA HC PC TC AT OP ACT HKA HK2d HK2 HF2 HK1 HF1
    rintro W Q9
    have c0 : W.cell? ⟨z, 0, none⟩ = some (.int .i64 i.op) := has_cell 0 Q9.z.1 rfl
    rw [HOP.out] at c0
    have H9 := Lib.hid Q9
    clear Q9
    go_wp2_with (go_at_call 77; refine (A _ H9.out.k).mono ?_; rintro e w5 ⟨Sf, rfl, q, k5, f5⟩)
    exact bodyPost_end (results_none rfl _ _ _) rfl ⟨Sf, rfl, q, k5, H9.out.f.trans f5⟩
  · have Q9 := at9_old (i := i) HK2.out k3 HF2.out b3 x6
    obtain ⟨z, hz⟩ : ∃ z, z = w2.heap.size := ⟨_, rfl⟩
    rw [← hz] at Q9 ⊢
    refine world_wp (fun W => At9 w W S S1 z i) Q9 ?_
    clear Q9 hz hC5 ks lb hC3 yf y4 y3 y2 y1 y0 x6 k3 b3 hC0 hCA HC PC TC AT OP ACT HKA HK2d HK2 HF2 HK1 HF1
    rintro W Q9
    have c0 : W.cell? ⟨z, 0, none⟩ = some (.int .i64 i.op) := has_cell 0 Q9.z.1 rfl
    rw [HOP.out] at c0
    have H9 := Lib.hid Q9
    clear Q9
    go_wp2_with (go_at_call 77; refine (A _ H9.out.k).mono ?_; rintro e w5 ⟨Sf, rfl, q, k5, f5⟩)
    exact bodyPost_end (results_none rfl _ _ _) rfl ⟨Sf, rfl, q, k5, H9.out.f.trans f5⟩
end Go.Proofs.YtagmlijhgncklaaGreatDoor.Ker
