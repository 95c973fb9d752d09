/-
  A thread ends (the kernel's end) where there is one mutex, over the translation of this seat. Conditions: the blocks that are named hold what is said; nobody waits for the mutex. (Written by genendm.py.)
  A thread unwinds to its end, where what its end does is known; with one mutex. Conditions: the blocks that are named hold what is said. (Written by genoverm.py.)
-/
import Derived.Test.YtagmlijhgncklaaGreatDoorD33
import Derived.Test.YtagmlijhgncklaaGreatDoorD26
import Derived.Stop.RegionWithIn
import Derived.Sort.CutIn
set_option linter.unusedVariables false
namespace Go.Proofs.YtagmlijhgncklaaGreatDoor.Ker
open Go.RowKit Go.Proofs.YtagmlijhgncklaaGreatDoor

attribute [local go_sem] Oper.semAt_some
attribute [local go_sem] Tab.wide_fn Tab.wide_round_fn

/-- What holds while the mutexes are gone over. -/
structure EndM (w W : World) (S S1 : KS) (p : Nat) : Prop where
  k : KW W S1
  fr : Fr S S1 w W
  b0 : W.heap[w.heap.size]? = some (.cells #[.pointer (some ⟨S.B.kb, 0, none⟩)] 36 (0, 0))
  b1 : W.heap[w.heap.size + 1]? = some (.cells #[.int .i64 p] 3 (0, 0))
  sz : w.heap.size + 1 < W.heap.size
theorem EndM.reads {w W W' : World} {S S1 : KS} {p : Nat} (h : EndM w W S S1 p) (k : Below W.heap.size W W') : EndM w W' S S1 p :=
  ⟨h.k.reads k, h.fr.trans (Fr.reads S1 k), below_has k h.b0, below_has k h.b1, Nat.lt_of_lt_of_le h.sz k.size⟩
theorem EndM.own {w w6 : World} {S : KS} {Sx : List Unit → KS} {p : Nat} (hk : KW w S) (hl : ∀ l, (Sx l).lo.lab = S.lo.lab) (hs : w.heap.size + 1 < w6.heap.size) : OwnFrom w6.heap.size (fun (l : List Unit) W => EndM w W S (Sx l) p) :=
  fun l X Y row h hg hr => by
    have keep : ∀ b, b < X.heap.size → b < w6.heap.size → Y.heap[b]? = X.heap[b]? := fun b h1 h2 => hg.block b h1 (fun e => by have := (hr b e.symm).1; omega)
    have zero : ∀ b, w.heap.size ≤ b → (Sx l).lo.lab b = 0 := fun b hb => by rw [hl l]; exact hk.fresh b hb
    refine ⟨h.k.keeps hg.size (fun b hb hb0 => ?_), ⟨hg.os.trans h.fr.os, hg.tape.trans h.fr.tape, hg.output.trans h.fr.output, Nat.le_trans h.fr.size hg.size, fun b hb hb0 => ?_, h.fr.lab⟩, (keep _ (has_lt h.b0) (by omega)).trans h.b0, (keep _ (has_lt h.b1) (by omega)).trans h.b1, Nat.lt_of_lt_of_le h.sz hg.size⟩
    · by_cases e : b < w6.heap.size
      · exact keep b hb e
      · exact absurd (zero b (by omega)) hb0
    · exact (keep b (Nat.lt_of_lt_of_le hb h.fr.size) (by omega)).trans (h.fr.block b hb hb0)
/-- .. and what holds behind. -/
structure EndX (Wb W : World) (S : KS) (x p : Nat) (D : List Nat) : Prop where
  below : Below Wb.heap.size Wb W
  b0 : W.heap[x]? = some (.cells #[.pointer (some ⟨S.B.kb, 0, none⟩)] 36 (0, 0))
  b1 : W.heap[x + 1]? = some (.cells #[.int .i64 p] 3 (0, 0))
  sz : x + 1 < W.heap.size
  ds : ∀ d ∈ D, x + 1 < d ∧ W.heap[d]? = some (.deferred (some []))
theorem EndX.reads {w W W' : World} {S : KS} {x p : Nat} {D : List Nat} (h : EndX w W S x p D) (k : Below W.heap.size W W') : EndX w W' S x p D :=
  ⟨h.below.trans (k.mono h.below.size), below_has k h.b0, below_has k h.b1, Nat.lt_of_lt_of_le h.sz k.size, fun d hd => ⟨(h.ds d hd).1, below_has k (h.ds d hd).2⟩⟩
theorem EndX.own {w w6 : World} {S : KS} {x p : Nat} {D : List Nat} (hw : w.heap.size ≤ w6.heap.size) (hs : x + 1 < w6.heap.size) (hd : ∀ d ∈ D, d < w6.heap.size) : OwnFrom w6.heap.size (fun (_ : List (Nat × Int)) W => EndX w W S x p D) :=
  fun _ X Y row h hg hr => ⟨ownFrom_below (β := Unit) (n₀ := w.heap.size) (B := w6.heap.size) (w₀ := w) (Nat.le_refl _) (by omega) () X Y row h.below hg hr, Tab.own_has (β := Unit) (B := w6.heap.size) (by omega) (fun _ => _) () X Y row h.b0 hg hr, Tab.own_has (β := Unit) (B := w6.heap.size) (by omega) (fun _ => _) () X Y row h.b1 hg hr,
    Nat.lt_of_lt_of_le h.sz hg.size, fun d hdD => ⟨(h.ds d hdD).1, Tab.own_has (β := Unit) (B := w6.heap.size) (hd d hdD) (fun _ => _) () X Y row (h.ds d hdD).2 hg hr⟩⟩
theorem EndX.v {w Wb W : World} {S S1 : KS} {p : Nat} {D : List Nat} (h : EndX Wb W S w.heap.size p D) (k : KW Wb S1) (f : Fr S S1 w Wb) (hl : ∀ b, w.heap.size ≤ b → S1.lo.lab b = 0) : EndV w W S S1 p D :=
  ⟨k.reads h.below, f.trans (Fr.reads S1 h.below), ⟨h.b0, hl _ (Nat.le_refl _)⟩, ⟨h.b1, hl _ (by omega)⟩, fun d hd => ⟨(h.ds d hd).1, (h.ds d hd).2, hl _ (by have := (h.ds d hd).1; omega)⟩⟩
theorem KP.ended {S : KS} (P : KP S) {p : Nat} {t : Th} (ht : S.th p = some t) (h1 : Key.KOk (Key.clearF S.kx p)) (h2 : ∀ i, ((Key.clearF S.kx p).k i).is = false) : KP (S.ended p t) := by
  have q := P.setTh (t' := { t with en := true }) ht rfl (P.can p t ht)
  exact { q with
    L := by show (S.L.set p Hs.no).length = 16; rw [List.length_set]; exact P.L
    R := RdOk.remF P.R p
    kx := h1
    live := h2 }
theorem withMu_P {S : KS} (P : KP S) {b q : Nat} {m : Mx.Mu} : KP (S.withMu b q m) := { P with }
theorem keeps_upd {w w1 w2 : World} {c : Nat} {cs : Array Value} {ty : TypeId} {fz : Nat × Nat} {o : Obj} (b : Below w.heap.size w w1) (hc : w.heap[c]? = some (.cells cs ty fz)) (u : Upd w1.drew c o w2) : KeepsOthers w w2 :=
  ⟨Nat.le_trans b.size u.size, fun k x hk hx => by
    have ne : k ≠ c := fun e => by rw [e, hc] at hk; cases hk; cases hx
    exact (u.2.block k (Nat.lt_of_lt_of_le (has_lt hk) b.size) (by intro e; cases e; exact ne rfl)).trans ((b.block k (has_lt hk)).trans hk)⟩
theorem mu_out {w W : World} {S S1 : KS} {b q g : Nat} {m : Mx.Mu} (k : KW W S1) (H : HasMu S1 b q g m) (h : KW w S) {x : Nat} (hx : w.heap.size ≤ x) (hl : S1.lo.lab = S.lo.lab) : x ≠ b := fun e => by
  have q2 := (k.ob 47 b _ ((obj_ext2 2).trans H.e2)).2
  rw [hl, ← e, h.fresh x hx] at q2
  omega
set_option maxRecDepth 100000 in
set_option maxHeartbeats 2000000 in
theorem endM_stays (w : World) (S : KS) {B : KB} (hB : S.B = B) (h : KW w S) (P : KP S) (p p0 : Nat) (t : Th) (hp : p < 16) (ht : S.th p = some t) (hpol : t.pol ≠ 2) {mb mq mg : Nat} {mx mx' : Mx.Mu} (HM0 : HasMu S mb mq mg mx) (EN0 : ∀ W, Mx.MuW W mb mq mg mx → Calls Tryz.prog 337 #[.pointer (some ⟨mb, 0, none⟩), .int .i64 p] W fun e w' => e = .returned (.slice none 0 0) ∧ Upd W mb (Mx.muO mx' mq) w') (hjn : t.jn = true) (hjr : t.jr < 0)
    (hin : (S.L.getD p Hs.no).isIn = true) (hq1 : 1 ≤ p0) (hq : p0 < 32) (hz : S.R.pr.getD p 0 = p0) (hv : Lk (S.R.pv.getD p 0)) (hn : Lk (S.R.nx.getD p 0)) (hs0 : 0 ≤ S.st) (hs1 : S.st ≤ 700000000) :
    Calls Tryz.prog 204 #[.pointer (some ⟨B.kb, 0, none⟩), .pointer (some ⟨t.b, 0, none⟩)] w fun e w' => e = .returned (.tuple #[]) ∧ KW w' ((S.withMu mb mq mx').ended p t) ∧ Fr S ((S.withMu mb mq mx').ended p t) w w' := by
  subst hB
  have HK := Lib.hid h
  have HP := Lib.hid P
  obtain ⟨wb, hwb⟩ : ∃ wb, wb = (w.alloc (.cells #[.pointer (some ⟨S.B.kb, 0, none⟩)] 36)).alloc (.cells #[.int .i64 p] 3) := ⟨_, rfl⟩
  have bb : Below w.heap.size w wb := by
    rw [hwb]
    exact ((Below.refl w.heap.size w).alloc (Nat.le_refl _) _).alloc (by simp) _
  have E0 : EndM w wb S S p := by
    refine ⟨h.reads bb, Fr.reads S bb, ?_, ?_, ?_⟩
    · rw [hwb]; exact below_alloc_has (heap_alloc_new w _)
    · rw [hwb]; have q := heap_alloc_new (w.alloc (.cells #[.pointer (some ⟨S.B.kb, 0, none⟩)] 36)) (.cells #[.int .i64 p] 3); rw [World.size_alloc] at q; exact q
    · rw [hwb]; simp
  have hT0 : (w.alloc (.cells #[.pointer (some ⟨S.B.kb, 0, none⟩)] 36)).heap[t.b]? = some (thO p t) := below_alloc_has (h.getTh hp ht)
  have c0 := tc0 hT0
  clear h P hT0 bb
  refine Tab.calls_of_marks 4 Tryz.func204 rfl ?_
  simp only [Tryz.ntmps204, List.size_toArray, List.length_cons, List.length_nil, Nat.reduceAdd, Nat.reduceSub, Array.replicate_succ, Array.replicate_zero, List.push_toArray, List.append_toArray, List.nil_append, List.cons_append]
  refine wpIn_wide.2 ?_
  go_upto_region 2 with fail
  rw [← hwb]
  clear hwb c0
  have kb := E0.k
  have ca : wb.cell? ⟨w.heap.size, 0, none⟩ = some (.pointer (some ⟨S.B.kb, 0, none⟩)) := has_cell 0 E0.b0 rfl
  have c63 := kc63 (B := S.B) kb rfl
  have cmt : wb.cell? ⟨S.B.mu, 0, none⟩ = some (.pointer (some ⟨S.B.mub, 0, none⟩)) := has_cell 0 (kb.has 9 rfl) rfl
  have HE0 := Lib.hid E0
  have HT := Lib.hid ht
  have HPOL := Lib.hid hpol
  have HM1 := Lib.hid HM0
  have HEN := Lib.hid EN0
  have HJN := Lib.hid hjn
  have HJR := Lib.hid hjr
  have HIN := Lib.hid hin
  have HQ := Lib.hid (And.intro hq1 hq)
  have HZ := Lib.hid hz
  have HV := Lib.hid hv
  have HN := Lib.hid hn
  have HS0 := Lib.hid (And.intro hs0 hs1)
  clear E0 ht hpol HM0 EN0 hjn hjr hin hq1 hq hz hv hn hs0 hs1
  go_wp2_with (go_at_call 109; refine (Tab.all_c _ _).mono ?_; rintro e w6 ⟨rfl, x6, b6⟩; have k6 := kb.reads b6; have E6 := HE0.out.reads b6; clear kb ca c63 cmt b6)
  have sz6 : wb.heap.size < w6.heap.size := has_lt x6
  have szb := HE0.out.sz
  refine (wpIn_wide (n := 4)).1 ?_
  refine named ?_
  intro fa hfa
  refine wpIn_rangeFunc_ownF rfl (by decide) (gf := 178) (lb := #[.pointer (some ⟨wb.heap.size, 0, none⟩)]) (by rw [hfa]; rfl) trivial Tab.enters178
    (one_stops 3 (by decide) S.B.mub wb.heap.size w6 (by have q := k6.has 10 rfl; rw [HM1.out.T] at q; exact q) x6) Tab.keep2_t (Tab.keep2_b (has_lt (k6.has 10 rfl)) (by omega)) (Below.refl _ _) (fun _ => rfl)
    (fun (l : List Unit) W => EndM w W S (if l = [] then S else (S.withMu mb mq mx')) p ∧ wb.heap.size < W.heap.size) (fun _ _ _ => False)
    (fun l X Y row h hg hr => ⟨EndM.own (Sx := fun l => if l = [] then S else (S.withMu mb mq mx')) HK.out (fun l => by show (if l = [] then S else _).lo.lab = S.lo.lab; split <;> rfl) (by omega) l X Y row h.1 hg hr, Nat.lt_of_lt_of_le h.2 hg.size⟩) (fun _ => Tab.own_pure _) ⟨by rw [if_pos rfl]; exact E6, sz6⟩
    (fun x => { tmps := ((fa.tmps.setIfInBounds 33 (.int .i64 0)).setIfInBounds 34 (.int .i64 16)).setIfInBounds 6 (.int .i64 16), defers := [] })
    ?assign ?body ?done ?stop
  case assign =>
    intro l x W K hK
    subst hfa
    simp only [encM, Tab.zip2, Tab.fold2, List.setIfInBounds_toArray, List.set_cons_succ, List.set_cons_zero] at hK ⊢
    gi_wp2
    exact hK
  case body =>
    intro l pre x W hS hlen
    subst hfa
    obtain rfl : pre = [] := by
      match pre, hlen with
      | [], _ => rfl
      | _ :: _, h => exact absurd h (by simp)
    have hSz := hS.2
    have hS := hS.1
    rw [if_pos rfl] at hS
    have kW := hS.k
    have cW : W.cell? ⟨w.heap.size, 0, none⟩ = some (.pointer (some ⟨S.B.kb, 0, none⟩)) := has_cell 0 hS.b0 rfl
    have cW1 : W.cell? ⟨w.heap.size + 1, 0, none⟩ = some (.int .i64 p) := has_cell 0 hS.b1 rfl
    have c63 := kc63 (B := S.B) kW rfl
    have FM := muFind_c W S rfl kW HM1.out
    have HS := Lib.hid hS
    have HKW := Lib.hid kW
    clear hS kW
    simp only [List.setIfInBounds_toArray, List.set_cons_succ, List.set_cons_zero]
    gi_upto_region 5 with (gi_at_call 113; refine (CallsIn.inRound l (callsIn_wide.2 FM)).mono ?_; rintro e W2 ⟨rfl, b2⟩; have s2 := HS.out.reads b2; have HB2 := Lib.hid b2; have HS2 := Lib.hid s2; have e0 : W2.cell? ⟨w.heap.size, 0, none⟩ = some (.pointer (some ⟨S.B.kb, 0, none⟩)) := has_cell 0 s2.b0 rfl; have e1 : W2.cell? ⟨w.heap.size + 1, 0, none⟩ = some (.int .i64 p) := has_cell 0 s2.b1 rfl; clear b2 s2 FM cW cW1 c63)
    have d0 : W2.drew.cell? ⟨w.heap.size, 0, none⟩ = some (.pointer (some ⟨S.B.kb, 0, none⟩)) := e0
    have EN1 := HEN.out W2.drew (HM1.out.w (HS2.out.k.keeps (w' := W2.drew) (Nat.le_refl _) (fun _ _ _ => rfl)))
    gi_region_with (first
      | (gi_at_call 337; refine (CallsIn.inRound l (callsIn_wide.2 EN1)).mono ?_; rintro e W3 ⟨rfl, u3⟩; have q3 := (HS2.out.k.keeps (w' := W2.drew) (Nat.le_refl _) (fun _ _ _ => rfl)).mutex HM1.out u3; have HU3 := Lib.hid u3; have HQ3 := Lib.hid q3
         have f0 : W3.cell? ⟨w.heap.size, 0, none⟩ = some (.pointer (some ⟨S.B.kb, 0, none⟩)) := has_cell 0 (u3.other (w := W2.drew) HS2.out.b0 (mu_out HS2.out.k HM1.out HK.out (Nat.le_refl _) rfl)) rfl
         clear u3 q3)
      | (gi_at_call 336; refine (CallsIn.inRound l (callsIn_wide.2 (gots_nil _ _))).mono ?_; rintro e w' ⟨rfl, rfl⟩))
    all_goals
      have n0 := mu_out HS2.out.k HM1.out HK.out (Nat.le_refl w.heap.size) rfl
      have n1 := mu_out HS2.out.k HM1.out HK.out (x := w.heap.size + 1) (by omega) rfl
      have n2 := mu_out HS2.out.k HM1.out HK.out (x := wb.heap.size) (by omega) rfl
      have n3 : S.B.mub ≠ mb := HKW.out.ne (i := 10) (j := 47) rfl ((obj_ext2 2).trans HM1.out.e2) (by decide)
      have hm0 := (HKW.out.ob 47 mb _ ((obj_ext2 2).trans HM1.out.e2)).1
      have lt10 := has_lt (HKW.out.has 10 rfl)
      have hsz := HB2.out.size
      have u3 := HU3.out
      refine ⟨keeps_upd HB2.out hm0 u3, ⟨?_, ?_⟩, ?_⟩
      · exact (u3.2.block _ (Nat.lt_of_lt_of_le lt10 hsz) (by intro e; cases e; exact n3 rfl)).trans (HB2.out.block _ lt10)
      · exact (u3.2.block _ (Nat.lt_of_lt_of_le hSz hsz) (by intro e; cases e; exact n2 rfl)).trans (HB2.out.block _ hSz)
      · show EndM w W3 S (if ([()] : List Unit) = [] then S else S.withMu mb mq mx') p ∧ wb.heap.size < W3.heap.size
        rw [if_neg (by simp)]
        exact ⟨⟨HQ3.out.1, HS2.out.fr.drew.trans HQ3.out.2.1, u3.other (w := W2.drew) HS2.out.b0 n0, u3.other (w := W2.drew) HS2.out.b1 n1, Nat.lt_of_lt_of_le HS2.out.sz u3.size⟩, Nat.lt_of_lt_of_le hSz (Nat.le_trans hsz u3.size)⟩
  case stop =>
    rintro D c pre W _ _ h _
    exact h.elim
  case done =>
    rintro D1 ys W1 hD1 rfl hS1 hK1
    subst hfa
    have hS1 := hS1.1
    rw [if_neg (by simp)] at hS1
    have E1 : EndX W1 W1 S w.heap.size p [D1] := ⟨Below.refl _ _, hS1.b0, hS1.b1, hS1.sz, fun d hd => by rw [List.mem_singleton] at hd; subst hd; exact ⟨by omega, hK1⟩⟩
    have k1 := hS1.k
    have HF1 := Lib.hid hS1.fr
    have hl1 : ∀ b, w.heap.size ≤ b → (S.withMu mb mq mx').lo.lab b = 0 := fun b hb => HK.out.fresh b hb
    have HL1 := Lib.hid hl1
    clear hl1
    have HK1 := Lib.hid k1
    have c1 : W1.cell? ⟨w.heap.size, 0, none⟩ = some (.pointer (some ⟨S.B.kb, 0, none⟩)) := has_cell 0 hS1.b0 rfl
    have c67 := kc67 (B := S.B) k1 rfl
    have crt : W1.cell? ⟨S.B.rw, 0, none⟩ = some (.pointer (some ⟨S.B.rwt, 0, none⟩)) := has_cell 0 (k1.cs _ _ HP.out.rw_).1 rfl
    have HE1 := Lib.hid E1
    clear E1 hS1 hK1 k6 E6 x6
    go_wp2_with (go_at_call 109; refine (Tab.all_c _ _).mono ?_; rintro e w7 ⟨rfl, x7, b7⟩; have k7 := k1.reads b7; have E7 := HE1.out.reads b7; clear k1 c1 c67 crt b7)
    have sz7 : W1.heap.size < w7.heap.size := has_lt x7
    have sz1 := HE1.out.sz
    have sd1 := has_lt (HE1.out.ds D1 (List.mem_singleton.2 rfl)).2
    obtain ⟨m, m1, m16, hmt⟩ := HP.out.rwt
    refine (wpIn_wide (n := 4)).1 ?_
    refine named ?_
    intro fa hfa
    refine wpIn_rangeFunc_ownF rfl (by decide) (gf := 178) (lb := #[.pointer (some ⟨W1.heap.size, 0, none⟩)]) (by rw [hfa]; rfl) trivial Tab.enters178
      (Tab.all_free 3 (by decide) S.B.rwt W1.heap.size (List.replicate m (false, 0)) w7 (k7.cs _ _ hmt).1 x7 (by simpa using m1) (by simpa using m16) (gn_replicate m) (tk_replicate m)) (fun _ _ => trivial) (fun _ _ _ _ _ _ _ _ => trivial) (Below.refl _ _) (fun _ => rfl)
      (fun (_ : List (Nat × Int)) W => EndX W1 W S w.heap.size p [D1]) (fun _ _ _ => False)
      (EndX.own (by omega) (by omega) (fun d hd => by rw [List.mem_singleton] at hd; omega)) (fun _ => Tab.own_pure _) E7
      (fun x => { tmps := ((fa.tmps.setIfInBounds 57 (.int .i64 x.1)).setIfInBounds 58 (.int .i64 x.2)).setIfInBounds 10 (.int .i64 x.2), defers := [] })
      ?assign ?body ?done ?stop
    case assign =>
      intro l x W K hK
      subst hfa
      simp only [Tab.encH, Tab.zip2, Tab.fold2, List.setIfInBounds_toArray, List.set_cons_succ, List.set_cons_zero] at hK ⊢
      gi_wp2
      exact hK
    case body =>
      intro l pre x W _ hlen
      exact absurd hlen (Nat.not_lt_zero _)
    case stop =>
      rintro D c pre W _ h _ _
      exact h.elim
    case done =>
      rintro D2 ys W2 hD2 rfl hS2 hK2
      subst hfa
      have E2 : EndX W1 W2 S w.heap.size p [D2, D1] := ⟨hS2.below, hS2.b0, hS2.b1, hS2.sz, fun d hd => by
        rcases List.mem_cons.1 hd with rfl | hd
        · exact ⟨by omega, hK2⟩
        · exact hS2.ds d hd⟩
      have hD21 : D2 ≠ D1 := by omega
      have k2 := HK1.out.reads hS2.below
      have c2 : W2.cell? ⟨w.heap.size, 0, none⟩ = some (.pointer (some ⟨S.B.kb, 0, none⟩)) := has_cell 0 hS2.b0 rfl
      have hr89 : W2.rangeAt S.B.kb 72 S.ons := k2.onr
      have HE2 := Lib.hid E2
      clear E2 hS2 hK2 k7 E7 x7 k2 HE1 HE0
      go_wp2_with (refine wpList_load_mid rfl 89 (.tmp 81) rfl S.B.kb 72 rfl S.ons _ hr89 Tryz.underlying89 rfl (by kernel_rfl) ?_)
      clear hr89 c2
      go_loopw [83] (fun i wr => ∃ j : Nat, i = .int .i64 j ∧ j ≤ 8 ∧ EndX W1 wr S w.heap.size p [D2, D1]) (fun i _ => 8 - (intOf i).toNat)
      case atStart => exact ⟨0, rfl, by omega, HE2.out⟩
      case round =>
        obtain ⟨j, rfl, hj, E3⟩ := hrel
        by_cases hlt : j < 8
        · have hix := run_index_89 S.ons j _ rfl hlt (S.ons_get hlt) wr
          have A := Key.at_c wr (S.B.on j) ⟨0, 0⟩ ((HK1.out.reads E3.below).cs _ _ (HP.out.on j hlt)).1
          have HE3 := Lib.hid E3
          clear E3
          go_wp2_with (go_at_call 339; refine A.mono ?_; rintro e w8 ⟨rfl, b8⟩; have HE4 := Lib.hid (HE3.out.reads b8); clear b8)
          go_roundw
          case rel => exact ⟨j + 1, by go_num, by omega, HE4.out⟩
          case measure => simp [intOf]; omega
        · obtain rfl : j = 8 := by omega
          have V := (E3.v HK1.out HF1.out HL1.out).drew
          have c0 : wr.cell? ⟨w.heap.size, 0, none⟩ = some (.pointer (some ⟨S.B.kb, 0, none⟩)) := has_cell 0 E3.b0 rfl
          have c1 : wr.cell? ⟨w.heap.size + 1, 0, none⟩ = some (.int .i64 p) := has_cell 0 E3.b1 rfl
          have c26 := kc26 (B := S.B) (HK1.out.reads E3.below) rfl
          have A := turns_leave wr.drew S.B.tb S.B.rb S.B.J.q S.L S.R S.st p p0 (V.k.tn HP.out.L HP.out.R) hp HIN.out HQ.out.1 HQ.out.2 HZ.out HV.out HN.out HS0.out.1 HS0.out.2
          obtain ⟨S1, hS1⟩ : ∃ S1 : KS, S1 = { (S.withMu mb mq mx') with L := S.L.set p Hs.no, R := S.R.remF p, st := S.st + 2 } := ⟨_, rfl⟩
          have K1 : ∀ W, Tn W S.B.tb S.B.rb S.B.J.q (S.L.set p Hs.no) (S.R.remF p) (S.st + 2) → Upd2 wr.drew S.B.tb S.B.rb W → EndV w W S S1 p [D2, D1] := fun W T u => by
            have q := V.k.turns T u
            rw [hS1]
            exact V.step q.1 q.2
          have hB1 : S1.B = S.B := by rw [hS1]; rfl
          have ht1 : S1.th p = some t := by rw [hS1]; exact HT.out
          have hx1 : S1.kx = S.kx := by rw [hS1]; rfl
          have HSE : ((S.withMu mb mq mx').ended p t) = { S1 with kx := Key.clearF S.kx p, th := put S1.th p (some { t with en := true }) } := by rw [hS1]; rfl
          have HB1 := Lib.hid hB1
          have HT1 := Lib.hid ht1
          have HX1 := Lib.hid hx1
          have HSE := Lib.hid HSE
          clear E3 V hS1 hB1 ht1 hx1
          go_wp2_with fail
          refine still_tail 5 (by kernel_rfl) (by kernel_rfl) ?_
          simp only [List.take_succ_cons, List.take_zero, List.drop_succ_cons, List.drop_zero]
          repeat still_step
          refine wpStill_nil ?_
          have HC := fun W (V1 : EndV w W S S1 p [D2, D1]) => V1.k
          go_wp2_with (first
            | (go_at_call 340; refine A.mono ?_; rintro e w9 ⟨rfl, T9, u9⟩
               have V1 := K1 w9 T9 u9
               have c0' : w9.cell? ⟨w.heap.size, 0, none⟩ = some (.pointer (some ⟨S.B.kb, 0, none⟩)) := has_cell 0 V1.b0.1 rfl
               have c1' : w9.cell? ⟨w.heap.size + 1, 0, none⟩ = some (.int .i64 p) := has_cell 0 V1.b1.1 rfl
               have c30 := kc30 (B := S.B) V1.k HB1.out
               have hT9 := V1.k.getTh hp HT1.out
               have HV1 := Lib.hid V1
               clear c0 c1 c26 T9 u9 V1 A)
            | (go_at_call 341; refine (stops_c _ p t _ hT9 HPOL.out).mono ?_; rintro e w' ⟨rfl, rfl⟩))
          have pn := HP.out.thn p t HT.out
          have A2 := Go.Proofs.YtagmlijhgncklaaGreatDoor.clear_c w9.drew S.B.sg S.B.mb p S.B.J.t S.B.J.s (by have q := HV1.out.drew.k.has 7 rfl; rw [HB1.out] at q; exact q) hp (by rw [HP.out.n]; omega)
          refine still_tail 5 (by kernel_rfl) (by kernel_rfl) ?_
          simp only [List.take_succ_cons, List.take_zero, List.drop_succ_cons, List.drop_zero]
          repeat still_step
          refine wpStill_nil ?_
          go_wp2_with (go_at_call 342; refine A2.mono ?_; rintro e w10 ⟨rfl, u10⟩
                       have q10 := HV1.out.drew.k.same 7 (b := S.B.sg) (o := sgO S.B.J.t S.B.J.s S.B.mb) (by rw [← HB1.out]; rfl) u10
                       have V2 := HV1.out.drew.step q10.1 q10.2
                       have c0 : w10.cell? ⟨w.heap.size, 0, none⟩ = some (.pointer (some ⟨S.B.kb, 0, none⟩)) := has_cell 0 V2.b0.1 rfl
                       have c1 : w10.cell? ⟨w.heap.size + 1, 0, none⟩ = some (.int .i64 p) := has_cell 0 V2.b1.1 rfl
                       have c71 := kc71 (B := S.B) V2.k HB1.out
                       have HV2 := Lib.hid V2
                       clear c0' c1' c30 hT9 u10 q10 V2 A2)
          have A3 := Key.clear_c w10.drew S.B.ke S.kx p (by have q := HV2.out.drew.k.has 8 rfl; rw [HB1.out, HX1.out] at q; exact q) HP.out.kx hp
          refine still_tail 5 (by kernel_rfl) (by kernel_rfl) ?_
          simp only [List.take_succ_cons, List.take_zero, List.drop_succ_cons, List.drop_zero]
          repeat still_step
          refine wpStill_nil ?_
          obtain ⟨S2, hS2⟩ : ∃ S2 : KS, S2 = { S1 with kx := Key.clearF S.kx p } := ⟨_, rfl⟩
          have ht2 : S2.th p = some t := by rw [hS2]; exact HT1.out
          have K2 : ∀ W, Upd w10.drew S.B.ke (Key.kO (Key.clearF S.kx p)) W → EndV w W S S2 p [D2, D1] := fun W u => by
            have q := HV2.out.drew.k.keys (K := Key.clearF S.kx p) (by rw [HB1.out]; exact u)
            rw [hS2]
            exact HV2.out.drew.step q.1 q.2
          have HSE2 : ((S.withMu mb mq mx').ended p t) = { S2 with th := put S2.th p (some { t with en := true }) } := by rw [HSE.out, hS2]
          have HT2 := Lib.hid ht2
          have HSE2 := Lib.hid HSE2
          have dj : decide (0 ≤ t.jr) = false := by have := HJR.out; simp; omega
          clear hS2 ht2
          go_wp2_with (go_at_call 343; refine A3.mono ?_; rintro e w11 ⟨rfl, u11⟩
                       have V3 := K2 w11 u11
                       have hT := V3.k.getTh hp HT2.out
                       have c18 := tc18 hT
                       rw [HJN.out] at c18
                       have c19 := tc19 hT
                       have c20 := tc20 hT
                       have fz := has_free hT
                       have HV3 := Lib.hid V3
                       have HTB := Lib.hid hT
                       clear c0 c1 c71 u11 V3 A3 hT)
          have q := HV3.out.k.thr (t' := { t with en := true }) hp HT2.out ((((Upd.refl HTB.out).setCell 20 (.bool true))).to (by simp only [thO]; congr 1)) rfl rfl rfl
          have V4 := (HV3.out.step q.1 q.2).mark (fun x hx => by rw [List.mem_singleton] at hx; omega)
          have V5 := V4.mark (fun x hx => by cases hx)
          refine ⟨by simp, .inl ⟨_, _, rfl, run_takeDeferred ((HV3.out.step q.1 q.2).ds D2 (List.mem_cons_self ..)).2.1, by simp, .inl ⟨_, _, rfl, run_takeDeferred (V4.ds D1 (List.mem_singleton.2 rfl)).2.1, ?_⟩⟩⟩
          refine ⟨_, results_none rfl _ _ _, rfl, ?_⟩
          rw [HSE2.out]
          exact ⟨V5.k, V5.fr⟩
set_option maxRecDepth 100000 in
set_option maxHeartbeats 2000000 in
theorem endM_gone (w : World) (S : KS) {B : KB} (hB : S.B = B) (h : KW w S) (P : KP S) (p p0 : Nat) (t : Th) (hp : p < 16) (ht : S.th p = some t) (hpol : t.pol ≠ 2) {mb mq mg : Nat} {mx mx' : Mx.Mu} (HM0 : HasMu S mb mq mg mx) (EN0 : ∀ W, Mx.MuW W mb mq mg mx → Calls Tryz.prog 337 #[.pointer (some ⟨mb, 0, none⟩), .int .i64 p] W fun e w' => e = .returned (.slice none 0 0) ∧ Upd W mb (Mx.muO mx' mq) w') (hjn : t.jn = false) (hat : Tab.atF S.T t.hd = some p)
    (hin : (S.L.getD p Hs.no).isIn = true) (hq1 : 1 ≤ p0) (hq : p0 < 32) (hz : S.R.pr.getD p 0 = p0) (hv : Lk (S.R.pv.getD p 0)) (hn : Lk (S.R.nx.getD p 0)) (hs0 : 0 ≤ S.st) (hs1 : S.st ≤ 700000000) :
    Calls Tryz.prog 204 #[.pointer (some ⟨B.kb, 0, none⟩), .pointer (some ⟨t.b, 0, none⟩)] w fun e w' => e = .returned (.tuple #[]) ∧ KW w' (((S.withMu mb mq mx').ended p t).gone p) ∧ Fr S (((S.withMu mb mq mx').ended p t).gone p) w w' := by
  subst hB
  have HK := Lib.hid h
  have HP := Lib.hid P
  obtain ⟨wb, hwb⟩ : ∃ wb, wb = (w.alloc (.cells #[.pointer (some ⟨S.B.kb, 0, none⟩)] 36)).alloc (.cells #[.int .i64 p] 3) := ⟨_, rfl⟩
  have bb : Below w.heap.size w wb := by
    rw [hwb]
    exact ((Below.refl w.heap.size w).alloc (Nat.le_refl _) _).alloc (by simp) _
  have E0 : EndM w wb S S p := by
    refine ⟨h.reads bb, Fr.reads S bb, ?_, ?_, ?_⟩
    · rw [hwb]; exact below_alloc_has (heap_alloc_new w _)
    · rw [hwb]; have q := heap_alloc_new (w.alloc (.cells #[.pointer (some ⟨S.B.kb, 0, none⟩)] 36)) (.cells #[.int .i64 p] 3); rw [World.size_alloc] at q; exact q
    · rw [hwb]; simp
  have hT0 : (w.alloc (.cells #[.pointer (some ⟨S.B.kb, 0, none⟩)] 36)).heap[t.b]? = some (thO p t) := below_alloc_has (h.getTh hp ht)
  have c0 := tc0 hT0
  clear h P hT0 bb
  refine Tab.calls_of_marks 4 Tryz.func204 rfl ?_
  simp only [Tryz.ntmps204, List.size_toArray, List.length_cons, List.length_nil, Nat.reduceAdd, Nat.reduceSub, Array.replicate_succ, Array.replicate_zero, List.push_toArray, List.append_toArray, List.nil_append, List.cons_append]
  refine wpIn_wide.2 ?_
  go_upto_region 2 with fail
  rw [← hwb]
  clear hwb c0
  have kb := E0.k
  have ca : wb.cell? ⟨w.heap.size, 0, none⟩ = some (.pointer (some ⟨S.B.kb, 0, none⟩)) := has_cell 0 E0.b0 rfl
  have c63 := kc63 (B := S.B) kb rfl
  have cmt : wb.cell? ⟨S.B.mu, 0, none⟩ = some (.pointer (some ⟨S.B.mub, 0, none⟩)) := has_cell 0 (kb.has 9 rfl) rfl
  have HE0 := Lib.hid E0
  have HT := Lib.hid ht
  have HPOL := Lib.hid hpol
  have HM1 := Lib.hid HM0
  have HEN := Lib.hid EN0
  have HJN := Lib.hid hjn
  have HAT := Lib.hid hat
  have HIN := Lib.hid hin
  have HQ := Lib.hid (And.intro hq1 hq)
  have HZ := Lib.hid hz
  have HV := Lib.hid hv
  have HN := Lib.hid hn
  have HS0 := Lib.hid (And.intro hs0 hs1)
  clear E0 ht hpol HM0 EN0 hjn hat hin hq1 hq hz hv hn hs0 hs1
  go_wp2_with (go_at_call 109; refine (Tab.all_c _ _).mono ?_; rintro e w6 ⟨rfl, x6, b6⟩; have k6 := kb.reads b6; have E6 := HE0.out.reads b6; clear kb ca c63 cmt b6)
  have sz6 : wb.heap.size < w6.heap.size := has_lt x6
  have szb := HE0.out.sz
  refine (wpIn_wide (n := 4)).1 ?_
  refine named ?_
  intro fa hfa
  refine wpIn_rangeFunc_ownF rfl (by decide) (gf := 178) (lb := #[.pointer (some ⟨wb.heap.size, 0, none⟩)]) (by rw [hfa]; rfl) trivial Tab.enters178
    (one_stops 3 (by decide) S.B.mub wb.heap.size w6 (by have q := k6.has 10 rfl; rw [HM1.out.T] at q; exact q) x6) Tab.keep2_t (Tab.keep2_b (has_lt (k6.has 10 rfl)) (by omega)) (Below.refl _ _) (fun _ => rfl)
    (fun (l : List Unit) W => EndM w W S (if l = [] then S else (S.withMu mb mq mx')) p ∧ wb.heap.size < W.heap.size) (fun _ _ _ => False)
    (fun l X Y row h hg hr => ⟨EndM.own (Sx := fun l => if l = [] then S else (S.withMu mb mq mx')) HK.out (fun l => by show (if l = [] then S else _).lo.lab = S.lo.lab; split <;> rfl) (by omega) l X Y row h.1 hg hr, Nat.lt_of_lt_of_le h.2 hg.size⟩) (fun _ => Tab.own_pure _) ⟨by rw [if_pos rfl]; exact E6, sz6⟩
    (fun x => { tmps := ((fa.tmps.setIfInBounds 33 (.int .i64 0)).setIfInBounds 34 (.int .i64 16)).setIfInBounds 6 (.int .i64 16), defers := [] })
    ?assign ?body ?done ?stop
  case assign =>
    intro l x W K hK
    subst hfa
    simp only [encM, Tab.zip2, Tab.fold2, List.setIfInBounds_toArray, List.set_cons_succ, List.set_cons_zero] at hK ⊢
    gi_wp2
    exact hK
  case body =>
    intro l pre x W hS hlen
    subst hfa
    obtain rfl : pre = [] := by
      match pre, hlen with
      | [], _ => rfl
      | _ :: _, h => exact absurd h (by simp)
    have hSz := hS.2
    have hS := hS.1
    rw [if_pos rfl] at hS
    have kW := hS.k
    have cW : W.cell? ⟨w.heap.size, 0, none⟩ = some (.pointer (some ⟨S.B.kb, 0, none⟩)) := has_cell 0 hS.b0 rfl
    have cW1 : W.cell? ⟨w.heap.size + 1, 0, none⟩ = some (.int .i64 p) := has_cell 0 hS.b1 rfl
    have c63 := kc63 (B := S.B) kW rfl
    have FM := muFind_c W S rfl kW HM1.out
    have HS := Lib.hid hS
    have HKW := Lib.hid kW
    clear hS kW
    simp only [List.setIfInBounds_toArray, List.set_cons_succ, List.set_cons_zero]
    gi_upto_region 5 with (gi_at_call 113; refine (CallsIn.inRound l (callsIn_wide.2 FM)).mono ?_; rintro e W2 ⟨rfl, b2⟩; have s2 := HS.out.reads b2; have HB2 := Lib.hid b2; have HS2 := Lib.hid s2; have e0 : W2.cell? ⟨w.heap.size, 0, none⟩ = some (.pointer (some ⟨S.B.kb, 0, none⟩)) := has_cell 0 s2.b0 rfl; have e1 : W2.cell? ⟨w.heap.size + 1, 0, none⟩ = some (.int .i64 p) := has_cell 0 s2.b1 rfl; clear b2 s2 FM cW cW1 c63)
    have d0 : W2.drew.cell? ⟨w.heap.size, 0, none⟩ = some (.pointer (some ⟨S.B.kb, 0, none⟩)) := e0
    have EN1 := HEN.out W2.drew (HM1.out.w (HS2.out.k.keeps (w' := W2.drew) (Nat.le_refl _) (fun _ _ _ => rfl)))
    gi_region_with (first
      | (gi_at_call 337; refine (CallsIn.inRound l (callsIn_wide.2 EN1)).mono ?_; rintro e W3 ⟨rfl, u3⟩; have q3 := (HS2.out.k.keeps (w' := W2.drew) (Nat.le_refl _) (fun _ _ _ => rfl)).mutex HM1.out u3; have HU3 := Lib.hid u3; have HQ3 := Lib.hid q3
         have f0 : W3.cell? ⟨w.heap.size, 0, none⟩ = some (.pointer (some ⟨S.B.kb, 0, none⟩)) := has_cell 0 (u3.other (w := W2.drew) HS2.out.b0 (mu_out HS2.out.k HM1.out HK.out (Nat.le_refl _) rfl)) rfl
         clear u3 q3)
      | (gi_at_call 336; refine (CallsIn.inRound l (callsIn_wide.2 (gots_nil _ _))).mono ?_; rintro e w' ⟨rfl, rfl⟩))
    all_goals
      have n0 := mu_out HS2.out.k HM1.out HK.out (Nat.le_refl w.heap.size) rfl
      have n1 := mu_out HS2.out.k HM1.out HK.out (x := w.heap.size + 1) (by omega) rfl
      have n2 := mu_out HS2.out.k HM1.out HK.out (x := wb.heap.size) (by omega) rfl
      have n3 : S.B.mub ≠ mb := HKW.out.ne (i := 10) (j := 47) rfl ((obj_ext2 2).trans HM1.out.e2) (by decide)
      have hm0 := (HKW.out.ob 47 mb _ ((obj_ext2 2).trans HM1.out.e2)).1
      have lt10 := has_lt (HKW.out.has 10 rfl)
      have hsz := HB2.out.size
      have u3 := HU3.out
      refine ⟨keeps_upd HB2.out hm0 u3, ⟨?_, ?_⟩, ?_⟩
      · exact (u3.2.block _ (Nat.lt_of_lt_of_le lt10 hsz) (by intro e; cases e; exact n3 rfl)).trans (HB2.out.block _ lt10)
      · exact (u3.2.block _ (Nat.lt_of_lt_of_le hSz hsz) (by intro e; cases e; exact n2 rfl)).trans (HB2.out.block _ hSz)
      · show EndM w W3 S (if ([()] : List Unit) = [] then S else S.withMu mb mq mx') p ∧ wb.heap.size < W3.heap.size
        rw [if_neg (by simp)]
        exact ⟨⟨HQ3.out.1, HS2.out.fr.drew.trans HQ3.out.2.1, u3.other (w := W2.drew) HS2.out.b0 n0, u3.other (w := W2.drew) HS2.out.b1 n1, Nat.lt_of_lt_of_le HS2.out.sz u3.size⟩, Nat.lt_of_lt_of_le hSz (Nat.le_trans hsz u3.size)⟩
  case stop =>
    rintro D c pre W _ _ h _
    exact h.elim
  case done =>
    rintro D1 ys W1 hD1 rfl hS1 hK1
    subst hfa
    have hS1 := hS1.1
    rw [if_neg (by simp)] at hS1
    have E1 : EndX W1 W1 S w.heap.size p [D1] := ⟨Below.refl _ _, hS1.b0, hS1.b1, hS1.sz, fun d hd => by rw [List.mem_singleton] at hd; subst hd; exact ⟨by omega, hK1⟩⟩
    have k1 := hS1.k
    have HF1 := Lib.hid hS1.fr
    have hl1 : ∀ b, w.heap.size ≤ b → (S.withMu mb mq mx').lo.lab b = 0 := fun b hb => HK.out.fresh b hb
    have HL1 := Lib.hid hl1
    clear hl1
    have HK1 := Lib.hid k1
    have c1 : W1.cell? ⟨w.heap.size, 0, none⟩ = some (.pointer (some ⟨S.B.kb, 0, none⟩)) := has_cell 0 hS1.b0 rfl
    have c67 := kc67 (B := S.B) k1 rfl
    have crt : W1.cell? ⟨S.B.rw, 0, none⟩ = some (.pointer (some ⟨S.B.rwt, 0, none⟩)) := has_cell 0 (k1.cs _ _ HP.out.rw_).1 rfl
    have HE1 := Lib.hid E1
    clear E1 hS1 hK1 k6 E6 x6
    go_wp2_with (go_at_call 109; refine (Tab.all_c _ _).mono ?_; rintro e w7 ⟨rfl, x7, b7⟩; have k7 := k1.reads b7; have E7 := HE1.out.reads b7; clear k1 c1 c67 crt b7)
    have sz7 : W1.heap.size < w7.heap.size := has_lt x7
    have sz1 := HE1.out.sz
    have sd1 := has_lt (HE1.out.ds D1 (List.mem_singleton.2 rfl)).2
    obtain ⟨m, m1, m16, hmt⟩ := HP.out.rwt
    refine (wpIn_wide (n := 4)).1 ?_
    refine named ?_
    intro fa hfa
    refine wpIn_rangeFunc_ownF rfl (by decide) (gf := 178) (lb := #[.pointer (some ⟨W1.heap.size, 0, none⟩)]) (by rw [hfa]; rfl) trivial Tab.enters178
      (Tab.all_free 3 (by decide) S.B.rwt W1.heap.size (List.replicate m (false, 0)) w7 (k7.cs _ _ hmt).1 x7 (by simpa using m1) (by simpa using m16) (gn_replicate m) (tk_replicate m)) (fun _ _ => trivial) (fun _ _ _ _ _ _ _ _ => trivial) (Below.refl _ _) (fun _ => rfl)
      (fun (_ : List (Nat × Int)) W => EndX W1 W S w.heap.size p [D1]) (fun _ _ _ => False)
      (EndX.own (by omega) (by omega) (fun d hd => by rw [List.mem_singleton] at hd; omega)) (fun _ => Tab.own_pure _) E7
      (fun x => { tmps := ((fa.tmps.setIfInBounds 57 (.int .i64 x.1)).setIfInBounds 58 (.int .i64 x.2)).setIfInBounds 10 (.int .i64 x.2), defers := [] })
      ?assign ?body ?done ?stop
    case assign =>
      intro l x W K hK
      subst hfa
      simp only [Tab.encH, Tab.zip2, Tab.fold2, List.setIfInBounds_toArray, List.set_cons_succ, List.set_cons_zero] at hK ⊢
      gi_wp2
      exact hK
    case body =>
      intro l pre x W _ hlen
      exact absurd hlen (Nat.not_lt_zero _)
    case stop =>
      rintro D c pre W _ h _ _
      exact h.elim
    case done =>
      rintro D2 ys W2 hD2 rfl hS2 hK2
      subst hfa
      have E2 : EndX W1 W2 S w.heap.size p [D2, D1] := ⟨hS2.below, hS2.b0, hS2.b1, hS2.sz, fun d hd => by
        rcases List.mem_cons.1 hd with rfl | hd
        · exact ⟨by omega, hK2⟩
        · exact hS2.ds d hd⟩
      have hD21 : D2 ≠ D1 := by omega
      have k2 := HK1.out.reads hS2.below
      have c2 : W2.cell? ⟨w.heap.size, 0, none⟩ = some (.pointer (some ⟨S.B.kb, 0, none⟩)) := has_cell 0 hS2.b0 rfl
      have hr89 : W2.rangeAt S.B.kb 72 S.ons := k2.onr
      have HE2 := Lib.hid E2
      clear E2 hS2 hK2 k7 E7 x7 k2 HE1 HE0
      go_wp2_with (refine wpList_load_mid rfl 89 (.tmp 81) rfl S.B.kb 72 rfl S.ons _ hr89 Tryz.underlying89 rfl (by kernel_rfl) ?_)
      clear hr89 c2
      go_loopw [83] (fun i wr => ∃ j : Nat, i = .int .i64 j ∧ j ≤ 8 ∧ EndX W1 wr S w.heap.size p [D2, D1]) (fun i _ => 8 - (intOf i).toNat)
      case atStart => exact ⟨0, rfl, by omega, HE2.out⟩
      case round =>
        obtain ⟨j, rfl, hj, E3⟩ := hrel
        by_cases hlt : j < 8
        · have hix := run_index_89 S.ons j _ rfl hlt (S.ons_get hlt) wr
          have A := Key.at_c wr (S.B.on j) ⟨0, 0⟩ ((HK1.out.reads E3.below).cs _ _ (HP.out.on j hlt)).1
          have HE3 := Lib.hid E3
          clear E3
          go_wp2_with (go_at_call 339; refine A.mono ?_; rintro e w8 ⟨rfl, b8⟩; have HE4 := Lib.hid (HE3.out.reads b8); clear b8)
          go_roundw
          case rel => exact ⟨j + 1, by go_num, by omega, HE4.out⟩
          case measure => simp [intOf]; omega
        · obtain rfl : j = 8 := by omega
          have V := (E3.v HK1.out HF1.out HL1.out).drew
          have c0 : wr.cell? ⟨w.heap.size, 0, none⟩ = some (.pointer (some ⟨S.B.kb, 0, none⟩)) := has_cell 0 E3.b0 rfl
          have c1 : wr.cell? ⟨w.heap.size + 1, 0, none⟩ = some (.int .i64 p) := has_cell 0 E3.b1 rfl
          have c26 := kc26 (B := S.B) (HK1.out.reads E3.below) rfl
          have A := turns_leave wr.drew S.B.tb S.B.rb S.B.J.q S.L S.R S.st p p0 (V.k.tn HP.out.L HP.out.R) hp HIN.out HQ.out.1 HQ.out.2 HZ.out HV.out HN.out HS0.out.1 HS0.out.2
          obtain ⟨S1, hS1⟩ : ∃ S1 : KS, S1 = { (S.withMu mb mq mx') with L := S.L.set p Hs.no, R := S.R.remF p, st := S.st + 2 } := ⟨_, rfl⟩
          have K1 : ∀ W, Tn W S.B.tb S.B.rb S.B.J.q (S.L.set p Hs.no) (S.R.remF p) (S.st + 2) → Upd2 wr.drew S.B.tb S.B.rb W → EndV w W S S1 p [D2, D1] := fun W T u => by
            have q := V.k.turns T u
            rw [hS1]
            exact V.step q.1 q.2
          have hB1 : S1.B = S.B := by rw [hS1]; rfl
          have ht1 : S1.th p = some t := by rw [hS1]; exact HT.out
          have hx1 : S1.kx = S.kx := by rw [hS1]; rfl
          have HSE : ((S.withMu mb mq mx').ended p t) = { S1 with kx := Key.clearF S.kx p, th := put S1.th p (some { t with en := true }) } := by rw [hS1]; rfl
          have HB1 := Lib.hid hB1
          have HT1 := Lib.hid ht1
          have HX1 := Lib.hid hx1
          have HSE := Lib.hid HSE
          clear E3 V hS1 hB1 ht1 hx1
          go_wp2_with fail
          refine still_tail 5 (by kernel_rfl) (by kernel_rfl) ?_
          simp only [List.take_succ_cons, List.take_zero, List.drop_succ_cons, List.drop_zero]
          repeat still_step
          refine wpStill_nil ?_
          have HC := fun W (V1 : EndV w W S S1 p [D2, D1]) => V1.k
          go_wp2_with (first
            | (go_at_call 340; refine A.mono ?_; rintro e w9 ⟨rfl, T9, u9⟩
               have V1 := K1 w9 T9 u9
               have c0' : w9.cell? ⟨w.heap.size, 0, none⟩ = some (.pointer (some ⟨S.B.kb, 0, none⟩)) := has_cell 0 V1.b0.1 rfl
               have c1' : w9.cell? ⟨w.heap.size + 1, 0, none⟩ = some (.int .i64 p) := has_cell 0 V1.b1.1 rfl
               have c30 := kc30 (B := S.B) V1.k HB1.out
               have hT9 := V1.k.getTh hp HT1.out
               have HV1 := Lib.hid V1
               clear c0 c1 c26 T9 u9 V1 A)
            | (go_at_call 341; refine (stops_c _ p t _ hT9 HPOL.out).mono ?_; rintro e w' ⟨rfl, rfl⟩))
          have pn := HP.out.thn p t HT.out
          have A2 := Go.Proofs.YtagmlijhgncklaaGreatDoor.clear_c w9.drew S.B.sg S.B.mb p S.B.J.t S.B.J.s (by have q := HV1.out.drew.k.has 7 rfl; rw [HB1.out] at q; exact q) hp (by rw [HP.out.n]; omega)
          refine still_tail 5 (by kernel_rfl) (by kernel_rfl) ?_
          simp only [List.take_succ_cons, List.take_zero, List.drop_succ_cons, List.drop_zero]
          repeat still_step
          refine wpStill_nil ?_
          go_wp2_with (go_at_call 342; refine A2.mono ?_; rintro e w10 ⟨rfl, u10⟩
                       have q10 := HV1.out.drew.k.same 7 (b := S.B.sg) (o := sgO S.B.J.t S.B.J.s S.B.mb) (by rw [← HB1.out]; rfl) u10
                       have V2 := HV1.out.drew.step q10.1 q10.2
                       have c0 : w10.cell? ⟨w.heap.size, 0, none⟩ = some (.pointer (some ⟨S.B.kb, 0, none⟩)) := has_cell 0 V2.b0.1 rfl
                       have c1 : w10.cell? ⟨w.heap.size + 1, 0, none⟩ = some (.int .i64 p) := has_cell 0 V2.b1.1 rfl
                       have c71 := kc71 (B := S.B) V2.k HB1.out
                       have HV2 := Lib.hid V2
                       clear c0' c1' c30 hT9 u10 q10 V2 A2)
          have A3 := Key.clear_c w10.drew S.B.ke S.kx p (by have q := HV2.out.drew.k.has 8 rfl; rw [HB1.out, HX1.out] at q; exact q) HP.out.kx hp
          refine still_tail 5 (by kernel_rfl) (by kernel_rfl) ?_
          simp only [List.take_succ_cons, List.take_zero, List.drop_succ_cons, List.drop_zero]
          repeat still_step
          refine wpStill_nil ?_
          obtain ⟨S2, hS2⟩ : ∃ S2 : KS, S2 = { S1 with kx := Key.clearF S.kx p } := ⟨_, rfl⟩
          have ht2 : S2.th p = some t := by rw [hS2]; exact HT1.out
          have K2 : ∀ W, Upd w10.drew S.B.ke (Key.kO (Key.clearF S.kx p)) W → EndV w W S S2 p [D2, D1] := fun W u => by
            have q := HV2.out.drew.k.keys (K := Key.clearF S.kx p) (by rw [HB1.out]; exact u)
            rw [hS2]
            exact HV2.out.drew.step q.1 q.2
          have HSE2 : ((S.withMu mb mq mx').ended p t) = { S2 with th := put S2.th p (some { t with en := true }) } := by rw [HSE.out, hS2]
          have HT2 := Lib.hid ht2
          have HSE2 := Lib.hid HSE2
          clear hS2 ht2
          go_wp2_with (go_at_call 343; refine A3.mono ?_; rintro e w11 ⟨rfl, u11⟩
                       have V3 := K2 w11 u11
                       have hT := V3.k.getTh hp HT2.out
                       have c18 := tc18 hT
                       rw [HJN.out] at c18
                       have c20 := tc20 hT
                       have fz := has_free hT
                       have cx : w11.cell? ⟨w.heap.size, 0, none⟩ = some (.pointer (some ⟨S.B.kb, 0, none⟩)) := has_cell 0 V3.b0.1 rfl
                       have xt : ¬ w.heap.size = t.b := fun e => by have h1 := V3.b0.2; have h2 := (V3.k.ob _ _ _ (obj_th hp HT2.out)).2; rw [← e, h1] at h2; omega
                       have tx : ¬ t.b = w.heap.size := fun e => xt e.symm
                       have q := V3.k.thr (t' := { t with en := true }) hp HT2.out ((((Upd.refl hT).setCell 20 (.bool true))).to (by simp only [thO]; congr 1)) rfl rfl rfl
                       have V4 := V3.step q.1 q.2
                       have k4 := V4.k
                       rw [← HSE2.out] at k4
                       obtain ⟨y1, y2⟩ := Key.clear_dead HP.out.live HP.out.kx p
                       have P3 := (withMu_P HP.out (b := mb) (q := mq) (m := mx')).ended HT.out y1 y2
                       have GO := gone_c _ ((S.withMu mb mq mx').ended p t) (B := S.B) rfl k4 P3 p { t with en := true } hp (put_self _ _ _) HAT.out
                       have HV4 := Lib.hid V4
                       clear c0 c1 c71 u11 V3 A3 hT q V4 k4 P3)
          go_wp2_with (go_at_call 344; refine GO.mono ?_; rintro e w12 ⟨rfl, kg, fg, _⟩)
          have fg' : Fr { S2 with th := put S2.th p (some { t with en := true }) } (((S.withMu mb mq mx').ended p t).gone p) (w11.setCell ⟨t.b, 20, none⟩ (.bool true)) w12 := by rw [← HSE2.out]; exact fg
          have V40 := HV4.out.step kg fg'
          have V4 := V40.mark (fun x hx => by rw [List.mem_singleton] at hx; omega)
          have V5 := V4.mark (fun x hx => by cases hx)
          refine ⟨by simp, .inl ⟨_, _, rfl, run_takeDeferred (V40.ds D2 (List.mem_cons_self ..)).2.1, by simp, .inl ⟨_, _, rfl, run_takeDeferred (V4.ds D1 (List.mem_singleton.2 rfl)).2.1, ?_⟩⟩⟩
          refine ⟨_, results_none rfl _ _ _, rfl, ?_⟩
          exact ⟨V5.k, V5.fr⟩
end Go.Proofs.YtagmlijhgncklaaGreatDoor.Ker
namespace Go.Proofs.YtagmlijhgncklaaGreatDoor.Ker
open Go.RowKit Go.Proofs.YtagmlijhgncklaaGreatDoor

set_option maxRecDepth 100000 in
theorem unwindOn_g (w : World) (S : KS) {B : KB} (hB : S.B = B) (h : KW w S) (P : KP S) (p : Nat) (t : Th) (hp : p < 16) (ht : S.th p = some t) (Sf : KS) (EN : ∀ W, KW W ({ S with kx := Key.nextS S.kx p } : KS) → Calls Tryz.prog 204 #[.pointer (some ⟨B.kb, 0, none⟩), .pointer (some ⟨t.b, 0, none⟩)] W fun e w' => e = .returned (.tuple #[]) ∧ KW w' Sf ∧ Fr { S with kx := Key.nextS S.kx p } Sf W w') :
    Calls Tryz.prog 135 #[.pointer (some ⟨B.kb, 0, none⟩), .pointer (some ⟨t.b, 0, none⟩)] w fun e w' => e = .returned (.tuple #[]) ∧ KW w' Sf ∧ Fr S Sf w w' := by
  subst hB
  have hT := h.getTh hp ht
  have c32 := tc32 hT
  have A := Can.pop_none w t.c t.can (h.getCan hp ht) (P.can p t ht)
  obtain ⟨n1, n2, n3⟩ := Key.next_dead P.live P.kx p
  have NX := fun W (hW : KW W S) => Key.next_c W S.B.ke S.kx p (hW.has 8 rfl) P.kx hp
  simp only [n1] at NX
  have HK := Lib.hid h
  have HT := Lib.hid ht
  clear h P hT ht n1 n2 n3
  go_enter Tryz.func135, Tryz.ntmps135
  go_upto_region 1 with (go_at_call 202; refine A.mono ?_; rintro e w1 ⟨rfl, b1⟩; have k1 := HK.out.reads b1; have HB1 := Lib.hid b1; clear b1 A)
  obtain ⟨x, hx⟩ : ∃ x, x = w1.heap.size := ⟨_, rfl⟩
  rw [← hx]
  refine world_wp (fun W => Below w.heap.size w W ∧ W.heap[x]? = some (.cells #[.int .i64 0, .int .i64 0] 263 (0, 0)) ∧ w.heap.size ≤ x) ⟨HB1.out.alloc HB1.out.size _, by rw [hx]; exact heap_alloc_new w1 _, by rw [hx]; exact HB1.out.size⟩ ?_
  rintro W ⟨bW, xW, hxs⟩
  have kW := HK.out.reads bW
  have hT := kW.getTh hp HT.out
  have c0 := tc0 hT
  have c71 := kc71 (B := S.B) kW rfl
  have lx := HK.out.fresh x hxs
  have FR := Lib.hid (Fr.reads S bW).drew
  have HKW := Lib.hid kW
  have HLX := Lib.hid lx
  have HXW := Lib.hid xW
  have HNX := Lib.hid NX
  have hxk : x ≠ S.B.ke := by
    intro e
    have q := (kW.ob 8 _ _ rfl).2
    rw [← e, lx] at q
    omega
  clear hx c32 bW kW hT lx xW k1 NX HB1
  go_wp2_with fail
  go_region_law (first
    | (go_simp; go_at_call 203; refine (HNX.out W.drew (HKW.out.keeps (w' := W.drew) (Nat.le_refl _) (fun _ _ _ => rfl))).mono ?_; rintro e w2 ⟨rfl, u2⟩
       have q := (HKW.out.keeps (w' := W.drew) (Nat.le_refl _) (fun _ _ _ => rfl)).keys ⟨u2.1, u2.2.os, u2.2.tape, u2.2.output, u2.2.size, u2.2.block⟩
       have x2 := u2.other (c := x) HXW.out hxk
       have y0 : w2.cell? ⟨x, 0, none⟩ = some (.int .i64 0) := has_cell 0 x2 rfl
       have y1 : w2.cell? ⟨x, 1, none⟩ = some (.int .i64 0) := has_cell 1 x2 rfl
       have yf := has_free x2
       have k3 := Lib.hid ((q.1.outside (d := x) (i := 0) (v := .int .i64 0) HLX.out).outside (d := x) (i := 1) (v := .int .i64 0) HLX.out)
       have f3 := Lib.hid (((FR.out.trans q.2).outside (d := x) (i := 0) (v := .int .i64 0) hxs).outside (d := x) (i := 1) (v := .int .i64 0) hxs)
       simp only [Key.nextV]
       clear q x2 u2))
  all_goals go_wp2_with (go_at_call 204; refine (EN _ k3.out).mono ?_; rintro e w4 ⟨rfl, k4, f4⟩)
  all_goals refine bodyPost_ret (results_none rfl _ _ _) rfl ?_
  all_goals exact ⟨rfl, k4, f3.out.trans f4⟩
set_option maxRecDepth 100000 in
theorem unwind_g (w : World) (S : KS) {B : KB} (hB : S.B = B) (h : KW w S) (P : KP S) (p : Nat) (t : Th) (v : Int) (hp : p < 16) (ht : S.th p = some t) (hun : t.can.un = false) (Sf : KS) (EN : ∀ W, KW W ({ S.setTh p (t.unw v) with kx := Key.nextS S.kx p } : KS) → Calls Tryz.prog 204 #[.pointer (some ⟨B.kb, 0, none⟩), .pointer (some ⟨t.b, 0, none⟩)] W fun e w' => e = .returned (.tuple #[]) ∧ KW w' Sf ∧ Fr { S.setTh p (t.unw v) with kx := Key.nextS S.kx p } Sf W w') :
    Calls Tryz.prog 73 #[.pointer (some ⟨B.kb, 0, none⟩), .pointer (some ⟨t.b, 0, none⟩), .int .i64 v] w fun e w' => e = .returned (.tuple #[]) ∧ KW w' Sf ∧ Fr S Sf w w' := by
  subst hB
  have hT := h.getTh hp ht
  have c32 := tc32 hT
  have A := Can.unwind_c w t.c t.can (h.getCan hp ht) (by rw [P.can p t ht]; decide)
  rw [hun, if_neg (by decide)] at A
  obtain ⟨S1, hS1⟩ : ∃ S1 : KS, S1 = { S with th := put S.th p (some { t with can := { t.can with un := true } }) } := ⟨_, rfl⟩
  have ht1 : S1.th p = some { t with can := { t.can with un := true } } := by rw [hS1]; exact put_self _ _ _
  have K1 : ∀ W, Upd w t.c (Can.canO { t.can with un := true }) W → KW W S1 ∧ Fr S S1 w W := fun W u => by rw [hS1]; exact h.can hp ht u
  have hB1 : S1.B = S.B := by rw [hS1]
  have HE : S.setTh p (t.unw v) = { S1 with th := put S1.th p (some (t.unw v)) } := by
    rw [hS1]
    show ({ S with th := _ } : KS) = _
    simp only [put_put]
  obtain ⟨S2, hS2⟩ : ∃ S2 : KS, S2 = S.setTh p (t.unw v) := ⟨_, rfl⟩
  have P2 : KP S2 := by rw [hS2]; exact P.setTh (t' := t.unw v) ht rfl (P.can p t ht)
  have UN : ∀ W, KW W S2 → Calls Tryz.prog 135 #[.pointer (some ⟨S.B.kb, 0, none⟩), .pointer (some ⟨t.b, 0, none⟩)] W fun e w' => e = .returned (.tuple #[]) ∧ KW w' Sf ∧ Fr S2 Sf W w' := fun W hW =>
    unwindOn_g W S2 (B := S.B) (by rw [hS2]; rfl) hW P2 p (t.unw v) hp (by rw [hS2]; exact put_self _ _ _) Sf (by rw [hS2]; exact EN)
  rw [← hS2] at HE
  have HE2 := Lib.hid HE
  have HT1 := Lib.hid ht1
  have FF : Fr S S2 w w → True := fun _ => trivial
  clear h hT P hS1 hS2 ht hun EN ht1 P2 hB1 HE FF
  go_enter Tryz.func73, Tryz.ntmps73
  go_wp2_with fail
  refine A.mono ?_
  rintro e w1 ⟨rfl, u1⟩
  obtain ⟨k1, f1⟩ := K1 w1 u1
  have hT : w1.heap[t.b]? = some (thO p { t with can := { t.can with un := true } }) := KW.getTh (t := { t with can := { t.can with un := true } }) k1 hp HT1.out
  have d21 : w1.cell? ⟨t.b, 21, none⟩ = some (.int .i64 t.val) := has_cell 21 hT rfl
  have fz := has_free hT
  have U1 := ((Upd.refl hT).setCell 21 (.int .i64 v))
  have d22 : (w1.setCell ⟨t.b, 21, none⟩ (.int .i64 v)).cell? ⟨t.b, 22, none⟩ = some (.slice none 0 0) := has_cell 22 U1.1 rfl
  have fz2 := has_free U1.1
  have U2 := (U1.setCell 22 (.slice none 0 0))
  have q := k1.thr (t' := t.unw v) hp HT1.out (U2.to (by simp only [thO]; congr 1)) rfl rfl rfl
  rw [← HE2.out] at q
  have HQ := Lib.hid (And.intro q.1 (f1.trans q.2))
  clear u1 k1 f1 hT U1 U2 q c32 A
  go_wp2_with (go_at_call 135; refine (UN _ HQ.out.1).mono ?_; rintro e w4 ⟨rfl, k4, f4⟩)
  exact bodyPost_end (results_none rfl _ _ _) rfl ⟨rfl, k4, HQ.out.2.trans f4⟩
theorem over_g (w : World) (S : KS) {B : KB} (hB : S.B = B) (h : KW w S) (P : KP S) (p : Nat) (t : Th) (hp : p < 16) (ht : S.th p = some t) (hun : t.can.un = false) (Sf : KS) (EN : ∀ W, KW W ({ S.setTh p (t.unw (t.r 0)) with kx := Key.nextS S.kx p } : KS) → Calls Tryz.prog 204 #[.pointer (some ⟨B.kb, 0, none⟩), .pointer (some ⟨t.b, 0, none⟩)] W fun e w' => e = .returned (.tuple #[]) ∧ KW w' Sf ∧ Fr { S.setTh p (t.unw (t.r 0)) with kx := Key.nextS S.kx p } Sf W w') :
    Calls Tryz.prog 77 #[.pointer (some ⟨B.kb, 0, none⟩), .pointer (some ⟨t.b, 0, none⟩)] w fun e w' => e = .returned (.tuple #[]) ∧ KW w' Sf ∧ Fr S Sf w w' := by
  subst hB
  have hT := h.getTh hp ht
  have c22 := tc22 hT
  have c32 := tc32 hT
  have c4 := tc4 hT
  have A := Can.unwinds_c w t.c t.can (h.getCan hp ht) (by rw [P.can p t ht]; decide)
  rw [hun] at A
  have U := unwind_g w S rfl h P p t (t.r 0) hp ht hun Sf EN
  clear h hT P ht hun EN
  go_enter Tryz.func77, Tryz.ntmps77
  go_wp2_with (first
    | (go_at_call 52; refine A.mono ?_; rintro e w1 ⟨rfl, rfl⟩)
    | (go_at_call 73; refine U.mono ?_; rintro e w4 ⟨rfl, k4, f4⟩))
  exact bodyPost_end (results_none rfl _ _ _) rfl ⟨rfl, k4, f4⟩
/-- The kernel of which a thread's end begins. -/
def KS.unX (S : KS) (p : Nat) (t : Th) (v : Int) : KS := { S.setTh p (t.unw v) with kx := Key.nextS S.kx p }
theorem KP.unX {S : KS} (P : KP S) {p : Nat} {t : Th} (ht : S.th p = some t) (v : Int) : KP (S.unX p t v) := by
  obtain ⟨_, n2, n3⟩ := Key.next_dead P.live P.kx p
  exact (P.setTh (t' := t.unw v) ht rfl (P.can p t ht)).keys n2 n3
theorem overM_stays (w : World) (S : KS) {B : KB} (hB : S.B = B) (h : KW w S) (P : KP S) (p p0 : Nat) (t : Th) (hp : p < 16) (ht : S.th p = some t) (hpol : t.pol ≠ 2) {mb mq mg : Nat} {mx mx' : Mx.Mu} (HM0 : HasMu S mb mq mg mx) (EN0 : ∀ W, Mx.MuW W mb mq mg mx → Calls Tryz.prog 337 #[.pointer (some ⟨mb, 0, none⟩), .int .i64 p] W fun e w' => e = .returned (.slice none 0 0) ∧ Upd W mb (Mx.muO mx' mq) w') (hjn : t.jn = true) (hjr : t.jr < 0) (hun : t.can.un = false) (I : InSeq S p p0) :
    Calls Tryz.prog 77 #[.pointer (some ⟨B.kb, 0, none⟩), .pointer (some ⟨t.b, 0, none⟩)] w fun e w' => e = .returned (.tuple #[]) ∧ KW w' (((S.unX p t (t.r 0)).withMu mb mq mx').ended p (t.unw (t.r 0))) ∧ Fr S (((S.unX p t (t.r 0)).withMu mb mq mx').ended p (t.unw (t.r 0))) w w' := by
  subst hB
  exact over_g w S rfl h P p t hp ht hun _ fun W hW => endM_stays W (S.unX p t (t.r 0)) (B := S.B) rfl hW (P.unX ht _) p p0 (t.unw (t.r 0)) hp (put_self _ _ _) hpol (HM0.same rfl rfl rfl) EN0 hjn hjr I.isIn I.q1 I.q32 I.pr I.pv I.nx I.s0 (by have := I.s1; show S.st ≤ 700000000; omega)
theorem overM_gone (w : World) (S : KS) {B : KB} (hB : S.B = B) (h : KW w S) (P : KP S) (p p0 : Nat) (t : Th) (hp : p < 16) (ht : S.th p = some t) (hpol : t.pol ≠ 2) {mb mq mg : Nat} {mx mx' : Mx.Mu} (HM0 : HasMu S mb mq mg mx) (EN0 : ∀ W, Mx.MuW W mb mq mg mx → Calls Tryz.prog 337 #[.pointer (some ⟨mb, 0, none⟩), .int .i64 p] W fun e w' => e = .returned (.slice none 0 0) ∧ Upd W mb (Mx.muO mx' mq) w') (hjn : t.jn = false) (hat : Tab.atF S.T t.hd = some p) (hun : t.can.un = false) (I : InSeq S p p0) :
    Calls Tryz.prog 77 #[.pointer (some ⟨B.kb, 0, none⟩), .pointer (some ⟨t.b, 0, none⟩)] w fun e w' => e = .returned (.tuple #[]) ∧ KW w' ((((S.unX p t (t.r 0)).withMu mb mq mx').ended p (t.unw (t.r 0))).gone p) ∧ Fr S ((((S.unX p t (t.r 0)).withMu mb mq mx').ended p (t.unw (t.r 0))).gone p) w w' := by
  subst hB
  exact over_g w S rfl h P p t hp ht hun _ fun W hW => endM_gone W (S.unX p t (t.r 0)) (B := S.B) rfl hW (P.unX ht _) p p0 (t.unw (t.r 0)) hp (put_self _ _ _) hpol (HM0.same rfl rfl rfl) EN0 hjn hat I.isIn I.q1 I.q32 I.pr I.pv I.nx I.s0 (by have := I.s1; show S.st ≤ 700000000; omega)
end Go.Proofs.YtagmlijhgncklaaGreatDoor.Ker
