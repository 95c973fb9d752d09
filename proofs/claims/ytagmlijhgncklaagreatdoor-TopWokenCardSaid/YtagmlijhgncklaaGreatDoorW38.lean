/-
  A kernel with one semaphore: where it lies, how it is made, found, turned, over the translation of this seat. Conditions: those said.
  A semaphore of value 0: it is waited for, and posted, over the translation of this seat. Conditions: the blocks that are named hold what is said.
-/
import Derived.Test.YtagmlijhgncklaaGreatDoorW35
import Derived.Test.YtagmlijhgncklaaGreatDoorW37
set_option linter.unusedVariables false
namespace Go.Proofs.YtagmlijhgncklaaGreatDoor.Ker
open Go.RowKit Go.Proofs.YtagmlijhgncklaaGreatDoor

abbrev WEs := Go.Proofs.YtagmlijhgncklaaGreatDoor.Wt.Es
/-- A semaphore of value 0. -/
def smO (q : Nat) : Obj := .cells #[.pointer (some ⟨q, 0, none⟩), .int .i64 0] 389 (0, 0)
def wqO (g : Nat) (last : Int) : Obj := .cells #[.map (some g), .int .i64 last] 436 (0, 0)
/-- The map of those who wait. -/
def MapE (og : Obj) (E : WEs) : Prop := ∃ es c, og = .map es c ∧ es.toList.map (fun e => (e.key, e.val)) = (Wt.weL E).map (fun x => (Value.int .i64 x.1, x.2)) ∧ MapKept.Stamped es c
structure HasSe (S : KS) (b q g : Nat) (last : Int) (E : WEs) : Prop where
  e2 : S.ext 2 = some (b, smO q)
  e3 : S.ext 3 = some (q, wqO g last)
  e4 : ∃ og, S.ext 4 = some (g, og) ∧ MapE og E
  T : S.seT = muT4
  l : S.seL 0 = some ⟨b, 0, none⟩
theorem HasSe.same {S S' : KS} {b q g : Nat} {last : Int} {E : WEs} (H : HasSe S b q g last E) (he : S'.ext = S.ext) (ht : S'.seT = S.seT) (hl : S'.seL = S.seL) : HasSe S' b q g last E :=
  ⟨by rw [he]; exact H.e2, by rw [he]; exact H.e3, by rw [he]; exact H.e4, by rw [ht]; exact H.T, by rw [hl]; exact H.l⟩
/-- The semaphore in a world. -/
structure SeW (W : World) (b q g : Nat) (last : Int) (E : WEs) : Prop where
  sb : W.heap[b]? = some (smO q)
  w : Wt.Wq W q g last E
  n1 : b ≠ q
  n2 : b ≠ g
  n3 : q ≠ g
theorem HasSe.w {W : World} {S : KS} {b q g : Nat} {last : Int} {E : WEs} (H : HasSe S b q g last E) (h : KW W S) : SeW W b q g last E := by
  obtain ⟨og, e4, es, c, rfl, h1, h2⟩ := H.e4
  have q2 := h.ob 47 b _ ((obj_ext2 2).trans H.e2)
  have q3 := h.ob 48 q _ ((obj_ext2 3).trans H.e3)
  have q4 := h.ob 49 g _ ((obj_ext2 4).trans e4)
  exact ⟨q2.1, ⟨q3.1, es, c, q4.1, h1, h2⟩, fun e => by have := q2.2; rw [e, q3.2] at this; omega, fun e => by have := q2.2; rw [e, q4.2] at this; omega, fun e => by have := q3.2; rw [e, q4.2] at this; omega⟩
/-- The waiting list turns. -/
def KS.withSe (S : KS) (q g : Nat) (last : Int) (og : Obj) : KS := { S with ext := put (put S.ext 3 (some (q, wqO g last))) 4 (some (g, og)) }
theorem withSe_3 (S : KS) (q g : Nat) (last : Int) (og : Obj) : (S.withSe q g last og).ext 3 = some (q, wqO g last) := by
  show put (put S.ext 3 (some (q, wqO g last))) 4 (some (g, og)) 3 = _
  rw [put_ne _ _ (by decide), put_self]
theorem withSe_4 (S : KS) (q g : Nat) (last : Int) (og : Obj) : (S.withSe q g last og).ext 4 = some (g, og) := by
  show put (put S.ext 3 (some (q, wqO g last))) 4 (some (g, og)) 4 = _
  rw [put_self]
theorem withSe_ne (S : KS) (q g : Nat) (last : Int) (og : Obj) {k : Nat} (h3 : k ≠ 3) (h4 : k ≠ 4) : (S.withSe q g last og).ext k = S.ext k := by
  show put (put S.ext 3 (some (q, wqO g last))) 4 (some (g, og)) k = _
  rw [put_ne _ _ h4, put_ne _ _ h3]
theorem KW.semq {w w' : World} {S : KS} {b q g : Nat} {last last' : Int} {E E' : WEs} (h : KW w S) (H : HasSe S b q g last E) (hq : Wt.Wq w' q g last' E') (U : Upd2 w q g w') : ∃ og, KW w' (S.withSe q g last' og) ∧ Fr S (S.withSe q g last' og) w w' ∧ HasSe (S.withSe q g last' og) b q g last' E' := by
  obtain ⟨es, c, x1, x2, x3⟩ := hq.g
  obtain ⟨og, e4, _⟩ := H.e4
  have K := h.upd2 (S' := S.withSe q g last' (.map es c)) 48 49 ((obj_ext2 3).trans H.e3) ((obj_ext2 4).trans e4) U hq.q x1 ((obj_ext2 3).trans (withSe_3 S q g last' _)) ((obj_ext2 4).trans (withSe_4 S q g last' _)) (fun j h3 h4 => by
    match j with
    | 0 => rfl
    | 1 => rfl | 2 => rfl | 3 => rfl | 4 => rfl | 5 => rfl | 6 => rfl | 7 => rfl | 8 => rfl | 9 => rfl | 10 => rfl | 11 => rfl | 12 => rfl
    | n + 13 =>
      show (if n < 32 then S.thObj n else (S.withSe q g last' (.map es c)).ext (n - 32)) = (if n < 32 then S.thObj n else S.ext (n - 32))
      by_cases hn : n < 32
      · rw [if_pos hn, if_pos hn]
      · rw [if_neg hn, if_neg hn]
        exact withSe_ne S q g last' _ (by omega) (by omega)) rfl
  exact ⟨.map es c, K.1, K.2, ⟨(withSe_ne S q g last' _ (by decide) (by decide)).trans H.e2, withSe_3 S q g last' _, ⟨_, withSe_4 S q g last' _, es, c, rfl, x2, x3⟩, H.T, H.l⟩⟩
theorem KW.seTab {w w' : World} {S : KS} (h : KW w S) {T : List (Bool × Int)} (U : Upd w S.B.seb (Tab.tabO T) w') : KW w' { S with seT := T } ∧ Fr S { S with seT := T } w w' :=
  h.upd 12 rfl U rfl (fun k h2 => match k with
    | 0 => rfl | 1 => rfl | 2 => rfl | 3 => rfl | 4 => rfl | 5 => rfl | 6 => rfl | 7 => rfl | 8 => rfl | 9 => rfl | 10 => rfl | 11 => rfl | 12 => absurd rfl h2 | _ + 13 => rfl) rfl
theorem KW.seSto {w w' : World} {S : KS} (h : KW w S) {L : Nat → Option Addr} (U : Upd w S.B.se (storeO S.B.seb L 185) w') : KW w' { S with seL := L } ∧ Fr S { S with seL := L } w w' :=
  h.upd 11 rfl U rfl (fun k h2 => match k with
    | 0 => rfl | 1 => rfl | 2 => rfl | 3 => rfl | 4 => rfl | 5 => rfl | 6 => rfl | 7 => rfl | 8 => rfl | 9 => rfl | 10 => rfl | 11 => absurd rfl h2 | 12 => rfl | _ + 13 => rfl) rfl
set_option maxRecDepth 100000 in
/-- A semaphore is put into a free place. -/
theorem seAdd_c (w : World) (S : KS) {B : KB} (hB : S.B = B) (h : KW w S) (hT : S.seT = muT0) (a : Nat) :
    Calls Tryz.prog 381 #[.pointer (some ⟨B.se, 0, none⟩), .pointer (some ⟨a, 0, none⟩)] w fun e w' => e = .returned (.int .i64 16) ∧ KW w' { S with seT := muT4, seL := put S.seL 0 (some ⟨a, 0, none⟩) } ∧ Fr S { S with seT := muT4, seL := put S.seL 0 (some ⟨a, 0, none⟩) } w w' := by
  subst hB
  have AD := Tab.add_c w S.B.seb muT0 0 (by have q := h.has 12 rfl; rw [hT] at q; exact q) (by decide) (by decide) mu0_ok (by rfl)
  have K1 : ∀ W, Upd w S.B.seb (Tab.tabO (muT0.set 0 (true, Tab.gn muT0 0 + 1))) W → KW W { S with seT := muT4 } ∧ Fr S { S with seT := muT4 } w W := fun W u => h.seTab (T := muT4) u
  have cm : w.cell? ⟨S.B.se, 0, none⟩ = some (.pointer (some ⟨S.B.seb, 0, none⟩)) := has_cell 0 (h.has 11 rfl) rfl
  have AT : ∀ W, KW W { S with seT := muT4 } → Calls Tryz.prog 66 #[.pointer (some ⟨S.B.seb, 0, none⟩), .int .i64 16] W fun e w' => e = .returned (.tuple #[.int .i64 0, .bool true]) ∧ Below W.heap.size W w' := fun W hW => Tab.at_c W S.B.seb muT4 16 (hW.has 12 rfl) (by decide) (by decide) (genOk_up mu4_ok)
  have AD : Calls Tryz.prog 65 #[.pointer (some ⟨S.B.seb, 0, none⟩)] w fun e w' => e = .returned (.tuple #[.int .i64 16, .int .i64 0]) ∧ Upd w S.B.seb (Tab.tabO (muT0.set 0 (true, Tab.gn muT0 0 + 1))) w' := AD
  have HAT := Lib.hid AT
  clear h AT hT
  go_enter Tryz.func381, Tryz.ntmps381
  go_wp2_with (first
    | (go_at_call 65; refine AD.mono ?_; rintro e w1 ⟨rfl, u1⟩; obtain ⟨k1, f1⟩ := K1 w1 u1; have c1 : w1.cell? ⟨S.B.se, 0, none⟩ = some (.pointer (some ⟨S.B.seb, 0, none⟩)) := has_cell 0 (k1.has 11 rfl) rfl; have HK1 := Lib.hid k1; have HF1 := Lib.hid f1; clear u1 k1 f1 AD K1 cm)
    | (go_at_call 66; refine (HAT.out _ HK1.out).mono ?_; rintro e w2 ⟨rfl, b2⟩; have k2 := HK1.out.reads b2; have x2 := k2.has 11 rfl; have c2 : w2.cell? ⟨S.B.se, 1, none⟩ = some (.pointer (S.seL 0)) := has_cell 1 x2 rfl; have fz := has_free x2; have HX2 := Lib.hid x2; have HK2 := Lib.hid k2; have HF2 := Lib.hid (HF1.out.trans (Fr.reads _ b2)); clear b2 k2 x2))
  refine bodyPost_ret (v := .int .i64 16) (results_tmp (show Tryz.f381.results = #[.tmp 4] from rfl) _ _ _) rfl ?_
  have U := ((Upd.refl HX2.out).setCell 1 (.pointer (some ⟨a, 0, none⟩))).to (o' := storeO S.B.seb (put S.seL 0 (some ⟨a, 0, none⟩)) 185) rfl
  have q := HK2.out.seSto U
  exact ⟨rfl, q.1, HF2.out.trans q.2⟩
theorem seFind_c (w : World) (S : KS) {B : KB} (hB : S.B = B) (h : KW w S) {b q g : Nat} {last : Int} {E : WEs} (H : HasSe S b q g last E) :
    Calls Tryz.prog 89 #[.pointer (some ⟨B.se, 0, none⟩), .int .i64 16] w fun e w' => e = .returned (.tuple #[.pointer (some ⟨b, 0, none⟩), .bool true]) ∧ Below w.heap.size w w' := by
  subst hB
  have cm : w.cell? ⟨S.B.se, 0, none⟩ = some (.pointer (some ⟨S.B.seb, 0, none⟩)) := has_cell 0 (h.has 11 rfl) rfl
  have AT : Calls Tryz.prog 66 #[.pointer (some ⟨S.B.seb, 0, none⟩), .int .i64 16] w fun e w' => e = .returned (.tuple #[.int .i64 0, .bool true]) ∧ Below w.heap.size w w' := by
    have q := h.has 12 rfl
    rw [H.T] at q
    exact Tab.at_c w S.B.seb muT4 16 q (by decide) (by decide) (genOk_up mu4_ok)
  have HK := Lib.hid h
  have HL := Lib.hid H.l
  clear h H
  go_enter Tryz.func89, Tryz.ntmps89
  go_wp2_with (go_at_call 66; refine AT.mono ?_; rintro e w2 ⟨rfl, b2⟩; have c2 : w2.cell? ⟨S.B.se, 1, none⟩ = some (.pointer (S.seL 0)) := has_cell 1 ((HK.out.reads b2).has 11 rfl) rfl; rw [HL.out] at c2; have HB := Lib.hid b2; clear b2 AT)
  go_ret2
  exact ⟨rfl, HB.out⟩
theorem seThing_c (w : World) (S : KS) {B : KB} (hB : S.B = B) (h : KW w S) {b q g : Nat} {last : Int} {E : WEs} (H : HasSe S b q g last E) (x : Int) :
    Calls Tryz.prog 503 #[.pointer (some ⟨B.se, 0, none⟩), .int .i64 16, .int .i64 x] w fun e w' => e = .returned (.pointer (some ⟨b, 0, none⟩)) ∧ Below w.heap.size w w' := by
  have A := seFind_c w S hB h H
  clear h H hB
  go_enter Tryz.func503, Tryz.ntmps503
  go_wp2_with (first
    | (go_at_call 89; refine A.mono ?_; rintro e w2 ⟨rfl, b2⟩; have HB := Lib.hid b2; clear b2 A)
    | (go_at_call 146; refine (must_c _ _).mono ?_; rintro e w' ⟨rfl, rfl⟩))
  go_ret
  exact ⟨rfl, HB.out⟩
theorem sem_c (w : World) (S : KS) {B : KB} (hB : S.B = B) (h : KW w S) {b q g : Nat} {last : Int} {E : WEs} (H : HasSe S b q g last E) :
    Calls Tryz.prog 382 #[.pointer (some ⟨B.kb, 0, none⟩), .int .i64 16] w fun e w' => e = .returned (.pointer (some ⟨b, 0, none⟩)) ∧ Below w.heap.size w w' := by
  have A := seThing_c w S hB h H 22
  have c65 : w.cell? ⟨B.kb, 65, none⟩ = some (.pointer (some ⟨B.se, 0, none⟩)) := by subst hB; exact has_cell 65 (h.has 0 rfl) rfl
  clear h H hB
  go_enter Tryz.func382, Tryz.ntmps382
  go_wp2_with (go_at_call 503; refine A.mono ?_; rintro e w2 ⟨rfl, b2⟩; have HB := Lib.hid b2; clear b2 A)
  go_ret
  exact ⟨rfl, HB.out⟩
end Go.Proofs.YtagmlijhgncklaaGreatDoor.Ker
namespace Go.Proofs.YtagmlijhgncklaaGreatDoor.Ker
open Go.RowKit Go.Proofs.YtagmlijhgncklaaGreatDoor

/-- Who waits, and how they came. -/
structure EsOk (E : WEs) (last : Int) : Prop where
  nd : (E.map (·.1)).Nodup
  srt : Wt.Srt E
  len : E.length ≤ 12
  l0 : 0 ≤ last
  l1 : last ≤ 100000
  t16 : ∀ x ∈ E, x.1 < 16
  cm : ∀ x ∈ E, x.2.2 ≤ last
theorem seOf_c (w : World) (b q : Nat) (h : w.heap[b]? = some (smO q)) : Calls Tryz.prog 193 #[.pointer (some ⟨b, 0, none⟩)] w fun e w' => e = .returned (.agg #[.pointer (some ⟨q, 0, none⟩), .int .i64 0]) ∧ Below w.heap.size w w' := by
  have x := below_alloc_has (o := .cells #[.pointer none, .int .i64 0] 389) h
  have c0 : (w.alloc (.cells #[.pointer none, .int .i64 0] 389)).cell? ⟨b, 0, none⟩ = some (.pointer (some ⟨q, 0, none⟩)) := has_cell 0 x rfl
  have c1 : (w.alloc (.cells #[.pointer none, .int .i64 0] 389)).cell? ⟨b, 1, none⟩ = some (.int .i64 0) := has_cell 1 x rfl
  have n0 := heap_alloc_new w (.cells #[.pointer none, .int .i64 0] 389)
  have fz := has_free n0
  have d0 : (w.alloc (.cells #[.pointer none, .int .i64 0] 389)).cell? ⟨w.heap.size, 0, none⟩ = some (.pointer none) := has_cell 0 n0 rfl
  have d1 : (w.alloc (.cells #[.pointer none, .int .i64 0] 389)).cell? ⟨w.heap.size, 1, none⟩ = some (.int .i64 0) := has_cell 1 n0 rfl
  clear h
  go_enter Tryz.func193, Tryz.ntmps193
  go_wp2_with fail
  have hr := has_range (heap_alloc_new w (.cells #[.pointer (some ⟨q, 0, none⟩), .int .i64 0] 389)) [.pointer (some ⟨q, 0, none⟩), .int .i64 0] 0 (by intro j _; simp)
  refine bodyPost_ret (v := .agg #[.pointer (some ⟨q, 0, none⟩), .int .i64 0]) ?_ rfl ⟨rfl, (Below.refl w.heap.size w).alloc (Nat.le_refl _) _⟩
  have hload := run_loadVar_mid (P := Tryz.prog) _ _ _ 389 _ _ hr Tryz.underlying389 rfl (by kernel_rfl)
  simp [results, Tryz.f193, hload, asAddr, Act.put]
theorem newSem_c (w : World) : Calls Tryz.prog 380 #[.int .i64 0] w fun e w' => e = .returned (.tuple #[.pointer (some ⟨w.heap.size + 1 + 1, 0, none⟩), .int .i64 0]) ∧ w' = ((w.alloc (.map #[] 0)).alloc (.cells #[.map (some w.heap.size), .int .i64 0] 436)).alloc (.cells #[.pointer (some ⟨w.heap.size + 1, 0, none⟩), .int .i64 0] 389) := by
  go_enter Tryz.func380, Tryz.ntmps380
  go_wp2_with (go_at_call 493; refine (Mx.newW_c _).mono ?_; rintro e w' ⟨rfl, rfl⟩)
  go_ret2
  simp
/-- The kernel with a semaphore. -/
def KS.se3 (S : KS) (g : Nat) : KS := ((S.mark 4 g (.map #[] 0)).mark 3 (g + 1) (wqO g 0)).mark 2 (g + 1 + 1) (smO (g + 1))
def KS.semed (S : KS) (g : Nat) : KS := { S.se3 g with seT := muT4, seL := put S.seL 0 (some ⟨g + 1 + 1, 0, none⟩) }
theorem HasSe.new (S : KS) (g : Nat) : HasSe (S.semed g) (g + 1 + 1) (g + 1) g 0 [] := by
  obtain ⟨o4, h4⟩ : ∃ o : Obj, o = .map #[] 0 := ⟨_, rfl⟩
  obtain ⟨o3, h3⟩ : ∃ o : Obj, o = wqO g 0 := ⟨_, rfl⟩
  obtain ⟨o2, h2⟩ : ∃ o : Obj, o = smO (g + 1) := ⟨_, rfl⟩
  have e : (S.semed g).ext = (((S.mark 4 g o4).mark 3 (g + 1) o3).mark 2 (g + 1 + 1) o2).ext := by rw [h4, h3, h2]; rfl
  have q2 := mark_at ((S.mark 4 g o4).mark 3 (g + 1) o3) 2 (g + 1 + 1) o2
  have q3 := (mark_ne ((S.mark 4 g o4).mark 3 (g + 1) o3) (i := 3) 2 (g + 1 + 1) o2 (by decide)).trans (mark_at (S.mark 4 g o4) 3 (g + 1) o3)
  have q4 := (mark_ne ((S.mark 4 g o4).mark 3 (g + 1) o3) (i := 4) 2 (g + 1 + 1) o2 (by decide)).trans ((mark_ne (S.mark 4 g o4) (i := 4) 3 (g + 1) o3 (by decide)).trans (mark_at S 4 g o4))
  rw [← e] at q2 q3 q4
  rw [h2] at q2
  rw [h3] at q3
  rw [h4] at q4
  exact ⟨q2, q3, ⟨_, q4, #[], 0, rfl, rfl, MapKept.stamped_empty 0⟩, rfl, put_self S.seL 0 _⟩
theorem KW.se3 {w w2 : World} {S : KS} (h : KW w S) (b : Below w.heap.size w w2) (x0 : w2.heap[w.heap.size]? = some (.map #[] 0)) (x1 : w2.heap[w.heap.size + 1]? = some (wqO w.heap.size 0)) (x2 : w2.heap[w.heap.size + 1 + 1]? = some (smO (w.heap.size + 1))) :
    KW w2 (S.se3 w.heap.size) ∧ Fr S (S.se3 w.heap.size) w w2 := by
  have q1 := (h.reads b).mark (Fr.reads S b) 4 x0 (h.fresh _ (Nat.le_refl _)) (Nat.le_refl _)
  have q2 := q1.1.mark q1.2 3 x1 ((put_ne _ _ (by omega)).trans (h.fresh _ (by omega))) (by omega)
  exact q2.1.mark q2.2 2 x2 ((put_ne _ _ (by omega)).trans ((put_ne _ _ (by omega)).trans (h.fresh _ (by omega)))) (by omega)
set_option maxRecDepth 100000 in
set_option maxHeartbeats 1000000 in
theorem callSem_c (w : World) (S : KS) {B : KB} (hB : S.B = B) (h : KW w S) (p : Nat) (t : Th) (hp : p < 16) (ht : S.th p = some t) (h2 : t.r 2 = 0) (hT : S.seT = muT0) :
    Calls Tryz.prog 232 #[.pointer (some ⟨B.kb, 0, none⟩), .pointer (some ⟨t.b, 0, none⟩)] w fun e w' => ∃ g, e = .returned (.int .i64 16) ∧ KW w' (S.semed g) ∧ Fr S (S.semed g) w w' := by
  subst hB
  have x := h.getTh hp ht
  have c6 := tc6 x
  rw [h2] at c6
  have HK := Lib.hid h
  have HMT := Lib.hid hT
  clear h x ht hT h2
  have i0 : (0 : Int) ≤ 0 := by omega
  have i1 : (0 : Int) ≤ 1000 := by omega
  go_enter Tryz.func232, Tryz.ntmps232
  go_upto_region 2 with (first
    | (go_at_call 360; refine (Mx.small_c _ _ i0 i1).mono ?_; rintro e w' ⟨rfl, rfl⟩)
    | (go_at_call 380; refine (newSem_c _).mono ?_; rintro e w2 ⟨rfl, hw2⟩; have HW2 := Lib.hid hw2; clear hw2))
  have b2 : Below w.heap.size w w2 := by rw [HW2.out]; exact (((Below.refl _ w).alloc (Nat.le_refl _) _).alloc (by simp) _).alloc (by simp; omega) _
  have x0 : w2.heap[w.heap.size]? = some (.map #[] 0) := by rw [HW2.out]; exact below_alloc_has (below_alloc_has (heap_alloc_new w _))
  have x1 : w2.heap[w.heap.size + 1]? = some (wqO w.heap.size 0) := by
    rw [HW2.out]
    refine below_alloc_has ?_
    have q := heap_alloc_new (w.alloc (.map #[] 0)) (.cells #[.map (some w.heap.size), .int .i64 0] 436)
    rw [World.size_alloc] at q
    exact q
  have x2 : w2.heap[w.heap.size + 1 + 1]? = some (smO (w.heap.size + 1)) := by
    rw [HW2.out]
    have q := heap_alloc_new ((w.alloc (.map #[] 0)).alloc (.cells #[.map (some w.heap.size), .int .i64 0] 436)) (.cells #[.pointer (some ⟨w.heap.size + 1, 0, none⟩), .int .i64 0] 389)
    simp only [World.size_alloc] at q
    exact q
  obtain ⟨k3, f3⟩ := HK.out.se3 b2 x0 x1 x2
  have c65 := kc65 (B := S.B) k3 rfl
  have AD := seAdd_c w2 (S.se3 w.heap.size) (B := S.B) rfl k3 HMT.out (w.heap.size + 1 + 1)
  have HF3 := Lib.hid f3
  clear x0 x1 x2 k3 f3 c6 b2
  go_wp2_with (first
    | (go_at_call 146; refine (must_c _ _).mono ?_; rintro e w' ⟨rfl, rfl⟩)
    | (go_at_call 381; refine AD.mono ?_; rintro e w4 ⟨rfl, k4, f4⟩; have HK4 := Lib.hid k4; have HF4 := Lib.hid (HF3.out.trans f4); clear k4 f4 AD))
  refine bodyPost_ret (v := .int .i64 16) (results_tmp (show Tryz.f232.results = #[.tmp 4] from rfl) _ _ _) rfl ?_
  exact ⟨w.heap.size, rfl, HK4.out, HF4.out⟩
theorem fd1 (q : Nat) (W : World) : (Instr.field 389 (.agg #[.pointer (some ⟨q, 0, none⟩), .int .i64 0]) 1).run Tryz.prog W = .ok (.int .i64 0) W := by kernel_rfl
theorem fd0 (q : Nat) (W : World) : (Instr.field 389 (.agg #[.pointer (some ⟨q, 0, none⟩), .int .i64 0]) 0).run Tryz.prog W = .ok (.agg #[.pointer (some ⟨q, 0, none⟩)]) W := by kernel_rfl
theorem fd2 (q : Nat) (W : World) : (Instr.field 387 (.agg #[.pointer (some ⟨q, 0, none⟩)]) 0).run Tryz.prog W = .ok (.pointer (some ⟨q, 0, none⟩)) W := by kernel_rfl
/-- How one waits that is not answered: by a trial, then in earnest. -/
theorem semAsk_c (w : World) (b q g : Nat) (last : Int) (E : WEs) (h : SeW w b q g last E) (K : EsOk E last) (t : Nat) (p : Int) (h16 : t < 16) (p1 : 1 ≤ p) (p2 : p ≤ 31) (ht : ∀ x ∈ E, x.1 ≠ t) :
    Calls Tryz.prog 506 #[.pointer (some ⟨q, 0, none⟩), .func (.func 507) #[.pointer (some ⟨q, 0, none⟩)] #[], .int .i64 t, .int .i64 p] w fun e w' => e = .returned (.int .i64 0) ∧ SeW w' b q g (last + 1) E ∧ Upd2 w q g w' := by
  have P := Wt.put_c w q g last E h.w h.n3 t p h16 p1 p2 ht K.l0 (by have := K.l1; omega)
  have hn : ((E ++ [(t, p, last + 1)]).map (·.1)).Nodup := by
    rw [List.map_append]
    refine List.nodup_append.2 ⟨K.nd, by simp, fun a ha c hc => ?_⟩
    obtain rfl : c = t := by simpa using hc
    obtain ⟨x, hx, rfl⟩ := List.mem_map.1 ha
    exact ht x hx
  have LV := fun W (hW : Wt.Wq W q g (last + 1) (E ++ [(t, p, last + 1)])) => Wt.leave_c W q g (last + 1) E (t, p, last + 1) hW h.n3 hn h16
  have HH := Lib.hid h
  have HLV := Lib.hid LV
  clear h K ht hn LV
  go_enter Tryz.func506, Tryz.ntmps506
  go_wp2_with (first
    | (go_at_call 507; refine P.mono ?_; rintro e w1 ⟨rfl, q1, u1⟩; have HQ1 := Lib.hid q1; have HU1 := Lib.hid u1; clear q1 u1 P)
    | (go_at_call 478; refine (HLV.out _ HQ1.out).mono ?_; rintro e w2 ⟨rfl, q2, u2⟩; have HQ2 := Lib.hid q2; have HU2 := Lib.hid (HU1.out.trans u2); clear q2 u2))
  go_ret
  exact ⟨rfl, ⟨HU2.out.other HH.out.sb HH.out.n1 HH.out.n2, HQ2.out, HH.out.n1, HH.out.n2, HH.out.n3⟩, HU2.out⟩
set_option maxRecDepth 100000 in
theorem semTry_c (w : World) (b q : Nat) (h : w.heap[b]? = some (smO q)) : Calls Tryz.prog 386 #[.pointer (some ⟨b, 0, none⟩)] w fun e w' => e = .returned (.bool false) ∧ Below w.heap.size w w' := by
  have O := seOf_c w b q h
  have f1 := fd1 q
  clear h
  go_enter Tryz.func386, Tryz.ntmps386
  go_wp2_with (go_at_call 193; refine O.mono ?_; rintro e w1 ⟨rfl, b1⟩; have HB1 := Lib.hid b1; clear b1 O)
  go_ret
  exact ⟨rfl, HB1.out⟩
theorem EsOk.add {E : WEs} {last : Int} (K : EsOk E last) {t : Nat} {p : Int} (h16 : t < 16) (ht : ∀ x ∈ E, x.1 ≠ t) (hp : ∀ x ∈ E, p ≤ x.2.1) (hl : last ≤ 90000) (h11 : E.length ≤ 11) : EsOk (E ++ [(t, p, last + 1 + 1)]) (last + 1 + 1) := by
  refine ⟨?_, ?_, by simp; omega, by have := K.l0; omega, by omega, fun x hx => ?_, fun x hx => ?_⟩
  · rw [List.map_append]
    refine List.nodup_append.2 ⟨K.nd, by simp, fun a ha c hc => ?_⟩
    obtain rfl : c = t := by simpa using hc
    obtain ⟨x, hx, rfl⟩ := List.mem_map.1 ha
    exact ht x hx
  · refine Wt.srt_append.2 ⟨K.srt, ⟨fun _ h => (by cases h), trivial⟩, fun x hx y hy => ?_⟩
    obtain rfl : y = (t, p, last + 1 + 1) := by simpa using hy
    have h1 := hp x hx
    have h2 := K.cm x hx
    unfold Wt.Lt
    show p < x.2.1 ∨ (x.2.1 = p ∧ x.2.2 < last + 1 + 1)
    omega
  · rcases List.mem_append.1 hx with hx | hx
    · exact K.t16 x hx
    · obtain rfl : x = (t, p, last + 1 + 1) := by simpa using hx
      exact h16
  · rcases List.mem_append.1 hx with hx | hx
    · have := K.cm x hx; omega
    · obtain rfl : x = (t, p, last + 1 + 1) := by simpa using hx
      exact Int.le_refl _
theorem EsOk.rest {E : WEs} {last : Int} {x : Wt.En} (K : EsOk (x :: E) last) : EsOk E last :=
  ⟨(List.nodup_cons.1 K.nd).2, K.srt.2, by have := K.len; simp at this; omega, K.l0, K.l1, fun y hy => K.t16 y (by simp [hy]), fun y hy => K.cm y (by simp [hy])⟩
set_option maxHeartbeats 1000000 in
set_option maxRecDepth 100000 in
theorem semWait1_c (w : World) (b q g : Nat) (last : Int) (E : WEs) (h : SeW w b q g last E) (K : EsOk E last) (t : Nat) (p : Int) (h16 : t < 16) (p1 : 1 ≤ p) (p2 : p ≤ 31) (ht : ∀ x ∈ E, x.1 ≠ t) :
    Calls Tryz.prog 505 #[.pointer (some ⟨b, 0, none⟩), .int .i64 t, .int .i64 p] w fun e w' => e = .returned (.tuple #[.bool false, .int .i64 0]) ∧ SeW w' b q g (last + 1 + 1) (E ++ [(t, p, last + 1 + 1)]) ∧ Upd2 w q g w' := by
  have O := seOf_c w b q h.sb
  have f0 := fd0 q
  have f2 := fd2 q
  have A := fun W (hW : SeW W b q g last E) => semAsk_c W b q g last E hW K t p h16 p1 p2 ht
  have Tr := fun W (hW : SeW W b q g (last + 1) E) => semTry_c W b q hW.sb
  have P := fun W (hW : SeW W b q g (last + 1) E) => Wt.put_c W q g (last + 1) E hW.w hW.n3 t p h16 p1 p2 ht (by have := K.l0; omega) (by have := K.l1; omega)
  have RD : ∀ (W W' : World) (l : Int), SeW W b q g l E → Below W.heap.size W W' → SeW W' b q g l E := fun W W' l hW k => ⟨below_has k hW.sb, hW.w.reads k, hW.n1, hW.n2, hW.n3⟩
  have HH := Lib.hid h
  have HA := Lib.hid A
  have HT := Lib.hid Tr
  have HP := Lib.hid P
  have HRD := Lib.hid RD
  clear h K ht A Tr P RD
  go_enter Tryz.func505, Tryz.ntmps505
  go_wp2_with (first
    | (go_at_call 193; refine O.mono ?_; rintro e w1 ⟨rfl, b1⟩; have HB1 := Lib.hid b1; have H1 := Lib.hid (HRD.out _ _ _ HH.out b1); clear b1 O)
    | (go_at_call 506; refine (HA.out _ H1.out).mono ?_; rintro e w2 ⟨rfl, h2, u2⟩; have H2 := Lib.hid h2; have HU2 := Lib.hid (((Upd2.refl w q g).reads HB1.out).trans u2); clear h2 u2)
    | (go_at_call 386; refine (HT.out _ H2.out).mono ?_; rintro e w3 ⟨rfl, b3⟩; have HU3 := Lib.hid (HU2.out.reads b3); have H3 := Lib.hid (HRD.out _ _ _ H2.out b3); clear b3)
    | (go_at_call 507; refine (HP.out _ H3.out).mono ?_; rintro e w4 ⟨rfl, q4, u4⟩; have HQ4 := Lib.hid q4; have HU4 := Lib.hid u4; clear q4 u4))
  go_ret2
  exact ⟨rfl, ⟨HU4.out.other H3.out.sb H3.out.n1 H3.out.n2, HQ4.out, H3.out.n1, H3.out.n2, H3.out.n3⟩, HU3.out.trans HU4.out⟩
set_option maxHeartbeats 1000000 in
set_option maxRecDepth 100000 in
theorem semPost_c (w : World) (b q g : Nat) (last : Int) (x : Wt.En) (E : WEs) (h : SeW w b q g last (x :: E)) (K : EsOk (x :: E) last) :
    Calls Tryz.prog 167 #[.pointer (some ⟨b, 0, none⟩)] w fun e w' => e = .returned (.tuple #[.int .i64 x.1, .int .i64 0]) ∧ SeW w' b q g last E ∧ Upd2 w q g w' := by
  have O := seOf_c w b q h.sb
  have f0 := fd0 q
  have f2 := fd2 q
  have TK := fun W (hW : SeW W b q g last (x :: E)) => Wt.take_c W q g last x E hW.w hW.n3 K.nd K.len K.srt
  have HH := Lib.hid h
  have HT := Lib.hid TK
  clear h K TK
  go_enter Tryz.func167, Tryz.ntmps167
  go_upto_region 3 with (go_at_call 193; refine O.mono ?_; rintro e w1 ⟨rfl, b1⟩; have HB1 := Lib.hid b1; have h1 : SeW w1 b q g last (x :: E) := ⟨below_has b1 HH.out.sb, HH.out.w.reads b1, HH.out.n1, HH.out.n2, HH.out.n3⟩; have c0 : w1.cell? ⟨b, 0, none⟩ = some (.pointer (some ⟨q, 0, none⟩)) := has_cell 0 h1.sb rfl; have H1 := Lib.hid h1; clear b1 O h1)
  go_wp2_with (go_at_call 319; refine (HT.out _ H1.out).mono ?_; rintro e w2 ⟨rfl, q2, u2⟩; have HQ2 := Lib.hid q2; have HU2 := Lib.hid u2; clear q2 u2)
  go_ret2
  exact ⟨rfl, ⟨HU2.out.other H1.out.sb H1.out.n1 H1.out.n2, HQ2.out, H1.out.n1, H1.out.n2, H1.out.n3⟩, ((Upd2.refl w q g).reads HB1.out).trans HU2.out⟩
end Go.Proofs.YtagmlijhgncklaaGreatDoor.Ker
