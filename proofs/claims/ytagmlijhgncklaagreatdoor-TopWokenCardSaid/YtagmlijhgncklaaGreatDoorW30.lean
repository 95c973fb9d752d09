/-
  What stands behind each call of a thread: a panic is caught (call's closure), over the translation of this seat. Conditions: the blocks that are named hold what is said.
  A thread's call, over the translation of this seat. Conditions: the blocks that are named hold what is said; the function that is called answers, or leaves.
-/
import Derived.Test.YtagmlijhgncklaaGreatDoorW29
import Derived.Defers
import Derived.Recover
set_option linter.unusedVariables false
namespace Go.Proofs.YtagmlijhgncklaaGreatDoor.Ker
open Go.RowKit Go.Proofs.YtagmlijhgncklaaGreatDoor

theorem assert_nil (w : World) : (Instr.typeAssert .nilIface 20 326 true).run Tryz.prog w = .ok (.tuple #[.agg #[], .bool false]) w := by kernel_rfl
theorem assert_left (w : World) : (Instr.typeAssert (.iface 326 (.agg #[])) 20 326 true).run Tryz.prog w = .ok (.tuple #[.agg #[], .bool true]) w := by kernel_rfl
theorem mode_same {c : Frame} {cs : List Frame} {u : FrameMode} (h : c.mode = u) : c :: cs = { c with mode := u } :: cs := by
  cases c
  simp_all
set_option maxRecDepth 100000 in
theorem caught_not (x y z : Value) (w : World) : CallsD Tryz.prog 143 #[x, y, z] .returning w fun e u' w' => e = .returned (.tuple #[]) ∧ u' = .returning ∧ w' = w := by
  refine callsD_of_wpS Tryz.func143 rfl fun c₀ cs hu => ?_
  simp only [Tryz.ntmps143, List.size_toArray, List.length_cons, List.length_nil, Nat.reduceAdd, Nat.reduceSub, Array.replicate_succ, Array.replicate_zero, List.push_toArray, List.append_toArray, List.nil_append, List.cons_append]
  have h1 := assert_nil
  apply wpS_seq
  apply wpS_region
  simp [wpOpsS, go_sem, recoverD, hu, Exit.thenS]
  refine wpS_of_wp ?_
  go_wp2_with fail
  exact ⟨rfl, .returning, mode_same hu, _, results_none rfl _ _ _, rfl, rfl, rfl⟩
set_option maxRecDepth 100000 in
theorem caught_left (x y z : Value) (older : List PanicEntry) (w : World) :
    CallsD Tryz.prog 143 #[x, y, z] (.panicking ({ v := .iface 326 (.agg #[]), recovered := false } :: older)) w fun e u' w' => e = .returned (.tuple #[]) ∧ u' = .panicking ({ v := .iface 326 (.agg #[]), recovered := true } :: older) ∧ w' = w := by
  refine callsD_of_wpS Tryz.func143 rfl fun c₀ cs hu => ?_
  simp only [Tryz.ntmps143, List.size_toArray, List.length_cons, List.length_nil, Nat.reduceAdd, Nat.reduceSub, Array.replicate_succ, Array.replicate_zero, List.push_toArray, List.append_toArray, List.nil_append, List.cons_append]
  have h1 := assert_left
  apply wpS_seq
  apply wpS_region
  simp [wpOpsS, go_sem, recoverD, hu, Exit.thenS]
  refine wpS_of_wp ?_
  go_wp2_with fail
  exact ⟨rfl, _, rfl, _, results_none rfl _ _ _, rfl, rfl, rfl⟩
end Go.Proofs.YtagmlijhgncklaaGreatDoor.Ker
namespace Go.Proofs.YtagmlijhgncklaaGreatDoor.Ker
open Go.RowKit Go.Proofs.YtagmlijhgncklaaGreatDoor

/-- The boxes of a call: the kernel, the thread, the number. -/
structure Boxes (w W : World) (S : KS) (kb tb : Nat) (n : Int) : Prop where
  k : Out W S w.heap.size (.cells #[.pointer (some ⟨kb, 0, none⟩)] 36 (0, 0))
  t : Out W S (w.heap.size + 1) (.cells #[.pointer (some ⟨tb, 0, none⟩)] 71 (0, 0))
  n : Out W S (w.heap.size + 1 + 1) (.cells #[.int .i64 n] 3 (0, 0))
theorem Boxes.fr {w W W' : World} {S S' : KS} {kb tb : Nat} {n : Int} (h : Boxes w W S kb tb n) (f : Fr S S' W W') : Boxes w W' S' kb tb n := ⟨h.k.fr f, h.t.fr f, h.n.fr f⟩
set_option maxRecDepth 100000 in
theorem call_ret (w : World) (S : KS) {B : KB} (hB : S.B = B) (h : KW w S) (P : KP S) (p : Nat) (t : Th) (hp : p < 16) (ht : S.th p = some t) (n : Int) (F : Nat) (v : Int) (pb : Bool) (Good : KS → Th → Prop)
    (hF : ∀ args w, (callFunc F args).run Tryz.prog w = .ok (.enter F args) w) (hn : ((callsE.map entV).find? fun x => x.1 == n) = some (n, .func (.func F) #[] #[]))
    (hpt : ∀ W, Calls Tryz.prog 147 #[.int .i64 n] W fun e w' => e = .returned (.bool pb) ∧ W = w') (hact : pb = true → Can.actsF t.can true = false)
    (hG : ∀ S1 t1, Good S1 t1 → S1.B = S.B ∧ S1.th p = some t1 ∧ t1.b = t.b ∧ S1.lo.an ≤ 100000)
    (A : ∀ W, KW W S → Calls Tryz.prog F #[.pointer (some ⟨B.kb, 0, none⟩), .pointer (some ⟨t.b, 0, none⟩)] W fun e w' => ∃ S1 t1, e = .returned (.int .i64 v) ∧ Good S1 t1 ∧ KW w' S1 ∧ Fr S S1 W w') :
    Calls Tryz.prog 78 #[.pointer (some ⟨B.kb, 0, none⟩), .pointer (some ⟨t.b, 0, none⟩), .int .i64 n] w fun e w' => ∃ S1 t1 av, e = .returned (.tuple #[]) ∧ Good S1 t1 ∧ KW w' (S1.ans p (t1.ans v 0) av) ∧ Fr S (S1.ans p (t1.ans v 0) av) w w' := by
  subst hB
  have hmf : ∀ (fn : Fn) (first cap : Array Value) (w : World), (Instr.makeFunc fn first cap).run Tryz.prog w = .ok (.func fn first cap) w := fun _ _ _ _ => rfl
  have HK := Lib.hid h
  have AC : ∀ W, KW W S → Calls Tryz.prog 72 #[.pointer (some ⟨t.c, 0, none⟩), .bool true] W fun e w' => e = .returned (.bool (Can.actsF t.can true)) ∧ W = w' := fun W hW => Can.acts_c W t.c t.can true (hW.getCan hp ht) (by rw [P.can p t ht]; decide)
  have C32 : ∀ W, KW W S → W.cell? ⟨t.b, 32, none⟩ = some (.pointer (some ⟨t.c, 0, none⟩)) := fun W hW => tc32 (hW.getTh hp ht)
  clear P
  go_enter_defers Tryz.func78, Tryz.ntmps78
  go_upto_region 2 with fail
  refine world_wp (fun W => KW W S ∧ Fr S S w W ∧ Boxes w W S S.B.kb t.b n) ?_ ?_
  · have b1 : Below w.heap.size w (((w.alloc (.cells #[.pointer (some ⟨S.B.kb, 0, none⟩)] 36)).alloc (.cells #[.pointer (some ⟨t.b, 0, none⟩)] 71)).alloc (.cells #[.int .i64 n] 3)) := (((Below.refl _ w).alloc (Nat.le_refl _) _).alloc (by simp) _).alloc (by simp; omega) _
    have x1 := below_alloc_has (o := .cells #[.int .i64 n] 3) (below_alloc_has (o := .cells #[.pointer (some ⟨t.b, 0, none⟩)] 71) (heap_alloc_new w (.cells #[.pointer (some ⟨S.B.kb, 0, none⟩)] 36)))
    have x2 := below_alloc_has (o := .cells #[.int .i64 n] 3) (heap_alloc_new (w.alloc (.cells #[.pointer (some ⟨S.B.kb, 0, none⟩)] 36)) (.cells #[.pointer (some ⟨t.b, 0, none⟩)] 71))
    have x3 := heap_alloc_new ((w.alloc (.cells #[.pointer (some ⟨S.B.kb, 0, none⟩)] 36)).alloc (.cells #[.pointer (some ⟨t.b, 0, none⟩)] 71)) (.cells #[.int .i64 n] 3)
    simp only [World.size_alloc] at x2 x3
    exact ⟨h.reads b1, Fr.reads S b1, ⟨x1, h.fresh _ (by omega)⟩, ⟨x2, h.fresh _ (by omega)⟩, ⟨x3, h.fresh _ (by omega)⟩⟩
  rintro W ⟨kW, fW, bx⟩
  have cn : W.cell? ⟨w.heap.size + 1 + 1, 0, none⟩ = some (.int .i64 n) := has_cell 0 bx.n.1 rfl
  go_region_held3 (fun W' => W'.cell? ⟨w.heap.size + 1 + 1, 0, none⟩ = some (.int .i64 n)) (first | exact cn | assumption) (first | (go_at_call 145; refine (calls_c _).mono ?_; rintro e w2 ⟨r, rfl, hM, b2⟩; have hlk := hM.lookup 330 3 _ Tryz.underlying330 Tryz.underlying3 n (.func (.func F) #[] #[]) hn; have cn2 : w2.cell? ⟨w.heap.size + 1 + 1, 0, none⟩ = some (.int .i64 n) := has_cell 0 (below_has b2 bx.n.1) rfl))
  have b2' := below_undrew b2
  have K2 := Lib.hid (kW.reads b2')
  have F2 := Lib.hid (fW.trans (Fr.reads S b2'))
  have X2 := bx.fr (Fr.reads S b2')
  have ck2 : w2.cell? ⟨w.heap.size, 0, none⟩ = some (.pointer (some ⟨S.B.kb, 0, none⟩)) := has_cell 0 X2.k.1 rfl
  have ct2 : w2.cell? ⟨w.heap.size + 1, 0, none⟩ = some (.pointer (some ⟨t.b, 0, none⟩)) := has_cell 0 X2.t.1 rfl
  have c32 := C32 w2 K2.out
  have AC2 := AC w2 K2.out
  have HX2 := Lib.hid X2
  have HACT := Lib.hid hact
  clear hlk b2 b2' kW fW bx X2 cn C32 AC hmf hM h hact
  cases pb with
  | false =>
    clear AC2 c32
    go_wp2_with (first
      | (go_at_call 146; refine (must_c _ _).mono ?_; rintro e w' ⟨rfl, rfl⟩)
      | (go_at_call 147; refine (hpt _).mono ?_; rintro e w' ⟨rfl, rfl⟩)
      | (go_at_call 72; refine AC2.mono ?_; rintro e w' ⟨rfl, rfl⟩; clear AC2)
      | (refine (A _ K2.out).mono ?_; rintro e w3 ⟨S1, t1, rfl, g1, k3, f3⟩
         obtain ⟨q1, q2, q3, q4⟩ := hG S1 t1 g1
         have X3 := HX2.out.fr f3
         have ck3 : w3.cell? ⟨w.heap.size, 0, none⟩ = some (.pointer (some ⟨S.B.kb, 0, none⟩)) := has_cell 0 X3.k.1 rfl
         have ct3 : w3.cell? ⟨w.heap.size + 1, 0, none⟩ = some (.pointer (some ⟨t.b, 0, none⟩)) := has_cell 0 X3.t.1 rfl
         have cn3 : w3.cell? ⟨w.heap.size + 1 + 1, 0, none⟩ = some (.int .i64 n) := has_cell 0 X3.n.1 rfl
         have AN := answer_c w3 S1 (B := S.B) q1 k3 p t1 hp q2 n v 0 q4
         rw [q3] at AN
         have F3 := Lib.hid (F2.out.trans f3)
         have K3 := Lib.hid k3
         clear q1 q2 q4 k3 f3 X3 A)
      | (go_at_call 144; refine AN.mono ?_; rintro e w4 ⟨av, rfl, k4, f4⟩))
    refine leaves_cons (f := 143) (args := #[.pointer (some ⟨w.heap.size, 0, none⟩), .pointer (some ⟨w.heap.size + 1, 0, none⟩), .pointer (some ⟨w.heap.size + 1 + 1, 0, none⟩)]) (by simp) (by simp [go_sem]) ?_
    refine (caught_not _ _ _ _).mono ?_
    rintro e u' w5 ⟨rfl, rfl, rfl⟩
    exact ⟨_, results_none rfl _ _ _, S1, t1, av, rfl, g1, k4, F3.out.trans f4⟩
  | true =>
    rw [HACT.out rfl] at AC2
    go_wp2_with (first
      | (go_at_call 146; refine (must_c _ _).mono ?_; rintro e w' ⟨rfl, rfl⟩)
      | (go_at_call 147; refine (hpt _).mono ?_; rintro e w' ⟨rfl, rfl⟩)
      | (go_at_call 72; refine AC2.mono ?_; rintro e w' ⟨rfl, rfl⟩; clear AC2)
      | (refine (A _ K2.out).mono ?_; rintro e w3 ⟨S1, t1, rfl, g1, k3, f3⟩
         obtain ⟨q1, q2, q3, q4⟩ := hG S1 t1 g1
         have X3 := HX2.out.fr f3
         have ck3 : w3.cell? ⟨w.heap.size, 0, none⟩ = some (.pointer (some ⟨S.B.kb, 0, none⟩)) := has_cell 0 X3.k.1 rfl
         have ct3 : w3.cell? ⟨w.heap.size + 1, 0, none⟩ = some (.pointer (some ⟨t.b, 0, none⟩)) := has_cell 0 X3.t.1 rfl
         have cn3 : w3.cell? ⟨w.heap.size + 1 + 1, 0, none⟩ = some (.int .i64 n) := has_cell 0 X3.n.1 rfl
         have AN := answer_c w3 S1 (B := S.B) q1 k3 p t1 hp q2 n v 0 q4
         rw [q3] at AN
         have F3 := Lib.hid (F2.out.trans f3)
         have K3 := Lib.hid k3
         clear q1 q2 q4 k3 f3 X3 A)
      | (go_at_call 144; refine AN.mono ?_; rintro e w4 ⟨av, rfl, k4, f4⟩))
    refine leaves_cons (f := 143) (args := #[.pointer (some ⟨w.heap.size, 0, none⟩), .pointer (some ⟨w.heap.size + 1, 0, none⟩), .pointer (some ⟨w.heap.size + 1 + 1, 0, none⟩)]) (by simp) (by simp [go_sem]) ?_
    refine (caught_not _ _ _ _).mono ?_
    rintro e u' w5 ⟨rfl, rfl, rfl⟩
    exact ⟨_, results_none rfl _ _ _, S1, t1, av, rfl, g1, k4, F3.out.trans f4⟩
set_option maxRecDepth 100000 in
theorem call_left (w : World) (S : KS) {B : KB} (hB : S.B = B) (h : KW w S) (P : KP S) (p : Nat) (t : Th) (hp : p < 16) (ht : S.th p = some t) (n : Int) (F : Nat) (pb : Bool) (Good : KS → Th → Prop)
    (hF : ∀ args w, (callFunc F args).run Tryz.prog w = .ok (.enter F args) w) (hn : ((callsE.map entV).find? fun x => x.1 == n) = some (n, .func (.func F) #[] #[]))
    (hpt : ∀ W, Calls Tryz.prog 147 #[.int .i64 n] W fun e w' => e = .returned (.bool pb) ∧ W = w') (hact : pb = true → Can.actsF t.can true = false)
    (hG : ∀ S1 t1, Good S1 t1 → S1.B = S.B ∧ S1.th p = some t1 ∧ t1.b = t.b ∧ S1.lo.an ≤ 100000)
    (A : ∀ W, KW W S → Calls Tryz.prog F #[.pointer (some ⟨B.kb, 0, none⟩), .pointer (some ⟨t.b, 0, none⟩)] W fun e w' => ∃ S1 t1, e = .panicked [{ v := .iface 326 (.agg #[]), recovered := false }] ∧ Good S1 t1 ∧ KW w' S1 ∧ Fr S S1 W w') :
    Calls Tryz.prog 78 #[.pointer (some ⟨B.kb, 0, none⟩), .pointer (some ⟨t.b, 0, none⟩), .int .i64 n] w fun e w' => ∃ S1 t1, e = .returned (.tuple #[]) ∧ Good S1 t1 ∧ KW w' S1 ∧ Fr S S1 w w' := by
  subst hB
  have hmf : ∀ (fn : Fn) (first cap : Array Value) (w : World), (Instr.makeFunc fn first cap).run Tryz.prog w = .ok (.func fn first cap) w := fun _ _ _ _ => rfl
  have HK := Lib.hid h
  have AC : ∀ W, KW W S → Calls Tryz.prog 72 #[.pointer (some ⟨t.c, 0, none⟩), .bool true] W fun e w' => e = .returned (.bool (Can.actsF t.can true)) ∧ W = w' := fun W hW => Can.acts_c W t.c t.can true (hW.getCan hp ht) (by rw [P.can p t ht]; decide)
  have C32 : ∀ W, KW W S → W.cell? ⟨t.b, 32, none⟩ = some (.pointer (some ⟨t.c, 0, none⟩)) := fun W hW => tc32 (hW.getTh hp ht)
  clear P
  go_enter_defers Tryz.func78, Tryz.ntmps78
  go_upto_region 2 with fail
  refine world_wp (fun W => KW W S ∧ Fr S S w W ∧ Boxes w W S S.B.kb t.b n) ?_ ?_
  · have b1 : Below w.heap.size w (((w.alloc (.cells #[.pointer (some ⟨S.B.kb, 0, none⟩)] 36)).alloc (.cells #[.pointer (some ⟨t.b, 0, none⟩)] 71)).alloc (.cells #[.int .i64 n] 3)) := (((Below.refl _ w).alloc (Nat.le_refl _) _).alloc (by simp) _).alloc (by simp; omega) _
    have x1 := below_alloc_has (o := .cells #[.int .i64 n] 3) (below_alloc_has (o := .cells #[.pointer (some ⟨t.b, 0, none⟩)] 71) (heap_alloc_new w (.cells #[.pointer (some ⟨S.B.kb, 0, none⟩)] 36)))
    have x2 := below_alloc_has (o := .cells #[.int .i64 n] 3) (heap_alloc_new (w.alloc (.cells #[.pointer (some ⟨S.B.kb, 0, none⟩)] 36)) (.cells #[.pointer (some ⟨t.b, 0, none⟩)] 71))
    have x3 := heap_alloc_new ((w.alloc (.cells #[.pointer (some ⟨S.B.kb, 0, none⟩)] 36)).alloc (.cells #[.pointer (some ⟨t.b, 0, none⟩)] 71)) (.cells #[.int .i64 n] 3)
    simp only [World.size_alloc] at x2 x3
    exact ⟨h.reads b1, Fr.reads S b1, ⟨x1, h.fresh _ (by omega)⟩, ⟨x2, h.fresh _ (by omega)⟩, ⟨x3, h.fresh _ (by omega)⟩⟩
  rintro W ⟨kW, fW, bx⟩
  have cn : W.cell? ⟨w.heap.size + 1 + 1, 0, none⟩ = some (.int .i64 n) := has_cell 0 bx.n.1 rfl
  go_region_held3 (fun W' => W'.cell? ⟨w.heap.size + 1 + 1, 0, none⟩ = some (.int .i64 n)) (first | exact cn | assumption) (first | (go_at_call 145; refine (calls_c _).mono ?_; rintro e w2 ⟨r, rfl, hM, b2⟩; have hlk := hM.lookup 330 3 _ Tryz.underlying330 Tryz.underlying3 n (.func (.func F) #[] #[]) hn; have cn2 : w2.cell? ⟨w.heap.size + 1 + 1, 0, none⟩ = some (.int .i64 n) := has_cell 0 (below_has b2 bx.n.1) rfl))
  have b2' := below_undrew b2
  have K2 := Lib.hid (kW.reads b2')
  have F2 := Lib.hid (fW.trans (Fr.reads S b2'))
  have X2 := bx.fr (Fr.reads S b2')
  have ck2 : w2.cell? ⟨w.heap.size, 0, none⟩ = some (.pointer (some ⟨S.B.kb, 0, none⟩)) := has_cell 0 X2.k.1 rfl
  have ct2 : w2.cell? ⟨w.heap.size + 1, 0, none⟩ = some (.pointer (some ⟨t.b, 0, none⟩)) := has_cell 0 X2.t.1 rfl
  have c32 := C32 w2 K2.out
  have AC2 := AC w2 K2.out
  have HX2 := Lib.hid X2
  have HACT := Lib.hid hact
  clear hlk b2 b2' kW fW bx X2 cn C32 AC hmf hM h hact
  cases pb with
  | false =>
    clear AC2 c32
    go_wp2_with (first
      | (go_at_call 146; refine (must_c _ _).mono ?_; rintro e w' ⟨rfl, rfl⟩)
      | (go_at_call 147; refine (hpt _).mono ?_; rintro e w' ⟨rfl, rfl⟩)
      | (go_at_call 72; refine AC2.mono ?_; rintro e w' ⟨rfl, rfl⟩; clear AC2)
      | (refine (A _ K2.out).mono ?_; rintro e w3 ⟨S1, t1, rfl, g1, k3, f3⟩
         obtain ⟨q1, q2, q3, q4⟩ := hG S1 t1 g1
         have X3 := HX2.out.fr f3
         have ck3 : w3.cell? ⟨w.heap.size, 0, none⟩ = some (.pointer (some ⟨S.B.kb, 0, none⟩)) := has_cell 0 X3.k.1 rfl
         have ct3 : w3.cell? ⟨w.heap.size + 1, 0, none⟩ = some (.pointer (some ⟨t.b, 0, none⟩)) := has_cell 0 X3.t.1 rfl
         have cn3 : w3.cell? ⟨w.heap.size + 1 + 1, 0, none⟩ = some (.int .i64 n) := has_cell 0 X3.n.1 rfl
         have F3 := Lib.hid (F2.out.trans f3)
         have K3 := Lib.hid k3
         clear q1 q2 q4 k3 f3 X3 A))
    refine leaves_cons (f := 143) (args := #[.pointer (some ⟨w.heap.size, 0, none⟩), .pointer (some ⟨w.heap.size + 1, 0, none⟩), .pointer (some ⟨w.heap.size + 1 + 1, 0, none⟩)]) (by simp) (by simp [go_sem]) ?_
    refine (caught_left _ _ _ _ _).mono ?_
    rintro e u' w5 ⟨rfl, rfl, rfl⟩
    exact ⟨_, results_none rfl _ _ _, S1, t1, rfl, g1, K3.out, F3.out⟩
  | true =>
    rw [HACT.out rfl] at AC2
    go_wp2_with (first
      | (go_at_call 146; refine (must_c _ _).mono ?_; rintro e w' ⟨rfl, rfl⟩)
      | (go_at_call 147; refine (hpt _).mono ?_; rintro e w' ⟨rfl, rfl⟩)
      | (go_at_call 72; refine AC2.mono ?_; rintro e w' ⟨rfl, rfl⟩; clear AC2)
      | (refine (A _ K2.out).mono ?_; rintro e w3 ⟨S1, t1, rfl, g1, k3, f3⟩
         obtain ⟨q1, q2, q3, q4⟩ := hG S1 t1 g1
         have X3 := HX2.out.fr f3
         have ck3 : w3.cell? ⟨w.heap.size, 0, none⟩ = some (.pointer (some ⟨S.B.kb, 0, none⟩)) := has_cell 0 X3.k.1 rfl
         have ct3 : w3.cell? ⟨w.heap.size + 1, 0, none⟩ = some (.pointer (some ⟨t.b, 0, none⟩)) := has_cell 0 X3.t.1 rfl
         have cn3 : w3.cell? ⟨w.heap.size + 1 + 1, 0, none⟩ = some (.int .i64 n) := has_cell 0 X3.n.1 rfl
         have F3 := Lib.hid (F2.out.trans f3)
         have K3 := Lib.hid k3
         clear q1 q2 q4 k3 f3 X3 A))
    refine leaves_cons (f := 143) (args := #[.pointer (some ⟨w.heap.size, 0, none⟩), .pointer (some ⟨w.heap.size + 1, 0, none⟩), .pointer (some ⟨w.heap.size + 1 + 1, 0, none⟩)]) (by simp) (by simp [go_sem]) ?_
    refine (caught_left _ _ _ _ _).mono ?_
    rintro e u' w5 ⟨rfl, rfl, rfl⟩
    exact ⟨_, results_none rfl _ _ _, S1, t1, rfl, g1, K3.out, F3.out⟩
end Go.Proofs.YtagmlijhgncklaaGreatDoor.Ker
