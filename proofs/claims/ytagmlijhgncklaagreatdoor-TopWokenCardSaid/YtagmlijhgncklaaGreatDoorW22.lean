/-
  What an instruction makes of a thread's state (Step), over the translation of this seat. Conditions: the instruction does what is said; its registers are within their bounds.
-/
import Derived.Test.YtagmlijhgncklaaGreatDoorW20
set_option linter.unusedVariables false
namespace Go.Proofs.YtagmlijhgncklaaGreatDoor.Code
open Go.RowKit Go.Proofs.YtagmlijhgncklaaGreatDoor

def staC (pc : Int) (R : List Int) : List Value := .int .i64 pc :: R.map (Value.int .i64 ·)
theorem staC_len {R : List Int} (h : R.length = 8) (pc : Int) : (staC pc R).length = 9 := by simp [staC, h]
theorem staC_one (pc : Int) (R : List Int) : ∀ v ∈ staC pc R, v.oneCell' = true := by
  intro v hv
  simp only [staC, List.mem_cons, List.mem_map] at hv
  rcases hv with rfl | ⟨x, _, rfl⟩ <;> rfl
theorem sta_range {w : World} {s : Nat} {pc : Int} {R : List Int} (h : w.heap[s]? = some (staO pc R)) : w.rangeAt s 0 (staC pc R) := has_range h _ 0 (by intro j _; rw [Nat.zero_add, List.getElem?_toArray]; rfl)
/-- What stands within Step: the instruction, the state, the result's place. -/
structure StW (w W : World) (I : Ins) (pc : Int) (R : List Int) : Prop where
  below : Below w.heap.size w W
  i : W.heap[w.heap.size]? = some (.cells I.cells.toArray 29 (0, 0))
  s : W.heap[w.heap.size + 1]? = some (staO pc R)
  r : ∃ cs : Array Value, W.heap[w.heap.size + 1 + 1]? = some (.cells cs 247 (0, 0)) ∧ cs.size = 9
theorem StW.reads {w W W' : World} {I : Ins} {pc : Int} {R : List Int} (h : StW w W I pc R) (k : Below W.heap.size W W') : StW w W' I pc R := by
  obtain ⟨cs, h1, h2⟩ := h.r
  exact ⟨h.below.trans (k.mono h.below.size), below_has k h.i, below_has k h.s, cs, below_has k h1, h2⟩
theorem store_sta {ops : Array Oper} {rest : List Oper} {op : Oper} {a : Act} {w : World} {Q : Exit → Act → World → Prop} (hgd : op.guard = none) (x y : Operand) (ho : op.op = .store 247 x y)
    (b : Nat) (cs : Array Value) (L : List Value) (hx : a.eval x = .pointer (some ⟨b, 0, none⟩)) (hy : a.eval y = .agg L.toArray) (hL : L.length = 9) (h1 : ∀ v ∈ L, v.oneCell' = true) (hb : w.heap[b]? = some (.cells cs 247 (0, 0))) (hcs : cs.size = 9)
    (h : ∀ W, Upd w b (.cells L.toArray 247 (0, 0)) W → wpList Tryz.prog ops Q rest (a.put op.dst undef) W) : wpList Tryz.prog ops Q (op :: rest) a w := by
  refine wpList_store_mid hgd 247 x y ho b 0 L.toArray hx hy ?_ ?_ ?_ ?_
  · rw [List.size_toArray, hL]
    exact has_there hb 0 9 (by omega)
  · rw [List.size_toArray, hL]; kernel_rfl
  · rw [Array.all_eq_true_iff_forall_mem]
    intro v hv
    exact h1 v (by simpa using hv)
  · refine h _ ?_
    have U := Upd.setCells (fz := (0, 0)) (t := 247) L 0 cs w (Upd.refl hb)
    rw [spl_all L cs (by omega)] at U
    exact U
set_option maxRecDepth 100000 in
set_option maxHeartbeats 2000000 in
theorem step_c (w : World) (I : Ins) (pc pc' : Int) (R R' : List Int) (G : Nat) (str : ByteArray) (fd fa fb ob : Bool) (imk : Int) (hR : R.length = 8) (hR' : R'.length = 8)
    (hlk : (doesL.find? fun x => x.1 == I.op) = some (I.op, .func (.func G) #[] #[])) (hG : ∀ args w, (callFunc G args).run Tryz.prog w = .ok (.enter G args) w)
    (OF : ∀ W, Calls Tryz.prog 150 #[.int .i64 I.op] W fun e w' => e = .returned (.tuple #[.agg #[.string str, .bool fd, .bool fa, .bool fb, .int .i64 imk], .bool ob]) ∧ Below W.heap.size W w')
    (hd : fd = true → 0 ≤ I.d ∧ I.d ≤ 7) (ha : fa = true → 0 ≤ I.a ∧ I.a ≤ 7) (hb : fb = true → 0 ≤ I.b ∧ I.b ≤ 7) (hc : (fd = false ∧ fa = false ∧ fb = false) ∨ (fd = true ∧ fa = false ∧ fb = false) ∨ (fd = true ∧ fa = true ∧ fb = true)) (hp0 : 0 ≤ pc) (hp1 : pc ≤ 1000)
    (A : ∀ (W : World) (s : Nat), W.heap[s]? = some (staO (pc + 1) R) → Calls Tryz.prog G #[I.val, .pointer (some ⟨s, 0, none⟩)] W fun e w' => e = .returned (.tuple #[]) ∧ Upd W s (staO pc' R') w') :
    Calls Tryz.prog 79 #[I.val, .agg (staC pc R).toArray] w fun e w' => e = .returned (.tuple #[.agg (staC pc' R').toArray, .bool true]) ∧ Below w.heap.size w w' := by
  have e149 : ∀ args w, (callFunc 149 args).run Tryz.prog w = .ok (.enter 149 args) w := enters_of Tryz.func149 (by kernel_rfl) rfl
  have HR := Lib.hid hR
  have HR' := Lib.hid hR'
  have HD := Lib.hid hd
  have HA := Lib.hid ha
  have HB := Lib.hid hb
  clear hR hR' hd ha hb
  go_enter Tryz.func79, Tryz.ntmps79
  go_upto_region 1 with fail
  refine world_wp (fun W => StW w W I pc R) ⟨(((Below.refl _ w).alloc (Nat.le_refl _) _).alloc (by simp) _).alloc (by simp; omega) _, below_alloc_has (below_alloc_has (heap_alloc_new w _)), ?_, ⟨#[.int .i64 0, .int .i64 0, .int .i64 0, .int .i64 0, .int .i64 0, .int .i64 0, .int .i64 0, .int .i64 0, .int .i64 0], ?_, rfl⟩⟩ ?_
  · have q := below_alloc_has (o := .cells #[.int .i64 0, .int .i64 0, .int .i64 0, .int .i64 0, .int .i64 0, .int .i64 0, .int .i64 0, .int .i64 0, .int .i64 0] 247) (heap_alloc_new (w.alloc (.cells I.cells.toArray 29)) (.cells (staC pc R).toArray 247))
    rw [World.size_alloc] at q
    exact q
  · have q := heap_alloc_new ((w.alloc (.cells I.cells.toArray 29)).alloc (.cells (staC pc R).toArray 247)) (.cells #[.int .i64 0, .int .i64 0, .int .i64 0, .int .i64 0, .int .i64 0, .int .i64 0, .int .i64 0, .int .i64 0, .int .i64 0] 247)
    simp only [World.size_alloc] at q
    exact q
  rintro W hW
  have c0 : W.cell? ⟨w.heap.size, 0, none⟩ = some (.int .i64 I.op) := has_cell 0 hW.i rfl
  have HW := Lib.hid hW
  clear hW
  go_region_held3 (fun W' => W'.cell? ⟨w.heap.size, 0, none⟩ = some (.int .i64 I.op)) (first | exact c0 | assumption) (first | (go_at_call 148; refine (does_c _).mono ?_; rintro e w2 ⟨r, rfl, hM, b2⟩; have hlk2 := hM.lookup 335 27 _ Tryz.underlying335 Tryz.underlying27 I.op (.func (.func G) #[] #[]) hlk; have cc : w2.cell? ⟨w.heap.size, 0, none⟩ = some (.int .i64 I.op) := has_cell 0 (below_has (below_undrew b2) HW.out.i) rfl))
  have HW2 := Lib.hid (HW.out.reads (below_undrew b2))
  clear hlk2 hM b2 c0 HW hlk
  go_upto_region 4 with (go_at_call 150; refine (OF _).mono ?_; rintro e w4 ⟨rfl, b4⟩)
  obtain ⟨o, ho⟩ : ∃ o, o = w4.heap.size := ⟨_, rfl⟩
  rw [← ho]
  have HW4 := HW2.out.reads b4
  refine world_wp (fun W => StW w W I pc R ∧ W.heap[o]? = some (.cells #[.string str, .bool fd, .bool fa, .bool fb, .int .i64 imk] 338 (0, 0))) ⟨HW4.reads ((Below.refl _ _).alloc (Nat.le_refl _) _), by rw [ho]; exact heap_alloc_new w4 _⟩ ?_
  clear ho HW4 b4 HW2
  rintro V ⟨hV, ov⟩
  have q1 : V.cell? ⟨o, 1, none⟩ = some (.bool fd) := has_cell 1 ov rfl
  have q2 : V.cell? ⟨o, 2, none⟩ = some (.bool fa) := has_cell 2 ov rfl
  have q3 : V.cell? ⟨o, 3, none⟩ = some (.bool fb) := has_cell 3 ov rfl
  have p1 : V.cell? ⟨w.heap.size, 1, none⟩ = some (.int .i64 I.d) := has_cell 1 hV.i rfl
  have p2 : V.cell? ⟨w.heap.size, 2, none⟩ = some (.int .i64 I.a) := has_cell 2 hV.i rfl
  have p3 : V.cell? ⟨w.heap.size, 3, none⟩ = some (.int .i64 I.b) := has_cell 3 hV.i rfl
  have s0 : V.cell? ⟨w.heap.size + 1, 0, none⟩ = some (.int .i64 pc) := has_cell 0 hV.s rfl
  have sf := has_free hV.s
  have U1 : Upd V (w.heap.size + 1) (staO (pc + 1) R) (V.setCell ⟨w.heap.size + 1, 0, none⟩ (.int .i64 (pc + 1))) := ((Upd.refl hV.s).setCell 0 (.int .i64 (pc + 1))).to (by simp [staO])
  have HU1 := Lib.hid U1
  have HV := Lib.hid hV
  have hri := ins_cells I (U1.other hV.i (by omega))
  have s5 : pc + 1 ≤ 1001 := by omega
  clear ov hV U1
  obtain ⟨cs, hr, hcs⟩ := HV.out.r
  have hr1 := Lib.hid (HU1.out.other hr (by omega))
  have HCS := Lib.hid hcs
  clear hr hcs
  rcases hc with ⟨rfl, rfl, rfl⟩ | ⟨rfl, rfl, rfl⟩ | ⟨rfl, rfl, rfl⟩ <;>
    (go_wp2_with (first
      | (go_at_call 149; refine (in8_c _ I.d (HD.out (by trivial)).1 (HD.out (by trivial)).2).mono ?_; rintro e w' ⟨rfl, rfl⟩)
      | (go_at_call 149; refine (in8_c _ I.a (HA.out (by trivial)).1 (HA.out (by trivial)).2).mono ?_; rintro e w' ⟨rfl, rfl⟩)
      | (go_at_call 149; refine (in8_c _ I.b (HB.out (by trivial)).1 (HB.out (by trivial)).2).mono ?_; rintro e w' ⟨rfl, rfl⟩)
      | (refine wpList_load_mid rfl 29 (.tmp 2) rfl w.heap.size 0 rfl I.cells _ hri Tryz.underlying29 rfl (by kernel_rfl) ?_)
      | (refine (A _ _ HU1.out.1).mono ?_; rintro e w5 ⟨rfl, u5⟩; have hs5 := sta_range u5.1; have HU5 := Lib.hid u5; have hr5 := Lib.hid (u5.other hr1.out (by omega)); clear u5)
      | (refine wpList_load_mid rfl 247 (.tmp 3) rfl (w.heap.size + 1) 0 rfl (staC pc' R') _ hs5 Tryz.underlying247 rfl (by rw [staC_len HR'.out]; kernel_rfl) ?_)
      | (refine store_sta rfl (.tmp 4) (.tmp 67) rfl (w.heap.size + 1 + 1) cs (staC pc' R') rfl rfl (staC_len HR'.out _) (staC_one _ _) hr5.out HCS.out ?_; intro W6 u6; have HU6 := Lib.hid u6; clear u6)))
  all_goals
    refine bodyPost_ret (v := .tuple #[.agg (staC pc' R').toArray, .bool true]) ?_ rfl ?_
  all_goals
    first
      | (have hload := run_loadVar_mid (P := Tryz.prog) W6 (w.heap.size + 1 + 1) 0 247 (staC pc' R') _ (has_range HU6.out.1 _ 0 (by intro j _; rw [Nat.zero_add, List.getElem?_toArray])) Tryz.underlying247 rfl (by rw [staC_len HR'.out]; kernel_rfl)
         simp [results, Tryz.f79, hload, asAddr]
         done)
      | exact ⟨rfl, ((HV.out.below.trans (HU1.out.below (B := w.heap.size) (by omega) HV.out.below.size)).trans (HU5.out.below (B := w.heap.size) (by omega) (by have := HV.out.below.size; have := HU1.out.size; omega))).trans (HU6.out.below (B := w.heap.size) (by omega) (by have := HV.out.below.size; have := HU1.out.size; have := HU5.out.size; omega))⟩
end Go.Proofs.YtagmlijhgncklaaGreatDoor.Code
