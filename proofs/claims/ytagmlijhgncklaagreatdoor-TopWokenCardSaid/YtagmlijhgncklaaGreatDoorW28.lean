/-
  The kernel as it lies in memory: one block each for the kernel, its parts and its threads, each with a label of its own, and what a step turns of them. There are no conditions.
  The kernel as it lies in memory, part 2: what turns of it, part by part; what is always so. There are no conditions.
  What each cell of a thread, and of the kernel, holds. There are no conditions. (Written by genkf0.py.)
  What storing into a cell of a thread, or of the kernel, makes of it. There are no conditions.
  The kernel's small functions, over the translation of this seat. Conditions: the blocks that are named hold what is said.
  The kernel's functions that put a thread into its sequence, over the translation of this seat. Conditions: the blocks that are named hold what is said.
  The kernel makes a thread (create), over the translation of this seat. Conditions: the blocks that are named hold what is said; a place is free.
-/
import Derived.Test.YtagmlijhgncklaaGreatDoorW20
import Derived.Test.YtagmlijhgncklaaGreatDoorW25
import Derived.Test.YtagmlijhgncklaaGreatDoorW17
import Derived.Test.YtagmlijhgncklaaGreatDoorW26
import Derived.Test.YtagmlijhgncklaaGreatDoorW27
import Derived.Test.YtagmlijhgncklaaGreatDoorW16
import Derived.Test.YtagmlijhgncklaaGreatDoorW14
import Derived.Maps.AppendAt
set_option linter.unusedVariables false
namespace Go.Proofs.YtagmlijhgncklaaGreatDoor.Ker
open Go.RowKit Go.Proofs.YtagmlijhgncklaaGreatDoor

/-- What a thread waits in. -/
structure Wt where
  kind : Int
  on : Int
  call : Int
  mx : Int
  set : Int
  owed : Int
  unw : Bool
  timed : Bool
  clk : Int
def Wt.no : Wt := ⟨0, 0, 0, 0, 0, 0, false, false, 0⟩
/-- A thread; it has no frames. -/
structure Th where
  b : Nat
  c : Nat
  hd : Int
  prog : Int
  pc : Int
  r : Nat → Int
  pol : Int
  base : Int
  high : Int
  low : Int
  srv : Option Addr
  eff : Int
  jn : Bool
  jr : Int
  en : Bool
  val : Int
  wt : Wt
  can : Can.Cs
def thC (p : Nat) (t : Th) : Array Value := #[.int .i64 p, .int .i64 t.hd, .int .i64 t.prog, .int .i64 t.pc,
  .int .i64 (t.r 0), .int .i64 (t.r 1), .int .i64 (t.r 2), .int .i64 (t.r 3), .int .i64 (t.r 4), .int .i64 (t.r 5), .int .i64 (t.r 6), .int .i64 (t.r 7),
  .int .i64 t.pol, .int .i64 t.base, .int .i64 t.high, .int .i64 t.low, .pointer t.srv, .int .i64 t.eff, .bool t.jn, .int .i64 t.jr, .bool t.en, .int .i64 t.val, .slice none 0 0,
  .int .i64 t.wt.kind, .int .i64 t.wt.on, .int .i64 t.wt.call, .int .i64 t.wt.mx, .int .u32 t.wt.set, .int .i64 t.wt.owed, .bool t.wt.unw, .bool t.wt.timed, .int .i64 t.wt.clk, .pointer (some ⟨t.c, 0, none⟩)]
def thO (p : Nat) (t : Th) : Obj := .cells (thC p t) 140 (0, 0)

/-- The rows to which is only appended, the labels of blocks, what never turns. -/
structure Lo where
  lab : Nat → Nat
  cst : Nat → Obj → Prop
  lv : Value
  ln : Nat
  nv : Value
  notes : List (Int × Int)
  av : Value
  an : Nat
/-- The kernel's blocks, and what never turns. -/
structure KB where
  kb : Nat
  tab : Nat
  tb : Nat
  rb : Nat
  cb : Nat
  w0 : Nat
  w1 : Nat
  sg : Nat
  ke : Nat
  mu : Nat
  mub : Nat
  se : Nat
  seb : Nat
  co : Nat
  cot : Nat
  ba : Nat
  bat : Nat
  rw : Nat
  rwt : Nat
  qu : Nat
  qut : Nat
  ma : Nat
  mat : Nat
  tm : Nat
  tm0 : Nat
  tm1 : Nat
  on : Nat → Nat
  hp : Value
  fs : Value
  n : Nat
  mb : Nat
  J : Code.Job
/-- The kernel: its blocks, and what they hold. -/
structure KS where
  B : KB
  tp : Nat → Option Addr
  th : Nat → Option Th
  T : List (Bool × Int)
  L : List Hs
  R : Rd
  st : Int
  re : Int
  mo : Int
  W0 : Wh
  W1 : Wh
  kx : Key.Ks
  muT : List (Bool × Int)
  muL : Nat → Option Addr
  seT : List (Bool × Int)
  seL : Nat → Option Addr
  ext : Nat → Option (Nat × Obj)
  lo : Lo
def kC (S : KS) : Array Value := #[.int .i64 S.B.J.t, .int .i64 S.B.J.o, .int .i64 S.B.J.s, .int .i64 S.B.J.q, .int .i64 512, .int .i64 S.B.J.pr, .slice (some ⟨S.B.J.b, 0, none⟩) S.B.J.PS.length S.B.J.cap, .slice none 0 0,
  S.lo.lv, .pointer (some ⟨S.B.tab, 0, none⟩),
  .pointer (S.tp 0), .pointer (S.tp 1), .pointer (S.tp 2), .pointer (S.tp 3), .pointer (S.tp 4), .pointer (S.tp 5), .pointer (S.tp 6), .pointer (S.tp 7), .pointer (S.tp 8), .pointer (S.tp 9), .pointer (S.tp 10), .pointer (S.tp 11), .pointer (S.tp 12), .pointer (S.tp 13), .pointer (S.tp 14), .pointer (S.tp 15),
  .pointer (some ⟨S.B.tb, 0, none⟩), .pointer (some ⟨S.B.cb, 0, none⟩), .pointer (some ⟨S.B.w0, 0, none⟩), .pointer (some ⟨S.B.w1, 0, none⟩), .pointer (some ⟨S.B.sg, 0, none⟩),
  .int .i64 0, .int .i64 0, .int .i64 0, .int .i64 0, .int .i64 0, .int .i64 0, .int .i64 0, .int .i64 0, .int .i64 0, .int .i64 0, .int .i64 0, .int .i64 0, .int .i64 0, .int .i64 0, .int .i64 0, .int .i64 0,
  .int .i64 0, .int .i64 0, .int .i64 0, .int .i64 0, .int .i64 0, .int .i64 0, .int .i64 0, .int .i64 0, .int .i64 0, .int .i64 0, .int .i64 0, .int .i64 0, .int .i64 0, .int .i64 0, .int .i64 0, .int .i64 0,
  .pointer (some ⟨S.B.mu, 0, none⟩), .pointer (some ⟨S.B.co, 0, none⟩), .pointer (some ⟨S.B.se, 0, none⟩), .pointer (some ⟨S.B.ba, 0, none⟩), .pointer (some ⟨S.B.rw, 0, none⟩), .pointer (some ⟨S.B.qu, 0, none⟩), .pointer (some ⟨S.B.ma, 0, none⟩),
  .pointer (some ⟨S.B.tm, 0, none⟩), .pointer (some ⟨S.B.ke, 0, none⟩),
  .pointer (some ⟨S.B.on 0, 0, none⟩), .pointer (some ⟨S.B.on 1, 0, none⟩), .pointer (some ⟨S.B.on 2, 0, none⟩), .pointer (some ⟨S.B.on 3, 0, none⟩), .pointer (some ⟨S.B.on 4, 0, none⟩), .pointer (some ⟨S.B.on 5, 0, none⟩), .pointer (some ⟨S.B.on 6, 0, none⟩), .pointer (some ⟨S.B.on 7, 0, none⟩),
  S.B.hp, S.B.fs, .int .i64 0, .int .i64 0, .int .i64 0, .int .i64 0, .int .i64 0, .int .i64 0, .int .i64 0, .int .i64 0, S.lo.nv, S.lo.av]
def kO (S : KS) : Obj := .cells (kC S) 94 (0, 0)
/-- A store of things of one kind: its table, and eight places. -/
def storeO (tb : Nat) (L : Nat → Option Addr) (T : TypeId) : Obj := .cells #[.pointer (some ⟨tb, 0, none⟩), .pointer (L 0), .pointer (L 1), .pointer (L 2), .pointer (L 3), .pointer (L 4), .pointer (L 5), .pointer (L 6), .pointer (L 7)] T (0, 0)
def KS.thObj (S : KS) (n : Nat) : Option (Nat × Obj) := match S.th (n / 2) with
  | none => none
  | some t => if n % 2 = 0 then some (t.b, thO (n / 2) t) else some (t.c, Can.canO t.can)
/-- The parts: each a block, and what it holds. -/
def KS.obj (S : KS) : Nat → Option (Nat × Obj)
  | 0 => some (S.B.kb, kO S)
  | 1 => some (S.B.tab, Tab.tabO S.T)
  | 2 => some (S.B.tb, tnO S.B.rb S.B.J.q S.L)
  | 3 => some (S.B.rb, rdO S.R S.st)
  | 4 => some (S.B.cb, Clk.clkO true S.re S.mo)
  | 5 => some (S.B.w0, whO S.W0)
  | 6 => some (S.B.w1, whO S.W1)
  | 7 => some (S.B.sg, sgO S.B.J.t S.B.J.s S.B.mb)
  | 8 => some (S.B.ke, Key.kO S.kx)
  | 9 => some (S.B.mu, storeO S.B.mub S.muL 179)
  | 10 => some (S.B.mub, Tab.tabO S.muT)
  | 11 => some (S.B.se, storeO S.B.seb S.seL 185)
  | 12 => some (S.B.seb, Tab.tabO S.seT)
  | n + 13 => if n < 32 then S.thObj n else S.ext (n - 32)
theorem obj_th {S : KS} {p : Nat} {t : Th} (hp : p < 16) (h : S.th p = some t) : S.obj (13 + 2 * p) = some (t.b, thO p t) := by
  rw [show 13 + 2 * p = 2 * p + 13 by omega]
  show (if 2 * p < 32 then S.thObj (2 * p) else _) = _
  rw [if_pos (by omega)]
  unfold KS.thObj
  rw [show 2 * p / 2 = p by omega, h]
  simp
theorem obj_can {S : KS} {p : Nat} {t : Th} (hp : p < 16) (h : S.th p = some t) : S.obj (14 + 2 * p) = some (t.c, Can.canO t.can) := by
  rw [show 14 + 2 * p = (2 * p + 1) + 13 by omega]
  show (if 2 * p + 1 < 32 then S.thObj (2 * p + 1) else _) = _
  rw [if_pos (by omega)]
  unfold KS.thObj
  rw [show (2 * p + 1) / 2 = p by omega, h]
  simp
/-- The kernel lies in a world. -/
structure KW (w : World) (S : KS) : Prop where
  ob : ∀ i b o, S.obj i = some (b, o) → w.heap[b]? = some o ∧ S.lo.lab b = i + 5
  cs : ∀ b o, S.lo.cst b o → w.heap[b]? = some o ∧ S.lo.lab b = 1
  l : ∃ xs, w.ownsRow 0 43 2 S.lo.lv S.lo.ln xs
  ll : ∀ b, S.lo.lv.ownBlock = some b → S.lo.lab b = 2
  nt : w.ownsRow 0 48 2 S.lo.nv S.lo.notes.length (S.lo.notes.flatMap fun x => [.int .i64 x.1, .int .i64 x.2])
  nl : ∀ b, S.lo.nv.ownBlock = some b → S.lo.lab b = 3
  a : ∃ xs, w.ownsRow 0 410 4 S.lo.av S.lo.an xs
  al : ∀ b, S.lo.av.ownBlock = some b → S.lo.lab b = 4
  fresh : ∀ b, w.heap.size ≤ b → S.lo.lab b = 0
/-- What is outside of the kernel stays; labels are given to new blocks alone. -/
structure Fr (S S' : KS) (w w' : World) : Prop where
  os : w'.os = w.os
  tape : w'.tape = w.tape
  output : w'.output = w.output
  size : w.heap.size ≤ w'.heap.size
  block : ∀ k, k < w.heap.size → S.lo.lab k = 0 → w'.heap[k]? = w.heap[k]?
  lab : ∀ k, k < w.heap.size → S'.lo.lab k = S.lo.lab k
theorem Fr.trans {S S1 S2 : KS} {w w1 w2 : World} (h : Fr S S1 w w1) (k : Fr S1 S2 w1 w2) : Fr S S2 w w2 :=
  ⟨k.os.trans h.os, k.tape.trans h.tape, k.output.trans h.output, Nat.le_trans h.size k.size,
    fun i hi hl => (k.block i (Nat.lt_of_lt_of_le hi h.size) ((h.lab i hi).trans hl)).trans (h.block i hi hl), fun i hi => (k.lab i (Nat.lt_of_lt_of_le hi h.size)).trans (h.lab i hi)⟩
theorem Fr.refl (S : KS) (w : World) : Fr S S w w := ⟨rfl, rfl, rfl, Nat.le_refl _, fun _ _ _ => rfl, fun _ _ => rfl⟩
theorem Fr.reads (S : KS) {w w' : World} (h : Below w.heap.size w w') : Fr S S w w' := ⟨h.os, h.tape, h.output, h.size, fun k hk _ => h.block k hk, fun _ _ => rfl⟩
theorem Fr.drew {S S' : KS} {w w' : World} (h : Fr S S' w w') : Fr S S' w w'.drew := ⟨h.os, h.tape, h.output, h.size, h.block, h.lab⟩
/-- A block outside of the kernel. -/
def Out (w : World) (S : KS) (b : Nat) (o : Obj) : Prop := w.heap[b]? = some o ∧ S.lo.lab b = 0
theorem Out.fr {S S' : KS} {w w' : World} {b : Nat} {o : Obj} (h : Out w S b o) (f : Fr S S' w w') : Out w' S' b o := ⟨(f.block b (has_lt h.1) h.2).trans h.1, (f.lab b (has_lt h.1)).trans h.2⟩
/-- A row that is appended to stands behind a step that leaves its block as it was. -/
theorem owns_kept {w w' : World} {base : Nat} {e : TypeId} {size n : Nat} {v : Value} {xs : List Value} (h : w.ownsRow base e size v n xs) (k : ∀ b, v.ownBlock = some b → w'.heap[b]? = w.heap[b]?) : w'.ownsRow base e size v n xs := by
  refine ⟨h.1, ?_⟩
  rcases h.2 with hn | ⟨g, cap, cur, rfl, hb, hg, rest⟩
  · exact .inl hn
  · exact .inr ⟨g, cap, cur, rfl, hb, (k g rfl).trans hg, rest⟩
theorem owns_lt {w : World} {base : Nat} {e : TypeId} {size n : Nat} {v : Value} {xs : List Value} (h : w.ownsRow base e size v n xs) {b : Nat} (hv : v.ownBlock = some b) : b < w.heap.size := by
  rcases h.2 with ⟨rfl, _⟩ | ⟨g, cap, cur, rfl, _, hg, _⟩
  · cases hv
  · cases hv
    exact has_lt hg
/-- A step that leaves all labelled blocks as they were. -/
theorem KW.keeps {w w' : World} {S : KS} (h : KW w S) (hs : w.heap.size ≤ w'.heap.size) (k : ∀ b, b < w.heap.size → S.lo.lab b ≠ 0 → w'.heap[b]? = w.heap[b]?) : KW w' S :=
  ⟨fun i b o hi => ⟨(k b (has_lt (h.ob i b o hi).1) (by rw [(h.ob i b o hi).2]; omega)).trans (h.ob i b o hi).1, (h.ob i b o hi).2⟩,
    fun b o hi => ⟨(k b (has_lt (h.cs b o hi).1) (by rw [(h.cs b o hi).2]; omega)).trans (h.cs b o hi).1, (h.cs b o hi).2⟩,
    let ⟨xs, hx⟩ := h.l; ⟨xs, owns_kept hx fun b hb => k b (owns_lt hx hb) (by rw [h.ll b hb]; omega)⟩, h.ll,
    owns_kept h.nt fun b hb => k b (owns_lt h.nt hb) (by rw [h.nl b hb]; omega), h.nl,
    let ⟨xs, hx⟩ := h.a; ⟨xs, owns_kept hx fun b hb => k b (owns_lt hx hb) (by rw [h.al b hb]; omega)⟩, h.al,
    fun b hb => h.fresh b (Nat.le_trans hs hb)⟩
theorem KW.reads {w w' : World} {S : KS} (h : KW w S) (k : Below w.heap.size w w') : KW w' S := h.keeps k.size fun b hb _ => k.block b hb
theorem KW.has {w : World} {S : KS} (h : KW w S) (i : Nat) {b : Nat} {o : Obj} (hi : S.obj i = some (b, o)) : w.heap[b]? = some o := (h.ob i b o hi).1
/-- A part turns: block b holds o now. -/
theorem KW.upd {w w' : World} {S S' : KS} (h : KW w S) (i : Nat) {b : Nat} {o0 o : Obj} (hi : S.obj i = some (b, o0)) (U : Upd w b o w') (h1 : S'.obj i = some (b, o)) (h2 : ∀ j, j ≠ i → S'.obj j = S.obj j) (hl : S'.lo = S.lo) : KW w' S' ∧ Fr S S' w w' := by
  have hb := (h.ob i b o0 hi).2
  have keep : ∀ c, c < w.heap.size → S.lo.lab c ≠ i + 5 → w'.heap[c]? = w.heap[c]? := fun c hc hne => U.2.block c hc (by intro e; cases e; exact hne hb)
  refine ⟨⟨?_, ?_, ?_, ?_, ?_, ?_, ?_, ?_, ?_⟩, ⟨U.2.os, U.2.tape, U.2.output, U.2.size, fun k hk h0 => keep k hk (by rw [h0]; omega), fun k _ => by rw [hl]⟩⟩
  · intro j c x hj
    by_cases e : j = i
    · subst e
      rw [h1] at hj
      cases hj
      exact ⟨U.1, by rw [hl]; exact hb⟩
    · rw [h2 j e] at hj
      have k := h.ob j c x hj
      exact ⟨(keep c (has_lt k.1) (by rw [k.2]; omega)).trans k.1, by rw [hl]; exact k.2⟩
  · intro c x hx
    rw [hl] at hx
    have k := h.cs c x hx
    exact ⟨(keep c (has_lt k.1) (by rw [k.2]; omega)).trans k.1, by rw [hl]; exact k.2⟩
  · rw [hl]
    obtain ⟨xs, hx⟩ := h.l
    exact ⟨xs, owns_kept hx fun c hc => keep c (owns_lt hx hc) (by rw [h.ll c hc]; omega)⟩
  · rw [hl]; exact h.ll
  · rw [hl]
    exact owns_kept h.nt fun c hc => keep c (owns_lt h.nt hc) (by rw [h.nl c hc]; omega)
  · rw [hl]; exact h.nl
  · rw [hl]
    obtain ⟨xs, hx⟩ := h.a
    exact ⟨xs, owns_kept hx fun c hc => keep c (owns_lt hx hc) (by rw [h.al c hc]; omega)⟩
  · rw [hl]; exact h.al
  · intro c hc
    rw [hl]
    exact h.fresh c (Nat.le_trans U.2.size hc)
/-- Two parts turn. -/
theorem KW.upd2 {w w' : World} {S S' : KS} (h : KW w S) (i j : Nat) {b c : Nat} {o0 o p0 p : Obj} (hi : S.obj i = some (b, o0)) (hj : S.obj j = some (c, p0)) (U : Upd2 w b c w') (hb' : w'.heap[b]? = some o) (hc' : w'.heap[c]? = some p) (h1 : S'.obj i = some (b, o)) (h1' : S'.obj j = some (c, p)) (h2 : ∀ k, k ≠ i → k ≠ j → S'.obj k = S.obj k) (hl : S'.lo = S.lo) : KW w' S' ∧ Fr S S' w w' := by
  have hb := (h.ob i b o0 hi).2
  have hc := (h.ob j c p0 hj).2
  have keep : ∀ d, d < w.heap.size → S.lo.lab d ≠ i + 5 → S.lo.lab d ≠ j + 5 → w'.heap[d]? = w.heap[d]? := fun d hd k1 k2 => U.block d hd (by intro e; rw [e] at k1; exact k1 hb) (by intro e; rw [e] at k2; exact k2 hc)
  refine ⟨⟨?_, ?_, ?_, ?_, ?_, ?_, ?_, ?_, ?_⟩, ⟨U.os, U.tape, U.output, U.size, fun k hk h0 => keep k hk (by rw [h0]; omega) (by rw [h0]; omega), fun k _ => by rw [hl]⟩⟩
  · intro k d x hk
    by_cases e : k = i
    · subst e
      rw [h1] at hk
      cases hk
      exact ⟨hb', by rw [hl]; exact hb⟩
    · by_cases e' : k = j
      · subst e'
        rw [h1'] at hk
        cases hk
        exact ⟨hc', by rw [hl]; exact hc⟩
      · rw [h2 k e e'] at hk
        have y := h.ob k d x hk
        exact ⟨(keep d (has_lt y.1) (by rw [y.2]; omega) (by rw [y.2]; omega)).trans y.1, by rw [hl]; exact y.2⟩
  · intro d x hx
    rw [hl] at hx
    have y := h.cs d x hx
    exact ⟨(keep d (has_lt y.1) (by rw [y.2]; omega) (by rw [y.2]; omega)).trans y.1, by rw [hl]; exact y.2⟩
  · rw [hl]
    obtain ⟨xs, hx⟩ := h.l
    exact ⟨xs, owns_kept hx fun d hd => keep d (owns_lt hx hd) (by rw [h.ll d hd]; omega) (by rw [h.ll d hd]; omega)⟩
  · rw [hl]; exact h.ll
  · rw [hl]
    exact owns_kept h.nt fun d hd => keep d (owns_lt h.nt hd) (by rw [h.nl d hd]; omega) (by rw [h.nl d hd]; omega)
  · rw [hl]; exact h.nl
  · rw [hl]
    obtain ⟨xs, hx⟩ := h.a
    exact ⟨xs, owns_kept hx fun d hd => keep d (owns_lt hx hd) (by rw [h.al d hd]; omega) (by rw [h.al d hd]; omega)⟩
  · rw [hl]; exact h.al
  · intro d hd
    rw [hl]
    exact h.fresh d (Nat.le_trans U.size hd)
end Go.Proofs.YtagmlijhgncklaaGreatDoor.Ker
namespace Go.Proofs.YtagmlijhgncklaaGreatDoor.Ker
open Go.RowKit Go.Proofs.YtagmlijhgncklaaGreatDoor

def put {α : Type} (f : Nat → α) (i : Nat) (x : α) : Nat → α := fun j => if j = i then x else f j
theorem put_self {α : Type} (f : Nat → α) (i : Nat) (x : α) : put f i x i = x := by simp [put]
theorem put_ne {α : Type} (f : Nat → α) {i j : Nat} (x : α) (h : j ≠ i) : put f i x j = f j := by simp [put, h]

theorem KW.ne {w : World} {S : KS} (h : KW w S) {i j b c : Nat} {o p : Obj} (hi : S.obj i = some (b, o)) (hj : S.obj j = some (c, p)) (hne : i ≠ j) : b ≠ c := by
  intro e
  subst e
  have h1 := (h.ob i b o hi).2
  have h2 := (h.ob j b p hj).2
  omega
theorem KW.turns {w w' : World} {S : KS} (h : KW w S) {L : List Hs} {R : Rd} {st : Int} (T : Tn w' S.B.tb S.B.rb S.B.J.q L R st) (U : Upd2 w S.B.tb S.B.rb w') : KW w' { S with L := L, R := R, st := st } ∧ Fr S { S with L := L, R := R, st := st } w w' :=
  h.upd2 2 3 rfl rfl U T.t T.r rfl rfl (fun k h1 h2 => match k with
    | 0 => rfl | 1 => rfl | 2 => absurd rfl h1 | 3 => absurd rfl h2 | 4 => rfl | 5 => rfl | 6 => rfl | 7 => rfl | 8 => rfl | 9 => rfl | 10 => rfl | 11 => rfl | 12 => rfl | _ + 13 => rfl) rfl
theorem KW.tn {w : World} {S : KS} (h : KW w S) (hl : S.L.length = 16) (hr : RdOk S.R) : Tn w S.B.tb S.B.rb S.B.J.q S.L S.R S.st :=
  ⟨h.has 2 rfl, h.has 3 rfl, h.ne (i := 2) (j := 3) rfl rfl (by decide), hl, hr⟩
theorem KW.rdy {w w' : World} {S : KS} (h : KW w S) {st : Int} (U : Upd w S.B.rb (rdO S.R st) w') : KW w' { S with st := st } ∧ Fr S { S with st := st } w w' :=
  h.upd 3 rfl U rfl (fun k h2 => match k with
    | 0 => rfl | 1 => rfl | 2 => rfl | 3 => absurd rfl h2 | 4 => rfl | 5 => rfl | 6 => rfl | 7 => rfl | 8 => rfl | 9 => rfl | 10 => rfl | 11 => rfl | 12 => rfl | _ + 13 => rfl) rfl
theorem KW.table {w w' : World} {S : KS} (h : KW w S) {T : List (Bool × Int)} (U : Upd w S.B.tab (Tab.tabO T) w') : KW w' { S with T := T } ∧ Fr S { S with T := T } w w' :=
  h.upd 1 rfl U rfl (fun k h2 => match k with
    | 0 => rfl | 1 => absurd rfl h2 | 2 => rfl | 3 => rfl | 4 => rfl | 5 => rfl | 6 => rfl | 7 => rfl | 8 => rfl | 9 => rfl | 10 => rfl | 11 => rfl | 12 => rfl | _ + 13 => rfl) rfl
theorem KW.clock {w w' : World} {S : KS} (h : KW w S) {re mo : Int} (U : Upd w S.B.cb (Clk.clkO true re mo) w') : KW w' { S with re := re, mo := mo } ∧ Fr S { S with re := re, mo := mo } w w' :=
  h.upd 4 rfl U rfl (fun k h2 => match k with
    | 0 => rfl | 1 => rfl | 2 => rfl | 3 => rfl | 4 => absurd rfl h2 | 5 => rfl | 6 => rfl | 7 => rfl | 8 => rfl | 9 => rfl | 10 => rfl | 11 => rfl | 12 => rfl | _ + 13 => rfl) rfl
/-- A part is written as it was. -/
theorem KW.same {w w' : World} {S : KS} (h : KW w S) (i : Nat) {b : Nat} {o : Obj} (hi : S.obj i = some (b, o)) (U : Upd w b o w') : KW w' S ∧ Fr S S w w' := h.upd i hi U hi (fun _ _ => rfl) rfl
theorem KW.keys {w w' : World} {S : KS} (h : KW w S) {K : Key.Ks} (U : Upd w S.B.ke (Key.kO K) w') : KW w' { S with kx := K } ∧ Fr S { S with kx := K } w w' :=
  h.upd 8 rfl U rfl (fun k h2 => match k with
    | 0 => rfl | 1 => rfl | 2 => rfl | 3 => rfl | 4 => rfl | 5 => rfl | 6 => rfl | 7 => rfl | 8 => absurd rfl h2 | 9 => rfl | 10 => rfl | 11 => rfl | 12 => rfl | _ + 13 => rfl) rfl
theorem KS.thObj_put {S : KS} {p : Nat} {x : Option Th} {n : Nat} (h : n / 2 ≠ p) : ({ S with th := put S.th p x } : KS).thObj n = S.thObj n := by
  simp only [KS.thObj, put, if_neg h]
/-- A thread turns. -/
theorem KW.thr {w w' : World} {S : KS} (h : KW w S) {p : Nat} {t t' : Th} (hp : p < 16) (ht : S.th p = some t) (U : Upd w t.b (thO p t') w') (hb : t'.b = t.b) (hc : t'.c = t.c) (hn : t'.can = t.can) : KW w' { S with th := put S.th p (some t') } ∧ Fr S { S with th := put S.th p (some t') } w w' := by
  refine h.upd (13 + 2 * p) (obj_th hp ht) U ?_ (fun k h2 => ?_) rfl
  · rw [← hb]
    exact obj_th hp (put_self _ _ _)
  · match k with
    | 0 => rfl | 1 => rfl | 2 => rfl | 3 => rfl | 4 => rfl | 5 => rfl | 6 => rfl | 7 => rfl | 8 => rfl | 9 => rfl | 10 => rfl | 11 => rfl | 12 => rfl
    | n + 13 =>
      show (if n < 32 then KS.thObj _ n else _) = (if n < 32 then S.thObj n else _)
      by_cases hn2 : n / 2 = p
      · have hm : n = 2 * p + 1 := by omega
        subst hm
        rw [if_pos (by omega), if_pos (by omega)]
        simp only [KS.thObj, show (2 * p + 1) / 2 = p by omega, put, if_true, ht, show ¬ (2 * p + 1) % 2 = 0 by omega, if_false, hc, hn]
      · rw [KS.thObj_put hn2]
/-- A thread's cancellation turns. -/
theorem KW.can {w w' : World} {S : KS} (h : KW w S) {p : Nat} {t : Th} {s : Can.Cs} (hp : p < 16) (ht : S.th p = some t) (U : Upd w t.c (Can.canO s) w') : KW w' { S with th := put S.th p (some { t with can := s }) } ∧ Fr S { S with th := put S.th p (some { t with can := s }) } w w' := by
  refine h.upd (14 + 2 * p) (obj_can hp ht) U ?_ (fun k h2 => ?_) rfl
  · exact obj_can (t := { t with can := s }) hp (put_self _ _ _)
  · match k with
    | 0 => rfl | 1 => rfl | 2 => rfl | 3 => rfl | 4 => rfl | 5 => rfl | 6 => rfl | 7 => rfl | 8 => rfl | 9 => rfl | 10 => rfl | 11 => rfl | 12 => rfl
    | n + 13 =>
      show (if n < 32 then KS.thObj _ n else _) = (if n < 32 then S.thObj n else _)
      by_cases hn2 : n / 2 = p
      · have hm : n = 2 * p := by omega
        subst hm
        rw [if_pos (by omega), if_pos (by omega)]
        simp only [KS.thObj, show (2 * p) / 2 = p by omega, put, if_true, ht, show (2 * p) % 2 = 0 by omega]
        rfl
      · rw [KS.thObj_put hn2]
/-- What is always so of the kernel's parts. -/
structure KP (S : KS) : Prop where
  n : S.B.J.t = S.B.n
  n1 : 1 ≤ S.B.n
  n16 : S.B.n ≤ 16
  T : S.T.length = S.B.n
  gen : Tab.genOk S.T 900
  L : S.L.length = 16
  R : RdOk S.R
  re : 0 ≤ S.re ∧ S.re ≤ 1099511627776
  mo : 0 ≤ S.mo ∧ S.mo ≤ 1099511627776
  W0 : WhOk S.W0
  W1 : WhOk S.W1
  kx : Key.KOk S.kx
  live : ∀ i, (S.kx.k i).is = false
  tp : ∀ p, p < 16 → S.tp p = (S.th p).map fun t => ⟨t.b, 0, none⟩
  can : ∀ p t, S.th p = some t → t.can.L = []
  thn : ∀ p t, S.th p = some t → p < S.B.n
  mu1 : 1 ≤ S.muT.length
  mu2 : S.muT.length ≤ 16
  mug : Tab.genOk S.muT 900
  se1 : 1 ≤ S.seT.length
  se2 : S.seT.length ≤ 16
  seg : Tab.genOk S.seT 900
  pg : ∃ cs : List Value, S.lo.cst S.B.J.b (.cells cs.toArray 24 (0, 0)) ∧ ∀ (k : Nat) (x : Code.Prg), S.B.J.PS[k]? = some x → cs[k]? = some x.val
  ps : ∀ x ∈ S.B.J.PS, ∃ cs : List Value, S.lo.cst x.p (.cells cs.toArray 29 (0, 0)) ∧ ∀ k (i : Code.Ins), x.L[k]? = some i → ∀ j, j < 5 → cs[k * 5 + j]? = i.cells[j]?
  on : ∀ i, i < 8 → S.lo.cst (S.B.on i) (Key.ocO ⟨0, 0⟩)
  rw_ : S.lo.cst S.B.rw (storeO S.B.rwt (fun _ => none) 191)
  rwt : ∃ m, 1 ≤ m ∧ m ≤ 16 ∧ S.lo.cst S.B.rwt (Tab.tabO (List.replicate m (false, 0)))
  tm : ∃ m, 1 ≤ m ∧ m ≤ 8 ∧ S.lo.cst S.B.tm (tmO m S.B.tm0 S.B.tm1)
  tm0 : S.lo.cst S.B.tm0 (whO Wh.new)
  tm1 : S.lo.cst S.B.tm1 (whO Wh.new)
theorem KW.pgs {w : World} {S : KS} (h : KW w S) (P : KP S) : Code.PgsH w S.B.J.b S.B.J.PS := by
  obtain ⟨cs, h1, h2⟩ := P.pg
  refine ⟨⟨cs, (h.cs _ _ h1).1, h2⟩, fun x hx => ?_⟩
  obtain ⟨ds, k1, k2⟩ := P.ps x hx
  exact ⟨ds, (h.cs _ _ k1).1, k2⟩
theorem KW.getTh {w : World} {S : KS} (h : KW w S) {p : Nat} {t : Th} (hp : p < 16) (ht : S.th p = some t) : w.heap[t.b]? = some (thO p t) := h.has _ (obj_th hp ht)
theorem KW.getCan {w : World} {S : KS} (h : KW w S) {p : Nat} {t : Th} (hp : p < 16) (ht : S.th p = some t) : w.heap[t.c]? = some (Can.canO t.can) := h.has _ (obj_can hp ht)
/-- The pointer to a thread. -/
theorem KW.tpc {w : World} {S : KS} (h : KW w S) {p : Nat} (hp : p < 16) : w.cell? ⟨S.B.kb, 10 + p, none⟩ = some (.pointer (S.tp p)) := by
  refine has_cell (10 + p) (h.has 0 rfl) ?_
  match p, hp with
  | 0, _ => rfl | 1, _ => rfl | 2, _ => rfl | 3, _ => rfl | 4, _ => rfl | 5, _ => rfl | 6, _ => rfl | 7, _ => rfl
  | 8, _ => rfl | 9, _ => rfl | 10, _ => rfl | 11, _ => rfl | 12, _ => rfl | 13, _ => rfl | 14, _ => rfl | 15, _ => rfl | _ + 16, h => exact absurd h (by omega)
def KS.tps (S : KS) : List Value := [.pointer (S.tp 0), .pointer (S.tp 1), .pointer (S.tp 2), .pointer (S.tp 3), .pointer (S.tp 4), .pointer (S.tp 5), .pointer (S.tp 6), .pointer (S.tp 7), .pointer (S.tp 8), .pointer (S.tp 9), .pointer (S.tp 10), .pointer (S.tp 11), .pointer (S.tp 12), .pointer (S.tp 13), .pointer (S.tp 14), .pointer (S.tp 15)]
theorem KS.tps_get (S : KS) {p : Nat} (hp : p < 16) : S.tps[p]? = some (.pointer (S.tp p)) := by
  match p, hp with
  | 0, _ => rfl | 1, _ => rfl | 2, _ => rfl | 3, _ => rfl | 4, _ => rfl | 5, _ => rfl | 6, _ => rfl | 7, _ => rfl
  | 8, _ => rfl | 9, _ => rfl | 10, _ => rfl | 11, _ => rfl | 12, _ => rfl | 13, _ => rfl | 14, _ => rfl | 15, _ => rfl | _ + 16, h => exact absurd h (by omega)
theorem KW.tpr {w : World} {S : KS} (h : KW w S) : w.rangeAt S.B.kb 10 S.tps := by
  refine has_range (h.has 0 rfl) _ 10 ?_
  intro j hj
  have hj : j < 16 := hj
  match j, hj with
  | 0, _ => rfl | 1, _ => rfl | 2, _ => rfl | 3, _ => rfl | 4, _ => rfl | 5, _ => rfl | 6, _ => rfl | 7, _ => rfl
  | 8, _ => rfl | 9, _ => rfl | 10, _ => rfl | 11, _ => rfl | 12, _ => rfl | 13, _ => rfl | 14, _ => rfl | 15, _ => rfl | _ + 16, h => exact absurd h (by omega)
theorem KW.tm {w : World} {S : KS} (h : KW w S) (P : KP S) : ∃ m, Tm w S.B.tm m S.B.tm0 S.B.tm1 := by
  obtain ⟨m, h1, h8, hm⟩ := P.tm
  exact ⟨m, (h.cs _ _ hm).1, by omega, by omega, (h.cs _ _ P.tm0).1, (h.cs _ _ P.tm1).1⟩
end Go.Proofs.YtagmlijhgncklaaGreatDoor.Ker
namespace Go.Proofs.YtagmlijhgncklaaGreatDoor.Ker
open Go.RowKit Go.Proofs.YtagmlijhgncklaaGreatDoor

theorem tc0 {w : World} {p : Nat} {t : Th} (h : w.heap[t.b]? = some (thO p t)) : w.cell? ⟨t.b, 0, none⟩ = some (.int .i64 p) := has_cell 0 h rfl
theorem tc1 {w : World} {p : Nat} {t : Th} (h : w.heap[t.b]? = some (thO p t)) : w.cell? ⟨t.b, 1, none⟩ = some (.int .i64 t.hd) := has_cell 1 h rfl
theorem tc2 {w : World} {p : Nat} {t : Th} (h : w.heap[t.b]? = some (thO p t)) : w.cell? ⟨t.b, 2, none⟩ = some (.int .i64 t.prog) := has_cell 2 h rfl
theorem tc3 {w : World} {p : Nat} {t : Th} (h : w.heap[t.b]? = some (thO p t)) : w.cell? ⟨t.b, 3, none⟩ = some (.int .i64 t.pc) := has_cell 3 h rfl
theorem tc4 {w : World} {p : Nat} {t : Th} (h : w.heap[t.b]? = some (thO p t)) : w.cell? ⟨t.b, 4, none⟩ = some (.int .i64 (t.r 0)) := has_cell 4 h rfl
theorem tc5 {w : World} {p : Nat} {t : Th} (h : w.heap[t.b]? = some (thO p t)) : w.cell? ⟨t.b, 5, none⟩ = some (.int .i64 (t.r 1)) := has_cell 5 h rfl
theorem tc6 {w : World} {p : Nat} {t : Th} (h : w.heap[t.b]? = some (thO p t)) : w.cell? ⟨t.b, 6, none⟩ = some (.int .i64 (t.r 2)) := has_cell 6 h rfl
theorem tc7 {w : World} {p : Nat} {t : Th} (h : w.heap[t.b]? = some (thO p t)) : w.cell? ⟨t.b, 7, none⟩ = some (.int .i64 (t.r 3)) := has_cell 7 h rfl
theorem tc8 {w : World} {p : Nat} {t : Th} (h : w.heap[t.b]? = some (thO p t)) : w.cell? ⟨t.b, 8, none⟩ = some (.int .i64 (t.r 4)) := has_cell 8 h rfl
theorem tc9 {w : World} {p : Nat} {t : Th} (h : w.heap[t.b]? = some (thO p t)) : w.cell? ⟨t.b, 9, none⟩ = some (.int .i64 (t.r 5)) := has_cell 9 h rfl
theorem tc10 {w : World} {p : Nat} {t : Th} (h : w.heap[t.b]? = some (thO p t)) : w.cell? ⟨t.b, 10, none⟩ = some (.int .i64 (t.r 6)) := has_cell 10 h rfl
theorem tc11 {w : World} {p : Nat} {t : Th} (h : w.heap[t.b]? = some (thO p t)) : w.cell? ⟨t.b, 11, none⟩ = some (.int .i64 (t.r 7)) := has_cell 11 h rfl
theorem tc12 {w : World} {p : Nat} {t : Th} (h : w.heap[t.b]? = some (thO p t)) : w.cell? ⟨t.b, 12, none⟩ = some (.int .i64 t.pol) := has_cell 12 h rfl
theorem tc13 {w : World} {p : Nat} {t : Th} (h : w.heap[t.b]? = some (thO p t)) : w.cell? ⟨t.b, 13, none⟩ = some (.int .i64 t.base) := has_cell 13 h rfl
theorem tc14 {w : World} {p : Nat} {t : Th} (h : w.heap[t.b]? = some (thO p t)) : w.cell? ⟨t.b, 14, none⟩ = some (.int .i64 t.high) := has_cell 14 h rfl
theorem tc15 {w : World} {p : Nat} {t : Th} (h : w.heap[t.b]? = some (thO p t)) : w.cell? ⟨t.b, 15, none⟩ = some (.int .i64 t.low) := has_cell 15 h rfl
theorem tc17 {w : World} {p : Nat} {t : Th} (h : w.heap[t.b]? = some (thO p t)) : w.cell? ⟨t.b, 17, none⟩ = some (.int .i64 t.eff) := has_cell 17 h rfl
theorem tc18 {w : World} {p : Nat} {t : Th} (h : w.heap[t.b]? = some (thO p t)) : w.cell? ⟨t.b, 18, none⟩ = some (.bool t.jn) := has_cell 18 h rfl
theorem tc19 {w : World} {p : Nat} {t : Th} (h : w.heap[t.b]? = some (thO p t)) : w.cell? ⟨t.b, 19, none⟩ = some (.int .i64 t.jr) := has_cell 19 h rfl
theorem tc20 {w : World} {p : Nat} {t : Th} (h : w.heap[t.b]? = some (thO p t)) : w.cell? ⟨t.b, 20, none⟩ = some (.bool t.en) := has_cell 20 h rfl
theorem tc21 {w : World} {p : Nat} {t : Th} (h : w.heap[t.b]? = some (thO p t)) : w.cell? ⟨t.b, 21, none⟩ = some (.int .i64 t.val) := has_cell 21 h rfl
theorem tc22 {w : World} {p : Nat} {t : Th} (h : w.heap[t.b]? = some (thO p t)) : w.cell? ⟨t.b, 22, none⟩ = some (.slice none 0 0) := has_cell 22 h rfl
theorem tc23 {w : World} {p : Nat} {t : Th} (h : w.heap[t.b]? = some (thO p t)) : w.cell? ⟨t.b, 23, none⟩ = some (.int .i64 t.wt.kind) := has_cell 23 h rfl
theorem tc32 {w : World} {p : Nat} {t : Th} (h : w.heap[t.b]? = some (thO p t)) : w.cell? ⟨t.b, 32, none⟩ = some (.pointer (some ⟨t.c, 0, none⟩)) := has_cell 32 h rfl
theorem kc0 {w : World} {S : KS} {B : KB} (h : KW w S) (hB : S.B = B) : w.cell? ⟨B.kb, 0, none⟩ = some (.int .i64 B.J.t) := by subst hB; exact has_cell 0 (h.has 0 rfl) rfl
theorem kc6 {w : World} {S : KS} {B : KB} (h : KW w S) (hB : S.B = B) : w.cell? ⟨B.kb, 6, none⟩ = some (.slice (some ⟨B.J.b, 0, none⟩) B.J.PS.length B.J.cap) := by subst hB; exact has_cell 6 (h.has 0 rfl) rfl
theorem kc8 {w : World} {S : KS} {B : KB} (h : KW w S) (hB : S.B = B) : w.cell? ⟨B.kb, 8, none⟩ = some (S.lo.lv) := by subst hB; exact has_cell 8 (h.has 0 rfl) rfl
theorem kc9 {w : World} {S : KS} {B : KB} (h : KW w S) (hB : S.B = B) : w.cell? ⟨B.kb, 9, none⟩ = some (.pointer (some ⟨B.tab, 0, none⟩)) := by subst hB; exact has_cell 9 (h.has 0 rfl) rfl
theorem kc26 {w : World} {S : KS} {B : KB} (h : KW w S) (hB : S.B = B) : w.cell? ⟨B.kb, 26, none⟩ = some (.pointer (some ⟨B.tb, 0, none⟩)) := by subst hB; exact has_cell 26 (h.has 0 rfl) rfl
theorem kc28 {w : World} {S : KS} {B : KB} (h : KW w S) (hB : S.B = B) : w.cell? ⟨B.kb, 28, none⟩ = some (.pointer (some ⟨B.w0, 0, none⟩)) := by subst hB; exact has_cell 28 (h.has 0 rfl) rfl
theorem kc29 {w : World} {S : KS} {B : KB} (h : KW w S) (hB : S.B = B) : w.cell? ⟨B.kb, 29, none⟩ = some (.pointer (some ⟨B.w1, 0, none⟩)) := by subst hB; exact has_cell 29 (h.has 0 rfl) rfl
theorem kc30 {w : World} {S : KS} {B : KB} (h : KW w S) (hB : S.B = B) : w.cell? ⟨B.kb, 30, none⟩ = some (.pointer (some ⟨B.sg, 0, none⟩)) := by subst hB; exact has_cell 30 (h.has 0 rfl) rfl
theorem kc63 {w : World} {S : KS} {B : KB} (h : KW w S) (hB : S.B = B) : w.cell? ⟨B.kb, 63, none⟩ = some (.pointer (some ⟨B.mu, 0, none⟩)) := by subst hB; exact has_cell 63 (h.has 0 rfl) rfl
theorem kc65 {w : World} {S : KS} {B : KB} (h : KW w S) (hB : S.B = B) : w.cell? ⟨B.kb, 65, none⟩ = some (.pointer (some ⟨B.se, 0, none⟩)) := by subst hB; exact has_cell 65 (h.has 0 rfl) rfl
theorem kc67 {w : World} {S : KS} {B : KB} (h : KW w S) (hB : S.B = B) : w.cell? ⟨B.kb, 67, none⟩ = some (.pointer (some ⟨B.rw, 0, none⟩)) := by subst hB; exact has_cell 67 (h.has 0 rfl) rfl
theorem kc71 {w : World} {S : KS} {B : KB} (h : KW w S) (hB : S.B = B) : w.cell? ⟨B.kb, 71, none⟩ = some (.pointer (some ⟨B.ke, 0, none⟩)) := by subst hB; exact has_cell 71 (h.has 0 rfl) rfl
theorem kc90 {w : World} {S : KS} {B : KB} (h : KW w S) (hB : S.B = B) : w.cell? ⟨B.kb, 90, none⟩ = some (S.lo.nv) := by subst hB; exact has_cell 90 (h.has 0 rfl) rfl
theorem kc91 {w : World} {S : KS} {B : KB} (h : KW w S) (hB : S.B = B) : w.cell? ⟨B.kb, 91, none⟩ = some (S.lo.av) := by subst hB; exact has_cell 91 (h.has 0 rfl) rfl
theorem tcr {w : World} {p : Nat} {t : Th} (h : w.heap[t.b]? = some (thO p t)) {i : Nat} (hi : i < 8) : w.cell? ⟨t.b, 4 + i, none⟩ = some (.int .i64 (t.r i)) := by
  refine has_cell (4 + i) h ?_
  match i, hi with
  | 0, _ => rfl | 1, _ => rfl | 2, _ => rfl | 3, _ => rfl | 4, _ => rfl | 5, _ => rfl | 6, _ => rfl | 7, _ => rfl | _ + 8, h => exact absurd h (by omega)
end Go.Proofs.YtagmlijhgncklaaGreatDoor.Ker
namespace Go.Proofs.YtagmlijhgncklaaGreatDoor.Ker
open Go.RowKit Go.Proofs.YtagmlijhgncklaaGreatDoor

set_option maxHeartbeats 2000000 in
theorem ks_tp (S : KS) (a : Option Addr) {p : Nat} (hp : p < 16) : (kC S).setIfInBounds (10 + p) (.pointer a) = kC { S with tp := put S.tp p a } := by
  match p, hp with
  | 0, _ => rfl | 1, _ => rfl | 2, _ => rfl | 3, _ => rfl | 4, _ => rfl | 5, _ => rfl | 6, _ => rfl | 7, _ => rfl
  | 8, _ => rfl | 9, _ => rfl | 10, _ => rfl | 11, _ => rfl | 12, _ => rfl | 13, _ => rfl | 14, _ => rfl | 15, _ => rfl | _ + 16, h => exact absurd h (by omega)
/-- The kernel with a thread more. -/
def KS.newTh (S : KS) (p : Nat) (t : Th) : KS := { S with tp := put S.tp p (some ⟨t.b, 0, none⟩), th := put S.th p (some t), lo := { S.lo with lab := fun x => if x = t.b then 18 + 2 * p else if x = t.c then 19 + 2 * p else S.lo.lab x } }
theorem KW.newTh {w w' : World} {S : KS} (h : KW w S) {p : Nat} {t : Th} (hp : p < 16) (hb : w.heap.size ≤ t.b) (hc : w.heap.size ≤ t.c) (hbc : t.b ≠ t.c) (hb' : t.b < w'.heap.size) (hc' : t.c < w'.heap.size) (h1 : w'.heap[t.b]? = some (thO p t)) (h2 : w'.heap[t.c]? = some (Can.canO t.can)) (hn : S.th p = none)
    (U : Upd w S.B.kb (kO { S with tp := put S.tp p (some ⟨t.b, 0, none⟩) }) w') : KW w' (S.newTh p t) ∧ Fr S (S.newTh p t) w w' := by
  have hk := (h.ob 0 _ _ rfl).2
  have lab : ∀ x, x < w.heap.size → (S.newTh p t).lo.lab x = S.lo.lab x := fun x hx => by
    show (if x = t.b then _ else if x = t.c then _ else _) = _
    rw [if_neg (by omega), if_neg (by omega)]
  have keep : ∀ c, c < w.heap.size → S.lo.lab c ≠ 5 → w'.heap[c]? = w.heap[c]? := fun c hc hne => U.2.block c hc (by intro e; cases e; exact hne hk)
  have lt : ∀ {x : Nat} {o : Obj}, w.heap[x]? = some o → x < w.heap.size := fun h => has_lt h
  refine ⟨⟨?_, ?_, ?_, ?_, ?_, ?_, ?_, ?_, ?_⟩, ⟨U.2.os, U.2.tape, U.2.output, U.2.size, fun k hk h0 => keep k hk (by rw [h0]; omega), lab⟩⟩
  · intro i b o hi
    by_cases e0 : i = 0
    · subst e0
      cases hi
      exact ⟨U.1, (lab _ (lt (h.has 0 rfl))).trans hk⟩
    · by_cases e1 : i = 13 + 2 * p
      · subst e1
        rw [obj_th (t := t) hp (put_self _ _ _)] at hi
        cases hi
        refine ⟨h1, ?_⟩
        show (if t.b = t.b then _ else _) = _
        rw [if_pos rfl]
        omega
      · by_cases e2 : i = 14 + 2 * p
        · subst e2
          rw [obj_can (t := t) hp (put_self _ _ _)] at hi
          cases hi
          refine ⟨h2, ?_⟩
          show (if t.c = t.b then _ else if t.c = t.c then _ else _) = _
          rw [if_neg (Ne.symm hbc), if_pos rfl]
          omega
        · have same : (S.newTh p t).obj i = S.obj i := by
            match i with
            | 0 => exact absurd rfl e0
            | 1 => rfl | 2 => rfl | 3 => rfl | 4 => rfl | 5 => rfl | 6 => rfl | 7 => rfl | 8 => rfl | 9 => rfl | 10 => rfl | 11 => rfl | 12 => rfl
            | n + 13 =>
              show (if n < 32 then KS.thObj _ n else _) = (if n < 32 then S.thObj n else _)
              have hn2 : n / 2 ≠ p := by omega
              have q : (S.newTh p t).thObj n = S.thObj n := by simp only [KS.thObj, KS.newTh, put, if_neg hn2]
              rw [q]
              rfl
          rw [same] at hi
          have k := h.ob i b o hi
          exact ⟨(keep b (lt k.1) (by rw [k.2]; omega)).trans k.1, (lab _ (lt k.1)).trans k.2⟩
  · intro c x hx
    have k := h.cs c x hx
    exact ⟨(keep c (lt k.1) (by rw [k.2]; omega)).trans k.1, (lab _ (lt k.1)).trans k.2⟩
  · obtain ⟨xs, hx⟩ := h.l
    exact ⟨xs, owns_kept hx fun c hc => keep c (owns_lt hx hc) (by rw [h.ll c hc]; omega)⟩
  · intro b hb
    obtain ⟨xs, hx⟩ := h.l
    exact (lab _ (owns_lt hx hb)).trans (h.ll b hb)
  · exact owns_kept h.nt fun c hc => keep c (owns_lt h.nt hc) (by rw [h.nl c hc]; omega)
  · intro b hb
    exact (lab _ (owns_lt h.nt hb)).trans (h.nl b hb)
  · obtain ⟨xs, hx⟩ := h.a
    exact ⟨xs, owns_kept hx fun c hc => keep c (owns_lt hx hc) (by rw [h.al c hc]; omega)⟩
  · intro b hb
    obtain ⟨xs, hx⟩ := h.a
    exact (lab _ (owns_lt hx hb)).trans (h.al b hb)
  · intro c hc
    show (if c = t.b then _ else if c = t.c then _ else _) = _
    rw [if_neg (by omega), if_neg (by omega)]
    exact h.fresh c (Nat.le_trans U.2.size hc)
/-- The kernel without a thread. -/
def KS.noTh (S : KS) (p : Nat) : KS := { S with tp := put S.tp p none, th := put S.th p none }
theorem KW.noTh {w w' : World} {S : KS} (h : KW w S) {p : Nat} (U : Upd w S.B.kb (kO { S with tp := put S.tp p none }) w') : KW w' (S.noTh p) ∧ Fr S (S.noTh p) w w' := by
  have hk := (h.ob 0 _ _ rfl).2
  have keep : ∀ c, c < w.heap.size → S.lo.lab c ≠ 5 → w'.heap[c]? = w.heap[c]? := fun c hc hne => U.2.block c hc (by intro e; cases e; exact hne hk)
  have lt : ∀ {x : Nat} {o : Obj}, w.heap[x]? = some o → x < w.heap.size := fun h => has_lt h
  refine ⟨⟨?_, ?_, ?_, h.ll, ?_, h.nl, ?_, h.al, ?_⟩, ⟨U.2.os, U.2.tape, U.2.output, U.2.size, fun k hk h0 => keep k hk (by rw [h0]; omega), fun _ _ => rfl⟩⟩
  · intro i b o hi
    by_cases e0 : i = 0
    · subst e0
      cases hi
      exact ⟨U.1, hk⟩
    · have same : S.obj i = some (b, o) := by
        match i with
        | 0 => exact absurd rfl e0
        | 1 => exact hi | 2 => exact hi | 3 => exact hi | 4 => exact hi | 5 => exact hi | 6 => exact hi | 7 => exact hi | 8 => exact hi | 9 => exact hi | 10 => exact hi | 11 => exact hi | 12 => exact hi
        | n + 13 =>
          have hi : (if n < 32 then (S.noTh p).thObj n else (S.noTh p).ext (n - 32)) = some (b, o) := hi
          show (if n < 32 then S.thObj n else S.ext (n - 32)) = some (b, o)
          by_cases hn : n < 32
          · rw [if_pos hn] at hi ⊢
            by_cases hn2 : n / 2 = p
            · exfalso
              simp only [KS.thObj, KS.noTh, put, if_pos hn2] at hi
              cases hi
            · simpa only [KS.thObj, KS.noTh, put, if_neg hn2] using hi
          · rw [if_neg hn] at hi ⊢
            exact hi
      have k := h.ob i b o same
      exact ⟨(keep b (lt k.1) (by rw [k.2]; omega)).trans k.1, k.2⟩
  · intro c x hx
    have k := h.cs c x hx
    exact ⟨(keep c (lt k.1) (by rw [k.2]; omega)).trans k.1, k.2⟩
  · obtain ⟨xs, hx⟩ := h.l
    exact ⟨xs, owns_kept hx fun c hc => keep c (owns_lt hx hc) (by rw [h.ll c hc]; omega)⟩
  · exact owns_kept h.nt fun c hc => keep c (owns_lt h.nt hc) (by rw [h.nl c hc]; omega)
  · obtain ⟨xs, hx⟩ := h.a
    exact ⟨xs, owns_kept hx fun c hc => keep c (owns_lt hx hc) (by rw [h.al c hc]; omega)⟩
  · intro c hc
    exact h.fresh c (Nat.le_trans U.2.size hc)
end Go.Proofs.YtagmlijhgncklaaGreatDoor.Ker
namespace Go.Proofs.YtagmlijhgncklaaGreatDoor.Ker
open Go.RowKit Go.Proofs.YtagmlijhgncklaaGreatDoor

theorem must_c (w : World) (e : Int) : Calls Tryz.prog 146 #[.bool true, .int .i64 e] w fun e w' => e = .returned (.tuple #[]) ∧ w = w' := by
  go_enter Tryz.func146, Tryz.ntmps146
  go_wp2
  exact bodyPost_end (results_none rfl _ _ _) rfl ⟨rfl, rfl⟩
theorem in_c (w : World) (n l h : Int) (h0 : l ≤ n) (h1 : n ≤ h) : Calls Tryz.prog 350 #[.int .i64 n, .int .i64 l, .int .i64 h] w fun e w' => e = .returned (.tuple #[]) ∧ w = w' := by
  have d0 : decide (l ≤ n) = true := by simpa using h0
  have d1 : decide (n ≤ h) = true := by simpa using h1
  go_enter Tryz.func350, Tryz.ntmps350
  go_wp2_with (go_at_call 146; refine (must_c _ _).mono ?_; rintro e w' ⟨rfl, rfl⟩)
  exact bodyPost_end (results_none rfl _ _ _) rfl ⟨rfl, rfl⟩
theorem priority_c (w : World) (n : Int) (h0 : 1 ≤ n) (h1 : n ≤ 31) : Calls Tryz.prog 349 #[.int .i64 n] w fun e w' => e = .returned (.tuple #[]) ∧ w = w' := by
  go_enter Tryz.func349, Tryz.ntmps349
  go_wp2_with (go_at_call 350; refine (in_c _ _ _ _ h0 h1).mono ?_; rintro e w' ⟨rfl, rfl⟩)
  exact bodyPost_end (results_none rfl _ _ _) rfl ⟨rfl, rfl⟩
theorem there_c (w : World) (S : KS) {B : KB} (hB : S.B = B) (h : KW w S) : Calls Tryz.prog 43 #[.pointer (some ⟨B.kb, 0, none⟩)] w fun e w' => e = .returned (.bool true) ∧ w = w' := by
  subst hB
  have c9 := kc9 h rfl
  clear h
  go_enter Tryz.func43, Tryz.ntmps43
  go_wp2
  go_ret
  exact ⟨rfl, rfl⟩
theorem prio_c (w : World) (p : Nat) (t : Th) (h : w.heap[t.b]? = some (thO p t)) (hp : t.pol ≠ 2) : Calls Tryz.prog 49 #[.pointer (some ⟨t.b, 0, none⟩)] w fun e w' => e = .returned (.int .i64 t.base) ∧ w = w' := by
  have c12 := tc12 h
  have c13 := tc13 h
  have d : decide (t.pol = 2) = false := by simpa using hp
  clear h
  go_enter Tryz.func49, Tryz.ntmps49
  go_wp2
  go_ret
  exact ⟨rfl, rfl⟩
theorem starts_c (w : World) (p : Nat) (t : Th) (k : Nat) (h : w.heap[t.b]? = some (thO p t)) (hp : t.pol ≠ 2) : Calls Tryz.prog 87 #[.pointer (some ⟨k, 0, none⟩), .pointer (some ⟨t.b, 0, none⟩)] w fun e w' => e = .returned (.tuple #[]) ∧ w = w' := by
  have c12 := tc12 h
  have d : decide (t.pol = 2) = false := by simpa using hp
  clear h
  go_enter Tryz.func87, Tryz.ntmps87
  go_wp2
  exact bodyPost_end (results_none rfl _ _ _) rfl ⟨rfl, rfl⟩
theorem stops_c (w : World) (p : Nat) (t : Th) (k : Nat) (h : w.heap[t.b]? = some (thO p t)) (hp : t.pol ≠ 2) : Calls Tryz.prog 341 #[.pointer (some ⟨k, 0, none⟩), .pointer (some ⟨t.b, 0, none⟩)] w fun e w' => e = .returned (.tuple #[]) ∧ w = w' := by
  have c12 := tc12 h
  have d : decide (t.pol = 2) = false := by simpa using hp
  clear h
  go_enter Tryz.func341, Tryz.ntmps341
  go_wp2
  exact bodyPost_end (results_none rfl _ _ _) rfl ⟨rfl, rfl⟩
end Go.Proofs.YtagmlijhgncklaaGreatDoor.Ker
namespace Go.Proofs.YtagmlijhgncklaaGreatDoor.Ker
open Go.RowKit Go.Proofs.YtagmlijhgncklaaGreatDoor

theorem program_c (w : World) (S : KS) {B : KB} (hB : S.B = B) (h : KW w S) (n : Int) (h0 : 0 ≤ n) (h1 : n < S.B.J.PS.length) (hl : S.B.J.PS.length ≤ 32) : Calls Tryz.prog 348 #[.pointer (some ⟨B.kb, 0, none⟩), .int .i64 n] w fun e w' => e = .returned (.tuple #[]) ∧ w = w' := by
  subst hB
  have c6 := kc6 h rfl
  have hb : (S.B.J.PS.length : Int) ≤ 32 := by omega
  clear h
  go_enter Tryz.func348, Tryz.ntmps348
  go_wp2_with (go_at_call 350; refine (in_c _ _ _ _ h0 (by omega)).mono ?_; rintro e w' ⟨rfl, rfl⟩)
  exact bodyPost_end (results_none rfl _ _ _) rfl ⟨rfl, rfl⟩
theorem any1_c (w : World) (S : KS) {B : KB} (hB : S.B = B) (h : KW w S) (P : KP S) (hd : Int) (p : Nat) (t : Th) (hp : p < 16) (hf : Tab.atF S.T hd = some p) (ht : S.th p = some t) : Calls Tryz.prog 351 #[.pointer (some ⟨B.kb, 0, none⟩), .int .i64 hd] w fun e w' => e = .returned (.pointer (some ⟨t.b, 0, none⟩)) ∧ Below w.heap.size w w' := by
  subst hB
  have c9 := kc9 h rfl
  have A := Tab.at_c w S.B.tab S.T hd (h.has 1 rfl) (by rw [P.T]; exact P.n1) (by rw [P.T]; exact P.n16) (fun i => ⟨(P.gen i).1, by have := (P.gen i).2; omega⟩)
  rw [hf, show Tab.atV (some p) = .tuple #[.int .i64 p, .bool true] from rfl] at A
  have HT := P.tp p hp
  rw [ht] at HT
  have C := fun W (hW : KW W S) => hW.tpc hp
  simp only [HT, Option.map_some] at C
  have HK := Lib.hid h
  have i0 : (0 : Int) ≤ p := by omega
  have i1 : (p : Int) < 16 := by omega
  clear h P hf ht HT
  go_enter Tryz.func351, Tryz.ntmps351
  go_wp2_with (first | (go_at_call 66; refine A.mono ?_; rintro e w' ⟨rfl, hb⟩; have cp := C w' (HK.out.reads hb); have HB := Lib.hid hb; clear hb) | (go_at_call 146; refine (must_c _ _).mono ?_; rintro e w' ⟨rfl, rfl⟩))
  go_ret
  exact ⟨rfl, HB.out⟩
set_option maxRecDepth 100000 in
theorem ready_c (w : World) (S : KS) {B : KB} (hB : S.B = B) (h : KW w S) (P : KP S) (p pr : Nat) (t : Th) (hp : p < 16) (ht : S.th p = some t) (hpol : t.pol ≠ 2) (he : t.eff = pr) (h1 : 1 ≤ pr) (h32 : pr < 32) (hin : (S.L.getD p Hs.no).isIn = false) (hz : S.R.pr.getD p 0 = 0) (hl : Lk (S.R.tl.getD pr 0)) (hs0 : 0 ≤ S.st) (hs1 : S.st ≤ 800000000) :
    Calls Tryz.prog 68 #[.pointer (some ⟨B.kb, 0, none⟩), .pointer (some ⟨t.b, 0, none⟩)] w fun e w' => e = .returned (.tuple #[]) ∧ KW w' { S with L := S.L.set p ⟨true, decide (t.pol = 1), pr, S.B.J.q⟩, R := S.R.tailF pr p, st := S.st + 4 } ∧ Fr S { S with L := S.L.set p ⟨true, decide (t.pol = 1), pr, S.B.J.q⟩, R := S.R.tailF pr p, st := S.st + 4 } w w' := by
  subst hB
  have hT := h.getTh hp ht
  have c26 := kc26 h rfl
  have c0 := tc0 hT
  have c17 := tc17 hT
  have c12 := tc12 hT
  rw [he] at c17
  have A := turns_add w.drew S.B.tb S.B.rb S.B.J.q S.L S.R S.st p pr (decide (t.pol = 1)) ((h.tn P.L P.R).heap (fun _ _ => rfl)) hp h1 h32 hin hz hl hs0 hs1
  have HK := Lib.hid h
  have HT := Lib.hid ht
  have HP := Lib.hid hpol
  clear h P ht he h1 h32 hin hz hl hs0 hs1 hT hpol
  go_enter Tryz.func68, Tryz.ntmps68
  go_wp2_with fail
  refine still_tail 17 (by kernel_rfl) (by kernel_rfl) ?_
  simp only [List.take_succ_cons, List.take_zero, List.drop_succ_cons, List.drop_zero]
  repeat still_step
  refine wpStill_nil ?_
  go_wp2_with (first | (go_at_call 110; refine A.mono ?_; rintro e w1 ⟨rfl, T1, u1⟩; have B := HK.out.turns T1 ⟨u1.os, u1.tape, u1.output, u1.size, u1.block⟩; have t1 := B.1.getTh hp HT.out) | (go_at_call 87; refine (starts_c _ p t _ t1 HP.out).mono ?_; rintro e w' ⟨rfl, rfl⟩))
  exact bodyPost_end (results_none rfl _ _ _) rfl ⟨rfl, B⟩
end Go.Proofs.YtagmlijhgncklaaGreatDoor.Ker
namespace Go.Proofs.YtagmlijhgncklaaGreatDoor.Ker
open Go.RowKit Go.Proofs.YtagmlijhgncklaaGreatDoor

/-- A new thread. -/
def Th.new (b c : Nat) (hd prog pr pol : Int) (jn : Bool) : Th := ⟨b, c, hd, prog, 0, fun _ => 0, pol, pr, 0, 0, none, pr, jn, -1, false, 0, Wt.no, Can.newS⟩
/-- The kernel behind create. -/
def KS.made (S : KS) (i pr : Nat) (g : Int) (t : Th) : KS :=
  { (({ S with T := S.T.set i (true, g) } : KS).newTh i t) with L := S.L.set i ⟨true, decide (t.pol = 1), pr, S.B.J.q⟩, R := S.R.tailF pr i, st := S.st + 4 }
theorem KP.table {S : KS} (P : KP S) {i : Nat} {x : Bool} {g : Int} (hi : i < S.B.n) (h0 : 0 ≤ g) (h1 : g ≤ 900) : KP { S with T := S.T.set i (x, g) } :=
  { P with T := by simp [P.T], gen := fun j => by {
      have e := Tab.gn_set S.T i (x, g) j (by rw [P.T]; exact hi)
      show 0 ≤ Tab.gn (S.T.set i (x, g)) j ∧ Tab.gn (S.T.set i (x, g)) j ≤ 900
      rw [e]
      split
      · exact ⟨h0, h1⟩
      · exact P.gen j } }
theorem KP.newTh {S : KS} (P : KP S) {i : Nat} {t : Th} (hi : i < S.B.n) (ht : t.can.L = []) : KP (S.newTh i t) :=
  { P with
    tp := fun p hp => by
      show put S.tp i _ p = (put S.th i _ p).map _
      by_cases e : p = i
      · subst e; rw [put_self, put_self]; rfl
      · rw [put_ne _ _ e, put_ne _ _ e]; exact P.tp p hp
    can := fun p x hx => by
      by_cases e : p = i
      · subst e
        have : put S.th p (some t) p = some x := hx
        rw [put_self] at this
        cases this
        exact ht
      · have : put S.th i (some t) p = some x := hx
        rw [put_ne _ _ e] at this
        exact P.can p x this
    thn := fun p x hx => by
      by_cases e : p = i
      · subst e; exact hi
      · have : put S.th i (some t) p = some x := hx
        rw [put_ne _ _ e] at this
        exact P.thn p x this }
theorem KP.turns {S : KS} (P : KP S) {L : List Hs} {R : Rd} {st : Int} (hl : L.length = 16) (hr : RdOk R) : KP { S with L := L, R := R, st := st } := { P with L := hl, R := hr }
set_option maxRecDepth 100000 in
set_option maxHeartbeats 1000000 in
theorem create_c (w : World) (S : KS) {B : KB} (hB : S.B = B) (h : KW w S) (P : KP S) (i pr : Nat) (g prog pol : Int) (jn : Bool) (hf : Tab.freeF S.T = some i) (hg : g = Tab.gn S.T i + 1) (hg9 : g ≤ 900) (hn : S.th i = none) (hat : Tab.atF (S.T.set i (true, g)) (i + 16 * g) = some i)
    (hpol : pol ≠ 2) (h1 : 1 ≤ pr) (h32 : pr < 32) (hin : (S.L.getD i Hs.no).isIn = false) (hz : S.R.pr.getD i 0 = 0) (hl : Lk (S.R.tl.getD pr 0)) (hs0 : 0 ≤ S.st) (hs1 : S.st ≤ 800000000) :
    Calls Tryz.prog 41 #[.pointer (some ⟨B.kb, 0, none⟩), .int .i64 prog, .int .i64 pr, .int .i64 pol, .bool jn] w fun e w' => ∃ b c, w.heap.size ≤ b ∧ e = .returned (.pointer (some ⟨b, 0, none⟩)) ∧ KW w' (S.made i pr g (Th.new b c (i + 16 * g) prog pr pol jn)) ∧ Fr S (S.made i pr g (Th.new b c (i + 16 * g) prog pr pol jn)) w w' := by
  subst hB
  have hiT : i < S.T.length := (Tab.free_some hf).1
  have hi : i < 16 := by rw [P.T] at hiT; have := P.n16; omega
  have hin' : i < S.B.n := by rw [P.T] at hiT; exact hiT
  have g0 : 0 ≤ g := by have := (P.gen i).1; omega
  have A := Tab.add_c w S.B.tab S.T i (h.has 1 rfl) (by rw [P.T]; exact P.n1) (by rw [P.T]; exact P.n16) P.gen hf
  rw [← hg] at A
  have c9 := kc9 h rfl
  obtain ⟨T1, hT1⟩ : ∃ T1, T1 = S.T.set i (true, g) := ⟨_, rfl⟩
  obtain ⟨S1, hS1⟩ : ∃ S1 : KS, S1 = { S with T := T1 } := ⟨_, rfl⟩
  have P1 : KP S1 := by subst hS1; subst hT1; exact P.table (x := true) (g := g) hin' g0 hg9
  have hB1 : S1.B = S.B := by subst hS1; rfl
  have K1 : ∀ W, Upd w S.B.tab (Tab.tabO T1) W → KW W S1 ∧ Fr S S1 w W := fun W u => by subst hS1; exact h.table u
  have AT : ∀ W, KW W S1 → Calls Tryz.prog 66 #[.pointer (some ⟨S.B.tab, 0, none⟩), .int .i64 (i + 16 * g)] W fun e w' => e = .returned (.tuple #[.int .i64 i, .bool true]) ∧ Below W.heap.size W w' := fun W hW => by
    have q := Tab.at_c W S.B.tab T1 (i + 16 * g) (by subst hS1; exact hW.has 1 rfl) (by subst hT1; simp [P.T]; exact P.n1) (by subst hT1; simp [P.T]; exact P.n16) (fun j => by have := P1.gen j; subst hS1; have h1 : Tab.gn T1 j ≤ 900 := this.2; exact ⟨this.1, by omega⟩)
    rw [hT1, hat] at q
    exact q
  rw [← hT1] at A
  have made : ∀ b c, S.made i pr g (Th.new b c (i + 16 * g) prog pr pol jn) = { S1.newTh i (Th.new b c (i + 16 * g) prog pr pol jn) with L := S.L.set i ⟨true, decide (pol = 1), pr, S.B.J.q⟩, R := S.R.tailF pr i, st := S.st + 4 } := fun b c => by subst hS1; subst hT1; rfl
  have RD : ∀ W b c, KW W (S1.newTh i (Th.new b c (i + 16 * g) prog pr pol jn)) → Calls Tryz.prog 68 #[.pointer (some ⟨S.B.kb, 0, none⟩), .pointer (some ⟨b, 0, none⟩)] W fun e w' => e = .returned (.tuple #[]) ∧ KW w' (S.made i pr g (Th.new b c (i + 16 * g) prog pr pol jn)) ∧ Fr (S1.newTh i (Th.new b c (i + 16 * g) prog pr pol jn)) (S.made i pr g (Th.new b c (i + 16 * g) prog pr pol jn)) W w' := fun W b c hW => by
    have q := ready_c W (S1.newTh i (Th.new b c (i + 16 * g) prog pr pol jn)) (B := S.B) hB1 hW (P1.newTh (t := Th.new b c (i + 16 * g) prog pr pol jn) (by rw [hB1]; exact hin') rfl) i pr (Th.new b c (i + 16 * g) prog pr pol jn) hi (put_self _ _ _) hpol rfl h1 h32 (by subst hS1; exact hin) (by subst hS1; exact hz) (by subst hS1; exact hl) (by subst hS1; exact hs0) (by subst hS1; exact hs1)
    rw [made b c]
    subst hS1
    exact q
  have hn1 : S1.th i = none := by subst hS1; exact hn
  have NT : ∀ W W' b c, KW W S1 → W.heap.size ≤ b → W.heap.size ≤ c → b ≠ c → b < W'.heap.size → c < W'.heap.size → W'.heap[b]? = some (thO i (Th.new b c (i + 16 * g) prog pr pol jn)) → W'.heap[c]? = some (Can.canO Can.newS) → Upd W S.B.kb (.cells ((kC S1).setIfInBounds (10 + i) (.pointer (some ⟨b, 0, none⟩))) 94 (0, 0)) W' → KW W' (S1.newTh i (Th.new b c (i + 16 * g) prog pr pol jn)) ∧ Fr S1 (S1.newTh i (Th.new b c (i + 16 * g) prog pr pol jn)) W W' := fun W W' b c hW q1 q2 q3 q4 q5 q6 q7 U => by
    rw [ks_tp S1 _ hi] at U
    exact hW.newTh (t := Th.new b c (i + 16 * g) prog pr pol jn) hi q1 q2 q3 q4 q5 q6 q7 hn1 (hB1 ▸ U)
  have HB1 := Lib.hid hB1
  have i0 : (0 : Int) ≤ i := by omega
  have i1 : (i : Int) < 16 := by omega
  clear hf hg hg9 hn hat hpol hin hz hl hs0 hs1 P h1 h32 hS1 hT1 h P1 made hn1 hB1 hin' hiT
  go_enter Tryz.func41, Tryz.ntmps41
  go_wp2_with (first
    | (go_at_call 65; refine A.mono ?_; rintro e w1 ⟨rfl, u1⟩; obtain ⟨k1, f1⟩ := K1 w1 u1; have c9' := kc9 (B := S.B) k1 HB1.out; have HK1 := Lib.hid k1; have HF1 := Lib.hid f1; clear u1 k1 f1)
    | (go_at_call 66; refine (AT _ HK1.out).mono ?_; rintro e w2 ⟨rfl, b2⟩; have HK2 := Lib.hid (HK1.out.reads b2); have HF2 := Lib.hid (HF1.out.trans (Fr.reads _ b2)); clear b2)
    | (go_at_call 67; refine (Can.new_c _).mono ?_; rintro e w3 ⟨rfl, x3, b3, z3⟩; have k3 := HK2.out.reads b3
       have ct : ∀ o, (w3.alloc o).cell? ⟨S.B.kb, 10 + i, none⟩ = some (.pointer (S1.tp i)) := fun o => by
         have q := (k3.reads ((Below.refl w3.heap.size w3).alloc (Nat.le_refl _) o)).tpc hi
         rw [HB1.out] at q
         exact q
       have cf : ∀ o, (w3.alloc o).frozen? ⟨S.B.kb, 10 + i, none⟩ = false := fun o => by
         have q := has_free ((k3.reads ((Below.refl w3.heap.size w3).alloc (Nat.le_refl _) o)).has 0 rfl) (10 + i)
         rw [HB1.out] at q
         exact q
       have hk2 : w2.heap[S.B.kb]? = some (kO S1) := by
         have q := HK2.out.has 0 rfl
         rw [HB1.out] at q
         exact q
       have KN := NT w2 _ w3.heap.size w2.heap.size HK2.out (by omega) (Nat.le_refl _) (by omega) (by simp [World.setCell]) (by simp [World.setCell]; omega) (by
         refine (Below.heap_setCell _ _ _ _ ?_).trans (heap_alloc_new w3 _)
         have := has_lt hk2
         show w3.heap.size ≠ S.B.kb
         omega) (by
         refine (Below.heap_setCell _ _ _ _ ?_).trans (below_alloc_has x3)
         have := has_lt hk2
         show w2.heap.size ≠ S.B.kb
         omega) (((((Upd.refl hk2).reads b3).alloc (.cells (thC i (Th.new w3.heap.size w2.heap.size (i + 16 * g) prog pr pol jn)) 140)).setCell (10 + i) (.pointer (some ⟨w3.heap.size, 0, none⟩))))
       have HKN := Lib.hid KN; have H3 := Lib.hid b3; clear x3 b3 k3 KN hk2)
    | (go_at_call 68; refine (RD _ w3.heap.size w2.heap.size HKN.out.1).mono ?_; rintro e w4 ⟨rfl, k4, f4⟩))
  go_ret
  exact ⟨w3.heap.size, w2.heap.size, Nat.le_trans HF2.out.size (Nat.le_of_lt z3), rfl, k4, HF2.out.trans (HKN.out.2.trans f4)⟩
end Go.Proofs.YtagmlijhgncklaaGreatDoor.Ker
