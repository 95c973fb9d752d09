/-
  What an append to one of the kernel's rows makes of the kernel as it lies in memory. There are no conditions. (Written by genklog.py.)
  The kernel's answers to calls (answer), over the translation of this seat. Conditions: the blocks that are named hold what is said.
  The kernel's functions open, actionable, points, gone, Runs, over the translation of this seat. Conditions: the blocks that are named hold what is said.
  The kernel's functions gone, Runs, over the translation of this seat. Conditions: the blocks that are named hold what is said.
  The kernel's graph of who waits for whom, over the translation of this seat. Conditions: the blocks that are named hold what is said; nobody waits for a mutex, there is none.
  The kernel settles effective priorities where none turns (settle), over the translation of this seat. Conditions: the blocks that are named hold what is said; nobody waits for a mutex, there is none; each thread's effective priority is its own.
  A thread ends (the kernel's end), over the translation of this seat. Conditions: the blocks that are named hold what is said; there are no mutexes.
  A thread unwinds (unwindOn, unwind, over), over the translation of this seat. Conditions: the blocks that are named hold what is said; there are no mutexes; it pushed no cleanup and has no keys.
  The kernel's calls, by their numbers (calls), over the translation of this seat. There are no conditions. (Written by gencalls.py.)
-/
import Derived.Test.YtagmlijhgncklaaGreatDoorW28
import Derived.Deep.AppendLies
import Derived.WalkMore
set_option linter.unusedVariables false
namespace Go.Proofs.YtagmlijhgncklaaGreatDoor.Ker
open Go.RowKit Go.Proofs.YtagmlijhgncklaaGreatDoor

def relab (lab : Nat → Nat) (v : Value) (m : Nat) : Nat → Nat := fun x => if v.ownBlock = some x then m else lab x
theorem KW.logL {w W w' : World} {S : KS} (h : KW w S) {v : Value} {xs : List Value} (hown : W.ownsRow 0 43 2 v (S.lo.ln + 1) xs) (g : w.grownBy W S.lo.lv.ownBlock) (hv : v.ownBlock = S.lo.lv.ownBlock ∨ ∀ b, v.ownBlock = some b → w.heap.size ≤ b) (hlt : ∀ b, v.ownBlock = some b → b < W.heap.size)
    (U : Upd W S.B.kb (kO { S with lo := { S.lo with lv := v } }) w') : KW w' { S with lo := { S.lo with lv := v, ln := S.lo.ln + 1, lab := relab S.lo.lab v 2 } } ∧ Fr S { S with lo := { S.lo with lv := v, ln := S.lo.ln + 1, lab := relab S.lo.lab v 2 } } w w' := by
  have hk := (h.ob 0 _ _ rfl).2
  have lt : ∀ {x : Nat} {o : Obj}, w.heap[x]? = some o → x < w.heap.size := fun h => has_lt h
  have hal : ∀ b, S.lo.lv.ownBlock = some b → S.lo.lab b = 2 := h.ll
  have lab : ∀ x, x < w.heap.size → relab S.lo.lab v 2 x = S.lo.lab x := fun x hx => by
    unfold relab
    by_cases e : v.ownBlock = some x
    · rw [if_pos e]
      rcases hv with h1 | h1
      · exact (hal x (h1.symm.trans e)).symm
      · have := h1 x e
        omega
    · rw [if_neg e]
  have keep : ∀ c, c < w.heap.size → S.lo.lab c ≠ 5 → S.lo.lab c ≠ 2 → w'.heap[c]? = w.heap[c]? := fun c hc h5 h4 => (U.2.block c (Nat.lt_of_lt_of_le hc g.size) (by intro e; cases e; exact h5 hk)).trans (g.block c hc (by intro e; exact h4 (hal c e.symm)))
  have hne : ∀ b, v.ownBlock = some b → b ≠ S.B.kb := fun b hb e => by
    subst e
    rcases hv with h1 | h1
    · have := hal _ (h1.symm.trans hb); omega
    · have := h1 _ hb
      have := lt (h.has 0 rfl)
      omega
  refine ⟨⟨?_, ?_, ?_, ?_, ?_, ?_, ?_, ?_, ?_⟩, ⟨U.2.os.trans g.os, U.2.tape.trans g.tape, U.2.output.trans g.output, Nat.le_trans g.size U.2.size, fun k hk h0 => keep k hk (by rw [h0]; omega) (by rw [h0]; omega), lab⟩⟩
  · intro i b o hi
    by_cases e0 : i = 0
    · subst e0
      cases hi
      exact ⟨U.1, (lab _ (lt (h.has 0 rfl))).trans hk⟩
    · have same : S.obj i = some (b, o) := by
        match i with
        | 0 => exact absurd rfl e0
        | 1 => exact hi | 2 => exact hi | 3 => exact hi | 4 => exact hi | 5 => exact hi | 6 => exact hi | 7 => exact hi | 8 => exact hi | 9 => exact hi | 10 => exact hi | 11 => exact hi | 12 => exact hi
        | n + 13 => exact hi
      have k := h.ob i b o same
      exact ⟨(keep b (lt k.1) (by rw [k.2]; omega) (by rw [k.2]; omega)).trans k.1, (lab _ (lt k.1)).trans k.2⟩
  · intro c x hx
    have k := h.cs c x hx
    exact ⟨(keep c (lt k.1) (by rw [k.2]; omega) (by rw [k.2]; omega)).trans k.1, (lab _ (lt k.1)).trans k.2⟩
  · exact ⟨_, owns_kept hown fun c hc => U.2.block c (hlt c hc) (by intro e; cases e; exact hne _ hc rfl)⟩
  · intro b hb
    show relab S.lo.lab v 2 b = 2
    unfold relab
    exact if_pos hb
  · exact owns_kept h.nt fun c hc => keep c (owns_lt h.nt hc) (by rw [h.nl c hc]; omega) (by rw [h.nl c hc]; omega)
  · intro b hb
    exact (lab _ (owns_lt h.nt hb)).trans (h.nl b hb)
  · obtain ⟨xs, hx⟩ := h.a
    exact ⟨xs, owns_kept hx fun c hc => keep c (owns_lt hx hc) (by rw [h.al c hc]; omega) (by rw [h.al c hc]; omega)⟩
  · intro b hb
    obtain ⟨xs, hx⟩ := h.a
    exact (lab _ (owns_lt hx hb)).trans (h.al b hb)
  · intro c hc
    show relab S.lo.lab v 2 c = 0
    unfold relab
    by_cases e : v.ownBlock = some c
    · have := hlt c e
      have := U.2.size
      omega
    · rw [if_neg e]
      have := U.2.size
      have := g.size
      exact h.fresh c (by omega)
theorem KW.logN {w W w' : World} {S : KS} (h : KW w S) {v : Value} {ns : List (Int × Int)} (hown : W.ownsRow 0 48 2 v ns.length (ns.flatMap fun x => [.int .i64 x.1, .int .i64 x.2])) (g : w.grownBy W S.lo.nv.ownBlock) (hv : v.ownBlock = S.lo.nv.ownBlock ∨ ∀ b, v.ownBlock = some b → w.heap.size ≤ b) (hlt : ∀ b, v.ownBlock = some b → b < W.heap.size)
    (U : Upd W S.B.kb (kO { S with lo := { S.lo with nv := v } }) w') : KW w' { S with lo := { S.lo with nv := v, notes := ns, lab := relab S.lo.lab v 3 } } ∧ Fr S { S with lo := { S.lo with nv := v, notes := ns, lab := relab S.lo.lab v 3 } } w w' := by
  have hk := (h.ob 0 _ _ rfl).2
  have lt : ∀ {x : Nat} {o : Obj}, w.heap[x]? = some o → x < w.heap.size := fun h => has_lt h
  have hal : ∀ b, S.lo.nv.ownBlock = some b → S.lo.lab b = 3 := h.nl
  have lab : ∀ x, x < w.heap.size → relab S.lo.lab v 3 x = S.lo.lab x := fun x hx => by
    unfold relab
    by_cases e : v.ownBlock = some x
    · rw [if_pos e]
      rcases hv with h1 | h1
      · exact (hal x (h1.symm.trans e)).symm
      · have := h1 x e
        omega
    · rw [if_neg e]
  have keep : ∀ c, c < w.heap.size → S.lo.lab c ≠ 5 → S.lo.lab c ≠ 3 → w'.heap[c]? = w.heap[c]? := fun c hc h5 h4 => (U.2.block c (Nat.lt_of_lt_of_le hc g.size) (by intro e; cases e; exact h5 hk)).trans (g.block c hc (by intro e; exact h4 (hal c e.symm)))
  have hne : ∀ b, v.ownBlock = some b → b ≠ S.B.kb := fun b hb e => by
    subst e
    rcases hv with h1 | h1
    · have := hal _ (h1.symm.trans hb); omega
    · have := h1 _ hb
      have := lt (h.has 0 rfl)
      omega
  refine ⟨⟨?_, ?_, ?_, ?_, ?_, ?_, ?_, ?_, ?_⟩, ⟨U.2.os.trans g.os, U.2.tape.trans g.tape, U.2.output.trans g.output, Nat.le_trans g.size U.2.size, fun k hk h0 => keep k hk (by rw [h0]; omega) (by rw [h0]; omega), lab⟩⟩
  · intro i b o hi
    by_cases e0 : i = 0
    · subst e0
      cases hi
      exact ⟨U.1, (lab _ (lt (h.has 0 rfl))).trans hk⟩
    · have same : S.obj i = some (b, o) := by
        match i with
        | 0 => exact absurd rfl e0
        | 1 => exact hi | 2 => exact hi | 3 => exact hi | 4 => exact hi | 5 => exact hi | 6 => exact hi | 7 => exact hi | 8 => exact hi | 9 => exact hi | 10 => exact hi | 11 => exact hi | 12 => exact hi
        | n + 13 => exact hi
      have k := h.ob i b o same
      exact ⟨(keep b (lt k.1) (by rw [k.2]; omega) (by rw [k.2]; omega)).trans k.1, (lab _ (lt k.1)).trans k.2⟩
  · intro c x hx
    have k := h.cs c x hx
    exact ⟨(keep c (lt k.1) (by rw [k.2]; omega) (by rw [k.2]; omega)).trans k.1, (lab _ (lt k.1)).trans k.2⟩
  · obtain ⟨xs, hx⟩ := h.l
    exact ⟨xs, owns_kept hx fun c hc => keep c (owns_lt hx hc) (by rw [h.ll c hc]; omega) (by rw [h.ll c hc]; omega)⟩
  · intro b hb
    obtain ⟨xs, hx⟩ := h.l
    exact (lab _ (owns_lt hx hb)).trans (h.ll b hb)
  · exact owns_kept hown fun c hc => U.2.block c (hlt c hc) (by intro e; cases e; exact hne _ hc rfl)
  · intro b hb
    show relab S.lo.lab v 3 b = 3
    unfold relab
    exact if_pos hb
  · obtain ⟨xs, hx⟩ := h.a
    exact ⟨xs, owns_kept hx fun c hc => keep c (owns_lt hx hc) (by rw [h.al c hc]; omega) (by rw [h.al c hc]; omega)⟩
  · intro b hb
    obtain ⟨xs, hx⟩ := h.a
    exact (lab _ (owns_lt hx hb)).trans (h.al b hb)
  · intro c hc
    show relab S.lo.lab v 3 c = 0
    unfold relab
    by_cases e : v.ownBlock = some c
    · have := hlt c e
      have := U.2.size
      omega
    · rw [if_neg e]
      have := U.2.size
      have := g.size
      exact h.fresh c (by omega)
theorem KW.logA {w W w' : World} {S : KS} (h : KW w S) {v : Value} {xs : List Value} (hown : W.ownsRow 0 410 4 v (S.lo.an + 1) xs) (g : w.grownBy W S.lo.av.ownBlock) (hv : v.ownBlock = S.lo.av.ownBlock ∨ ∀ b, v.ownBlock = some b → w.heap.size ≤ b) (hlt : ∀ b, v.ownBlock = some b → b < W.heap.size)
    (U : Upd W S.B.kb (kO { S with lo := { S.lo with av := v } }) w') : KW w' { S with lo := { S.lo with av := v, an := S.lo.an + 1, lab := relab S.lo.lab v 4 } } ∧ Fr S { S with lo := { S.lo with av := v, an := S.lo.an + 1, lab := relab S.lo.lab v 4 } } w w' := by
  have hk := (h.ob 0 _ _ rfl).2
  have lt : ∀ {x : Nat} {o : Obj}, w.heap[x]? = some o → x < w.heap.size := fun h => has_lt h
  have hal : ∀ b, S.lo.av.ownBlock = some b → S.lo.lab b = 4 := h.al
  have lab : ∀ x, x < w.heap.size → relab S.lo.lab v 4 x = S.lo.lab x := fun x hx => by
    unfold relab
    by_cases e : v.ownBlock = some x
    · rw [if_pos e]
      rcases hv with h1 | h1
      · exact (hal x (h1.symm.trans e)).symm
      · have := h1 x e
        omega
    · rw [if_neg e]
  have keep : ∀ c, c < w.heap.size → S.lo.lab c ≠ 5 → S.lo.lab c ≠ 4 → w'.heap[c]? = w.heap[c]? := fun c hc h5 h4 => (U.2.block c (Nat.lt_of_lt_of_le hc g.size) (by intro e; cases e; exact h5 hk)).trans (g.block c hc (by intro e; exact h4 (hal c e.symm)))
  have hne : ∀ b, v.ownBlock = some b → b ≠ S.B.kb := fun b hb e => by
    subst e
    rcases hv with h1 | h1
    · have := hal _ (h1.symm.trans hb); omega
    · have := h1 _ hb
      have := lt (h.has 0 rfl)
      omega
  refine ⟨⟨?_, ?_, ?_, ?_, ?_, ?_, ?_, ?_, ?_⟩, ⟨U.2.os.trans g.os, U.2.tape.trans g.tape, U.2.output.trans g.output, Nat.le_trans g.size U.2.size, fun k hk h0 => keep k hk (by rw [h0]; omega) (by rw [h0]; omega), lab⟩⟩
  · intro i b o hi
    by_cases e0 : i = 0
    · subst e0
      cases hi
      exact ⟨U.1, (lab _ (lt (h.has 0 rfl))).trans hk⟩
    · have same : S.obj i = some (b, o) := by
        match i with
        | 0 => exact absurd rfl e0
        | 1 => exact hi | 2 => exact hi | 3 => exact hi | 4 => exact hi | 5 => exact hi | 6 => exact hi | 7 => exact hi | 8 => exact hi | 9 => exact hi | 10 => exact hi | 11 => exact hi | 12 => exact hi
        | n + 13 => exact hi
      have k := h.ob i b o same
      exact ⟨(keep b (lt k.1) (by rw [k.2]; omega) (by rw [k.2]; omega)).trans k.1, (lab _ (lt k.1)).trans k.2⟩
  · intro c x hx
    have k := h.cs c x hx
    exact ⟨(keep c (lt k.1) (by rw [k.2]; omega) (by rw [k.2]; omega)).trans k.1, (lab _ (lt k.1)).trans k.2⟩
  · obtain ⟨xs, hx⟩ := h.l
    exact ⟨xs, owns_kept hx fun c hc => keep c (owns_lt hx hc) (by rw [h.ll c hc]; omega) (by rw [h.ll c hc]; omega)⟩
  · intro b hb
    obtain ⟨xs, hx⟩ := h.l
    exact (lab _ (owns_lt hx hb)).trans (h.ll b hb)
  · exact owns_kept h.nt fun c hc => keep c (owns_lt h.nt hc) (by rw [h.nl c hc]; omega) (by rw [h.nl c hc]; omega)
  · intro b hb
    exact (lab _ (owns_lt h.nt hb)).trans (h.nl b hb)
  · exact ⟨_, owns_kept hown fun c hc => U.2.block c (hlt c hc) (by intro e; cases e; exact hne _ hc rfl)⟩
  · intro b hb
    show relab S.lo.lab v 4 b = 4
    unfold relab
    exact if_pos hb
  · intro c hc
    show relab S.lo.lab v 4 c = 0
    unfold relab
    by_cases e : v.ownBlock = some c
    · have := hlt c e
      have := U.2.size
      omega
    · rw [if_neg e]
      have := U.2.size
      have := g.size
      exact h.fresh c (by omega)
theorem grown_alloc {w w' : World} {o : Obj} {row : Option Nat} (h : (w.alloc o).grownBy w' row) : w.grownBy w' row :=
  ⟨h.os, h.tape, h.output, by have := h.size; simp at this; omega, fun k hk hne => (h.block k (by simp; omega) hne).trans (Below.heap_alloc w o k hk)⟩
end Go.Proofs.YtagmlijhgncklaaGreatDoor.Ker
namespace Go.Proofs.YtagmlijhgncklaaGreatDoor.Ker
open Go.RowKit Go.Proofs.YtagmlijhgncklaaGreatDoor

theorem info410 : (Tryz.prog.info? 410).map (fun i => (i.zero, i.size, i.bytes)) = some (some (.agg #[.int .i64 0, .int .i64 0, .int .i64 0, .int .i64 0]), 4, 32) := by kernel_rfl
/-- A thread that has its answer. -/
def Th.ans (t : Th) (val e : Int) : Th := { t with r := put (put t.r 0 val) 1 e }
def KS.ans (S : KS) (p : Nat) (t : Th) (v : Value) : KS := { S with th := put S.th p (some t), lo := { S.lo with av := v, an := S.lo.an + 1, lab := relab S.lo.lab v 4 } }
set_option maxRecDepth 100000 in
theorem answer_c (w : World) (S : KS) {B : KB} (hB : S.B = B) (h : KW w S) (p : Nat) (t : Th) (hp : p < 16) (ht : S.th p = some t) (call val e : Int) (hn : S.lo.an ≤ 100000) :
    Calls Tryz.prog 144 #[.pointer (some ⟨B.kb, 0, none⟩), .pointer (some ⟨t.b, 0, none⟩), .int .i64 call, .int .i64 val, .int .i64 e] w fun e' w' => ∃ v, e' = .returned (.tuple #[]) ∧ KW w' (S.ans p (t.ans val e) v) ∧ Fr S (S.ans p (t.ans val e) v) w w' := by
  subst hB
  have hT := h.getTh hp ht
  have c4 := tc4 hT
  have c5 := tc5 hT
  have fz := has_free hT
  have U1 := ((((Upd.refl hT).setCell 4 (.int .i64 val)).setCell 5 (.int .i64 e))).drew
  have A1 := h.thr (t' := t.ans val e) hp ht (U1.to (by simp only [thO]; congr 1)) rfl rfl rfl
  have HT := Lib.hid hT
  have HA := Lib.hid A1
  clear hT h ht U1 A1
  go_enter Tryz.func144, Tryz.ntmps144
  go_wp2_with fail
  go_region
  go_upto_region 1 with fail
  obtain ⟨W, hW⟩ : ∃ W, W = ((w.setCell ⟨t.b, 4, none⟩ (.int .i64 val)).setCell ⟨t.b, 5, none⟩ (.int .i64 e)).drew := ⟨_, rfl⟩
  rw [← hW] at HA ⊢
  clear hW c4 c5 fz HT
  obtain ⟨S1, hS1⟩ : ∃ S1 : KS, S1 = { S with th := put S.th p (some (t.ans val e)) } := ⟨_, rfl⟩
  rw [← hS1] at HA
  have hB1 : S1.B = S.B := by rw [hS1]
  have h1 : S1.th p = some (t.ans val e) := by rw [hS1]; exact put_self _ _ _
  have ha1 : S1.lo = S.lo := by rw [hS1]
  have HE : ∀ v, S.ans p (t.ans val e) v = { S1 with lo := { S1.lo with av := v, an := S1.lo.an + 1, lab := relab S1.lo.lab v 4 } } := fun v => by rw [hS1]; rfl
  have hT : W.heap[t.b]? = some (thO p (t.ans val e)) := HA.out.1.getTh hp h1
  have c91 := kc91 (B := S.B) HA.out.1 hB1
  have c0 : W.cell? ⟨t.b, 0, none⟩ = some (.int .i64 p) := tc0 (t := t.ans val e) hT
  have f91 : ∀ i, W.frozen? ⟨S.B.kb, i, none⟩ = false := by rw [← hB1]; exact has_free (HA.out.1.has 0 rfl)
  have HX := Lib.hid hB1
  have HE := Lib.hid HE
  have H1 := Lib.hid h1
  have HAN := Lib.hid hn
  have HAL := Lib.hid ha1
  have hbk : S.B.kb < W.heap.size := by rw [← hB1]; exact has_lt (HA.out.1.has 0 rfl)
  clear hB1 hS1 h1 hT hn ha1
  obtain ⟨xs, hxs⟩ := HA.out.1.a
  obtain ⟨i0, hi, hz0, hz1, hz2⟩ := info_parts info410
  have hal : ∀ b, S1.lo.av.ownBlock = some b → S.B.kb ≠ b := fun b hb e => by
    have h4 := HA.out.1.al b hb
    have h5 := (HA.out.1.ob 0 _ _ rfl).2
    rw [HX.out, e] at h5
    omega
  have HXS := Lib.hid hxs
  have HAL2 := Lib.hid hal
  have HI := Lib.hid hi
  have HZ0 := Lib.hid hz0
  have HZ1 := Lib.hid hz1
  have HZ2 := Lib.hid hz2
  have hn1 : S1.lo.an ≤ 100000 := by rw [HAL.out]; exact HAN.out
  have HN1 := Lib.hid hn1
  clear hxs hal hi hz0 hz1 hz2 hn1
  go_region_law (first
    | (refine step_append_lies _ rfl (.tmp 24) (.tmp 33) 92 rfl 0 410 i0 _ 4 32 Tryz.underlying92 HI.out HZ0.out HZ1.out HZ2.out rfl (by decide) S1.lo.av S1.lo.an xs rfl (by exact owns_kept HXS.out fun b hb => Below.heap_alloc W _ b (owns_lt HXS.out hb)) ⟨W.heap.size, 0, none⟩ 1 1 [.int .i64 p, .int .i64 call, .int .i64 val, .int .i64 e] rfl rfl (by exact World.news_of_block (heap_alloc_new W (.cells #[.int .i64 p, .int .i64 call, .int .i64 val, .int .i64 e] 410))) (by intro u hu; simp at hu; rcases hu with rfl | rfl | rfl | rfl <;> rfl) (by decide) (by have := HN1.out; simp only [maxLen]; omega) (by have := HN1.out; omega) (Nat.zero_le _) _ rfl ?_
       intro g cap w' q1 q2 q3 q4
       have q5 : W.grownBy w' S1.lo.av.ownBlock := grown_alloc ⟨q2.os, q2.tape, q2.output, q2.size, q2.block⟩
       have y : w'.cell? ⟨S.B.kb, 91, none⟩ = some S1.lo.av := (World.cell?_of_block (q5.block S.B.kb hbk (fun e => HAL2.out _ e.symm rfl))).trans c91
       have yf : ∀ i, w'.frozen? ⟨S.B.kb, i, none⟩ = false := fun i => (World.frozen?_of_block (q5.block S.B.kb hbk (fun e => HAL2.out _ e.symm rfl))).trans (f91 i)))
  all_goals refine bodyPost_end (results_none rfl _ _ _) rfl ?_
  all_goals
    have hkb : w'.heap[S.B.kb]? = some (kO S1) := (q5.block S.B.kb hbk (fun e => HAL2.out _ e.symm rfl)).trans (by rw [← HX.out]; exact HA.out.1.has 0 rfl)
    have F := HA.out.1.logA q1 q5 (by
      rcases q3 with h | h
      · exact .inl h.symm
      · right
        intro b hb
        cases hb
        rw [h]
        show W.heap.size ≤ (W.alloc _).heap.size
        simp) (by intro b hb; cases hb; exact q4) (by rw [show S1.B.kb = S.B.kb by rw [HX.out]]; exact (Upd.refl hkb).setCell 91 _)
    exact ⟨_, rfl, by rw [HE.out]; exact F.1, by rw [HE.out]; exact HA.out.2.trans F.2⟩
end Go.Proofs.YtagmlijhgncklaaGreatDoor.Ker
namespace Go.Proofs.YtagmlijhgncklaaGreatDoor.Ker
open Go.RowKit Go.Proofs.YtagmlijhgncklaaGreatDoor

theorem run_index_78 (l : List Value) (k : Nat) (v : Value) (hl : l.length = 32) (hk : k < 32) (hv : l[k]? = some v) (w : World) : (Instr.index 78 (.agg l.toArray) (.int .i64 k)).run Tryz.prog w = .ok v w := by
  have h1 : (0 : Int) ≤ k ∧ (k : Int) < 32 := by omega
  obtain ⟨i, hi, hz0, hz1, hz2⟩ := info_parts Inh.info3
  simp [Instr.index, run_underlying Tryz.underlying78, asIntOf, h1, go_sem, sizeOf, typeInfo, hi, hz1, hk, hl]
  exact Option.some.inj (by rw [← List.getElem?_eq_getElem]; exact hv)
theorem points_no (w : World) (n : Int) (h : n = 1 ∨ n = 2 ∨ n = 5 ∨ n = 6 ∨ n = 7 ∨ n = 9 ∨ n = 11 ∨ n = 13 ∨ n = 16 ∨ n = 17 ∨ n = 25 ∨ n = 30) : Calls Tryz.prog 147 #[.int .i64 n] w fun e w' => e = .returned (.bool false) ∧ w = w' := by
  rcases h with rfl | rfl | rfl | rfl | rfl | rfl | rfl | rfl | rfl | rfl | rfl | rfl <;>
    (go_enter Tryz.func147, Tryz.ntmps147
     go_wp2
     go_ret
     exact ⟨rfl, rfl⟩)
theorem points_yes (w : World) (n : Int) (h : n = 3 ∨ n = 27 ∨ n = 62) : Calls Tryz.prog 147 #[.int .i64 n] w fun e w' => e = .returned (.bool true) ∧ w = w' := by
  rcases h with rfl | rfl | rfl <;>
    (go_enter Tryz.func147, Tryz.ntmps147
     go_wp2
     go_ret
     exact ⟨rfl, rfl⟩)
set_option maxRecDepth 100000 in
theorem actionable_c (w : World) (S : KS) {B : KB} (hB : S.B = B) (h : KW w S) : Calls Tryz.prog 137 #[.pointer (some ⟨B.kb, 0, none⟩)] w fun e w' => e = .returned (.int .u32 0) ∧ w = w' := by
  subst hB
  have hr : w.rangeAt S.B.kb 31 (List.replicate 32 (.int .i64 0)) := by
    refine has_range (h.has 0 rfl) _ 31 ?_
    intro j hj
    have hj : j < 32 := by simpa using hj
    rw [List.getElem?_replicate, if_pos hj]
    match j, hj with
    | 0, _ => rfl | 1, _ => rfl | 2, _ => rfl | 3, _ => rfl | 4, _ => rfl | 5, _ => rfl | 6, _ => rfl | 7, _ => rfl
    | 8, _ => rfl | 9, _ => rfl | 10, _ => rfl | 11, _ => rfl | 12, _ => rfl | 13, _ => rfl | 14, _ => rfl | 15, _ => rfl
    | 16, _ => rfl | 17, _ => rfl | 18, _ => rfl | 19, _ => rfl | 20, _ => rfl | 21, _ => rfl | 22, _ => rfl | 23, _ => rfl
    | 24, _ => rfl | 25, _ => rfl | 26, _ => rfl | 27, _ => rfl | 28, _ => rfl | 29, _ => rfl | 30, _ => rfl | 31, _ => rfl
    | _ + 32, h => exact absurd h (by omega)
  obtain ⟨l, hl⟩ : ∃ l : List Value, l = List.replicate 32 (.int .i64 0) := ⟨_, rfl⟩
  have hl32 : l.length = 32 := by rw [hl]; exact List.length_replicate
  have HV : ∀ k, k < 32 → l[k]? = some (.int .i64 0) := fun k hk => by rw [hl, List.getElem?_replicate, if_pos hk]
  rw [← hl] at hr
  have HL := Lib.hid hl32
  clear h hl hl32
  go_enter Tryz.func137, Tryz.ntmps137
  go_wp2_with (refine wpList_load_mid rfl 78 (.tmp 8) rfl S.B.kb 31 rfl l _ hr Tryz.underlying78 rfl (by rw [HL.out]; kernel_rfl) ?_)
  clear hr
  go_loop [3, 10] (fun l i => ∃ k : Nat, l = .int .u32 0 ∧ i = .int .i64 k ∧ k ≤ 32) (fun _ i => 32 - (intOf i).toNat)
  case atStart => exact ⟨0, rfl, rfl, by omega⟩
  case round =>
    obtain ⟨k, rfl, rfl, hk⟩ := hrel
    by_cases hlt : k < 32
    · have hi := run_index_78 l k _ HL.out hlt (HV k hlt) w
      go_wp2_with fail
      go_round
      case rel => exact ⟨k + 1, rfl, by go_num, by omega⟩
      case measure => simp [intOf]; omega
    · go_wp2_with fail
      go_ret
      exact ⟨rfl, rfl⟩
theorem open_c (w : World) (S : KS) {B : KB} (hB : S.B = B) (h : KW w S) (P : KP S) (p : Nat) (t : Th) (hp : p < 16) (hpn : p < S.B.n) (ht : S.th p = some t) : Calls Tryz.prog 74 #[.pointer (some ⟨B.kb, 0, none⟩), .pointer (some ⟨t.b, 0, none⟩)] w fun e w' => e = .returned (.int .u32 0) ∧ Below w.heap.size w w' := by
  subst hB
  have hT := h.getTh hp ht
  have c30 := kc30 h rfl
  have c0 := tc0 hT
  have A : ∀ n, Calls Tryz.prog 136 #[.pointer (some ⟨S.B.sg, 0, none⟩), .int .i64 p] (w.drewN n) fun e w' => e = .returned (.int .u32 0) ∧ w.drewN n = w' := fun n => Go.Proofs.YtagmlijhgncklaaGreatDoor.open_c (w.drewN n) S.B.sg S.B.mb p S.B.J.t S.B.J.s (h.has 7 rfl) hp (by rw [P.n]; omega)
  have A2 : ∀ n, Calls Tryz.prog 137 #[.pointer (some ⟨S.B.kb, 0, none⟩)] (w.drewN n) fun e w' => e = .returned (.int .u32 0) ∧ w.drewN n = w' := fun n => actionable_c (w.drewN n) S rfl (h.keeps (Nat.le_refl _) (fun _ _ _ => rfl))
  clear h hT P ht
  go_enter Tryz.func74, Tryz.ntmps74
  go_wp2_with fail
  go_quiet ((first | (go_at_call 136; exact quiet_left (A _)) | (go_at_call 137; exact quiet_left (A2 _))))
  go_wp2_with fail
  go_ret
  exact ⟨rfl, below_drewN (Below.refl _ _) _⟩
end Go.Proofs.YtagmlijhgncklaaGreatDoor.Ker
namespace Go.Proofs.YtagmlijhgncklaaGreatDoor.Ker
open Go.RowKit Go.Proofs.YtagmlijhgncklaaGreatDoor

/-- The kernel without a thread that was there. -/
def KS.gone (S : KS) (p : Nat) : KS := ({ S with T := S.T.set p (false, Tab.gn S.T p) } : KS).noTh p
set_option maxRecDepth 100000 in
theorem gone_c (w : World) (S : KS) {B : KB} (hB : S.B = B) (h : KW w S) (P : KP S) (p : Nat) (t : Th) (hp : p < 16) (ht : S.th p = some t) (hf : Tab.atF S.T t.hd = some p) :
    Calls Tryz.prog 344 #[.pointer (some ⟨B.kb, 0, none⟩), .pointer (some ⟨t.b, 0, none⟩)] w fun e w' => e = .returned (.tuple #[]) ∧ KW w' (S.gone p) ∧ Fr S (S.gone p) w w' ∧ w'.heap[t.b]? = some (thO p t) := by
  subst hB
  have hT := h.getTh hp ht
  have c9 := kc9 h rfl
  have c1 := tc1 hT
  have h2 := h.keeps (w' := w.drew) (Nat.le_refl _) (fun _ _ _ => rfl)
  have A := Tab.drop_c w.drew S.B.tab S.T t.hd p (h2.has 1 rfl) (by rw [P.T]; exact P.n1) (by rw [P.T]; exact P.n16) (fun j => ⟨(P.gen j).1, by have := (P.gen j).2; omega⟩) hf
  obtain ⟨S1, hS1⟩ : ∃ S1 : KS, S1 = { S with T := S.T.set p (false, Tab.gn S.T p) } := ⟨_, rfl⟩
  have hB1 : S1.B = S.B := by rw [hS1]
  have ht1 : S1.th p = some t := by rw [hS1]; exact ht
  have K1 : ∀ W, Upd w.drew S.B.tab (Tab.tabO (S.T.set p (false, Tab.gn S.T p))) W → KW W S1 ∧ Fr S S1 w W := fun W u => by
    have q := h2.table u
    rw [hS1]
    exact ⟨q.1, (Fr.refl S w).drew.trans q.2⟩
  have HE : S.gone p = S1.noTh p := by rw [hS1]; rfl
  have i0 : (0 : Int) ≤ p := by omega
  have i1 : (p : Int) < 16 := by omega
  have hbk : t.b ≠ S.B.kb := h.ne (obj_th hp ht) (show S.obj 0 = _ from rfl) (by omega)
  have HBK := Lib.hid hbk
  clear hbk
  have HB1 := Lib.hid hB1
  have HT1 := Lib.hid ht1
  have HE := Lib.hid HE
  clear hS1 hB1 ht1 h hT h2 P hf ht
  go_enter Tryz.func344, Tryz.ntmps344
  go_wp2_with fail
  refine still_tail 8 (by kernel_rfl) (by kernel_rfl) ?_
  simp only [List.take_succ_cons, List.take_zero, List.drop_succ_cons, List.drop_zero]
  repeat still_step
  refine wpStill_nil ?_
  go_wp2_with (go_at_call 487; refine A.mono ?_; rintro e w1 ⟨rfl, u1⟩; obtain ⟨k1, f1⟩ := K1 w1 u1; have hT1 := k1.getTh hp HT1.out; have HT2 := Lib.hid hT1; have c0 := tc0 hT1; have ct := k1.tpc hp; rw [HB1.out] at ct; have cf := has_free (k1.has 0 rfl); rw [HB1.out] at cf; have hkb : w1.heap[S.B.kb]? = some (kO S1) := (by have q := k1.has 0 rfl; rw [HB1.out] at q; exact q); have HK := Lib.hid k1; have HF := Lib.hid f1; have HKB := Lib.hid hkb; clear u1 k1 f1 hT1 hkb)
  refine still_tail 8 (by kernel_rfl) (by kernel_rfl) ?_
  simp only [List.take_succ_cons, List.take_zero, List.drop_succ_cons, List.drop_zero]
  repeat still_step
  refine wpStill_nil ?_
  go_wp2_with fail
  refine bodyPost_end (results_none rfl _ _ _) rfl ?_
  have U := ((Upd.refl HKB.out).drew).setCell (10 + p) (.pointer none)
  rw [ks_tp S1 none hp] at U
  have F := HK.out.noTh (p := p) (by rw [show S1.B.kb = S.B.kb by rw [HB1.out]]; exact U)
  exact ⟨rfl, by rw [HE.out]; exact F.1, by rw [HE.out]; exact HF.out.trans F.2, (Below.heap_setCell _ _ _ _ HBK.out).trans HT2.out⟩
theorem Runs_c (w : World) (S : KS) {B : KB} (hB : S.B = B) (h : KW w S) (P : KP S) (hb1 : 1 ≤ Lib.bitLen S.R.sm) (hb2 : Lib.bitLen S.R.sm ≤ 32) (hs : S.R.sm ≠ 0) (h0 : 0 ≤ S.st) (h1 : S.st ≤ 800000000) :
    Calls Tryz.prog 16 #[.pointer (some ⟨B.kb, 0, none⟩)] w fun e w' => e = .returned (.tuple #[.int .i64 S.R.firstF, .bool true]) ∧ KW w' { S with st := S.st + 1 } ∧ Fr S { S with st := S.st + 1 } w w' := by
  subst hB
  have c26 := kc26 h rfl
  have T := there_c w S rfl h
  have A := turns_runs w S.B.tb S.B.rb S.B.J.q S.L S.R S.st (h.tn P.L P.R) hb1 hb2 hs h0 h1
  have HK := Lib.hid h
  clear h P hb1 hb2 hs
  go_enter Tryz.func16, Tryz.ntmps16
  go_wp2_with (first | (go_at_call 43; refine T.mono ?_; rintro e w' ⟨rfl, rfl⟩) | (go_at_call 48; refine A.mono ?_; rintro e w1 ⟨rfl, T1, u1⟩; have F := Lib.hid (HK.out.rdy u1); clear T1 u1))
  go_ret2
  exact ⟨rfl, F.out⟩
end Go.Proofs.YtagmlijhgncklaaGreatDoor.Ker
namespace Go.Proofs.YtagmlijhgncklaaGreatDoor.Tab
open Go.RowKit Go.Proofs.YtagmlijhgncklaaGreatDoor

attribute [local go_sem] Oper.semAt_some
attribute [local go_sem] Tab.wide_fn Tab.wide_round_fn

/-- A table of which no place is taken: the sequence of its handles is empty. -/
theorem all_free (n : Nat) (hn : 1 ≤ n) (tb Bn : Nat) (L : List (Bool × Int)) (w : World) (h : w.heap[tb]? = some (tabO L)) (hB : w.heap[Bn]? = some (.cells #[.pointer (some ⟨tb, 0, none⟩)] 70 (0, 0)))
    (h1 : 1 ≤ L.length) (h2 : L.length ≤ 16) (hg : genOk L 1000) (hf : ∀ i, tk L i = false) :
    SeqStopsK Fence.wide n Tryz.prog 178 #[.pointer (some ⟨Bn, 0, none⟩)] encH (fun _ _ => True) (fun xs => xs = []) (fun _ => False) 0 w := by
  intro l J Jx W hW hJ hJx hY h0
  have hT := below_has hW h
  have hb := below_has hW hB
  have HF := Lib.hid hf
  clear hf
  refine callsIn_of_wp Tryz.func178 rfl trivial ?_ rfl
  simp only [Tryz.ntmps178, List.size_toArray, List.length_cons, List.length_nil, Nat.reduceAdd, Nat.reduceSub, Array.replicate_succ, Array.replicate_zero, List.push_toArray, List.append_toArray, List.nil_append, List.cons_append]
  have cb : W.cell? ⟨Bn, 0, none⟩ = some (.pointer (some ⟨tb, 0, none⟩)) := has_cell 0 hb rfl
  gi_wp2_with (gi_at_call 179; refine (callsIn_wide.2 (places_c _ _ _ hT h1 h2)).mono ?_; rintro e w' ⟨rfl, rfl⟩)
  gi_loopw [8] (fun i wr => ∃ j : Nat, i = .int .i64 j ∧ j ≤ L.length ∧ J [] wr ∧ wr.heap[tb]? = some (tabO L) ∧ wr.heap[Bn]? = some (.cells #[.pointer (some ⟨tb, 0, none⟩)] 70 (0, 0))) (fun i _ => L.length - (intOf i).toNat)
  case atStart => exact ⟨0, rfl, by omega, h0, hT, hb⟩
  case round =>
    obtain ⟨j, rfl, hj, hJj, hTj, hbj⟩ := hrel
    have cbj : wr.cell? ⟨Bn, 0, none⟩ = some (.pointer (some ⟨tb, 0, none⟩)) := has_cell 0 hbj rfl
    clear hT hb cb
    by_cases hlt : j < L.length
    · have hof : ofF L (j : Int) = (0, false) := by simp [ofF, HF.out j]
      have HO := Lib.hid hof
      clear hof
      gi_wp2_with (gi_at_call 108; refine (callsIn_wide.2 (of_c _ _ _ _ hTj h1 h2 hg HO.out)).mono ?_; rintro e w' ⟨rfl, rfl⟩)
      go_roundw
      case rel => exact ⟨j + 1, by go_num, by omega, hJj, hTj, hbj⟩
      case measure => simp [intOf]; omega
    · obtain rfl : j = L.length := by omega
      gi_wp2
      go_end0
      exact ⟨⟨_, rfl⟩, .inl ⟨[], rfl, hJj⟩⟩
end Go.Proofs.YtagmlijhgncklaaGreatDoor.Tab
namespace Go.Proofs.YtagmlijhgncklaaGreatDoor.Ker
open Go.RowKit Go.Proofs.YtagmlijhgncklaaGreatDoor

attribute [local go_sem] Oper.semAt_some
attribute [local go_sem] Tab.wide_fn Tab.wide_round_fn

/-- What prio answers for each thread that has not ended. -/
def PrioOk (S : KS) (f : Nat → Int) : Prop := ∀ (W : World) (p : Nat) (t : Th), KW W S → p < 16 → S.th p = some t → t.en = false → Calls Tryz.prog 49 #[.pointer (some ⟨t.b, 0, none⟩)] W fun e w' => e = .returned (.int .i64 (f p)) ∧ W = w'
def KS.baseF (S : KS) (p : Nat) : Int := match S.th p with
  | none => 0
  | some t => t.base
theorem prioOk_base {S : KS} (h : ∀ p t, S.th p = some t → t.pol ≠ 2) : PrioOk S S.baseF := fun W p t hW hp ht _ => by
  have q := prio_c W p t (hW.getTh hp ht) (h p t ht)
  rw [show S.baseF p = t.base by simp [KS.baseF, ht]]
  exact q
theorem info71 : (Tryz.prog.info? 71).map (fun i => (i.zero, i.size, i.bytes)) = some (some (.pointer none), 1, 8) := by kernel_rfl
theorem run_index_72 (l : List Value) (k : Nat) (v : Value) (hl : l.length = 16) (hk : k < 16) (hv : l[k]? = some v) (w : World) : (Instr.index 72 (.agg l.toArray) (.int .i64 k)).run Tryz.prog w = .ok v w := by
  have h1 : (0 : Int) ≤ k ∧ (k : Int) < 16 := by omega
  obtain ⟨i, hi, hz0, hz1, hz2⟩ := info_parts info71
  simp [Instr.index, run_underlying Tryz.underlying72, asIntOf, h1, go_sem, sizeOf, typeInfo, hi, hz1, hk, hl]
  exact Option.some.inj (by rw [← List.getElem?_eq_getElem]; exact hv)
/-- What holds while the graph is made: of the threads below i the base is laid. -/
structure GrW (w W : World) (S : KS) (f : Nat → Int) (g : Nat) (i : Nat) : Prop where
  below : Below w.heap.size w W
  box : W.heap[w.heap.size]? = some (.cells #[.pointer (some ⟨S.B.kb, 0, none⟩)] 36 (0, 0))
  g : ∃ G : Inh.Gs, W.heap[g]? = some (Inh.gO G) ∧ Inh.GOk G ∧ G.n = S.B.n ∧ (∀ p t, p < i → p < 16 → S.th p = some t → t.en = false → G.ba p = f p) ∧ G.wt = (fun _ => -1) ∧ G.ce = fun _ => 0
structure GrE (w W : World) (S : KS) (g cb : Nat) (G : Inh.Gs) : Prop where
  below : Below w.heap.size w W
  box : W.heap[w.heap.size]? = some (.cells #[.pointer (some ⟨S.B.kb, 0, none⟩)] 36 (0, 0))
  g : W.heap[g]? = some (Inh.gO G)
  cs : W.heap[cb]? = some (.cells (List.replicate 16 (.int .i64 0)).toArray 272 (0, 0))
set_option maxRecDepth 100000 in
set_option maxHeartbeats 1000000 in
theorem graph_c (w : World) (S : KS) {B : KB} (hB : S.B = B) (h : KW w S) (P : KP S) (f : Nat → Int) (hf : PrioOk S f) (hr : ∀ p t, p < 16 → S.th p = some t → t.en = false → 0 ≤ f p ∧ f p ≤ 31) (hk : ∀ p t, S.th p = some t → t.wt.kind ≠ 2) (hm : ∀ i, Tab.tk S.muT i = false) :
    Calls Tryz.prog 69 #[.pointer (some ⟨B.kb, 0, none⟩)] w fun e w' => ∃ g, e = .returned (.pointer (some ⟨g, 0, none⟩)) ∧ GrW w w' S f g 16 := by
  subst hB
  have HK := Lib.hid h
  have hbx := below_alloc_has (o := .cells #[.pointer (some ⟨S.B.kb, 0, none⟩)] 36) (h.has 0 rfl)
  have n1 := P.n1
  have n16 := P.n16
  refine Tab.calls_of_marks 4 Tryz.func69 rfl ?_
  simp only [Tryz.ntmps69, List.size_toArray, List.length_cons, List.length_nil, Nat.reduceAdd, Nat.reduceSub, Array.replicate_succ, Array.replicate_zero, List.push_toArray, List.append_toArray, List.nil_append, List.cons_append]
  have k0 := h.reads ((Below.refl w.heap.size w).alloc (Nat.le_refl _) (.cells #[.pointer (some ⟨S.B.kb, 0, none⟩)] 36))
  have cj := kc0 (B := S.B) k0 rfl
  rw [P.n] at cj
  have c00 : (w.alloc (.cells #[.pointer (some ⟨S.B.kb, 0, none⟩)] 36)).cell? ⟨w.heap.size, 0, none⟩ = some (.pointer (some ⟨S.B.kb, 0, none⟩)) := has_cell 0 (heap_alloc_new w _) rfl
  have HP := Lib.hid P
  clear h P hbx
  refine wpIn_wide.2 ?_
  go_wp2_with (first
    | (go_at_call 111; refine (Inh.new_c _ S.B.n n1 n16).mono ?_; rintro e w1 ⟨rfl, x1, b1, z1⟩; have k1 := k0.reads b1; have bx := below_has b1 (heap_alloc_new w (.cells #[.pointer (some ⟨S.B.kb, 0, none⟩)] 36)); have c0 : w1.cell? ⟨w.heap.size, 0, none⟩ = some (.pointer (some ⟨S.B.kb, 0, none⟩)) := has_cell 0 bx rfl; have hr72 := k1.tpr; have HB1 := Lib.hid (((Below.refl w.heap.size w).alloc (Nat.le_refl _) (.cells #[.pointer (some ⟨S.B.kb, 0, none⟩)] 36)).trans (b1.mono (by simp))); clear b1 cj k0)
    | (refine wpList_load_mid rfl 72 (.tmp 27) rfl S.B.kb 10 rfl S.tps _ hr72 Tryz.underlying72 rfl (by kernel_rfl) ?_))
  rw [World.size_alloc] at x1
  clear hr72 c0 c00
  have H1 : GrW w w1 S f (w.heap.size + 1) 0 := ⟨HB1.out, bx, Inh.newG S.B.n, x1, Inh.newG_ok n1 n16, rfl, fun p t hp => absurd hp (Nat.not_lt_zero _), rfl, rfl⟩
  clear x1 z1 k1 bx HB1
  have hsz : w.heap.size + 1 < w1.heap.size := by obtain ⟨G, hG, _⟩ := H1.g; exact has_lt hG
  go_loopw [29] (fun i wr => ∃ j : Nat, i = .int .i64 j ∧ j ≤ 16 ∧ GrW w wr S f (w.heap.size + 1) j) (fun i _ => 16 - (intOf i).toNat)
  case atStart => exact ⟨0, rfl, by omega, H1⟩
  case round =>
    clear H1
    obtain ⟨j, rfl, hj, GW⟩ := hrel
    by_cases hlt : j < 16
    · have hix := run_index_72 S.tps j _ rfl hlt (S.tps_get hlt) wr
      have htp := HP.out.tp j hlt
      cases hth : S.th j with
      | none =>
        rw [hth, Option.map_none] at htp
        rw [htp] at hix
        have HG := Lib.hid GW
        have HTH := Lib.hid hth
        clear htp hth GW
        go_wp2_with fail
        go_roundw
        case rel => exact ⟨j + 1, by go_num, by omega, HG.out.below, HG.out.box, by
          obtain ⟨G, g1, g2, g3, g4, g5⟩ := HG.out.g
          exact ⟨G, g1, g2, g3, fun p t hp hp16 ht he => by
            by_cases e : p = j
            · subst e; rw [HTH.out] at ht; cases ht
            · exact g4 p t (by omega) hp16 ht he, g5⟩⟩
        case measure => simp [intOf]; omega
      | some t =>
        rw [hth, Option.map_some] at htp
        rw [htp] at hix
        have hT : wr.heap[t.b]? = some (thO j t) := (HK.out.reads GW.below).getTh hlt hth
        have c20 := tc20 hT
        cases hen : t.en with
        | true =>
          rw [hen] at c20
          have HG := Lib.hid GW
          have HTH := Lib.hid hth
          have HEN := Lib.hid hen
          clear htp hth GW hen hT
          go_wp2_with fail
          go_roundw
          case rel => exact ⟨j + 1, by go_num, by omega, HG.out.below, HG.out.box, by
            obtain ⟨G, g1, g2, g3, g4, g5⟩ := HG.out.g
            exact ⟨G, g1, g2, g3, fun p x hp hp16 hx he => by
              by_cases e : p = j
              · subst e; rw [HTH.out] at hx; cases hx; rw [HEN.out] at he; cases he
              · exact g4 p x (by omega) hp16 hx he, g5⟩⟩
          case measure => simp [intOf]; omega
        | false =>
          rw [hen] at c20
          obtain ⟨G, g1, g2, g3, g4, g5, g6⟩ := GW.g
          have A := hf wr j t (HK.out.reads GW.below) hlt hth hen
          have jn := HP.out.thn j t hth
          have hfr := hr j t hlt hth hen
          have Bc := Inh.base_c wr (w.heap.size + 1) G j (f j) g1 g2 (by rw [g3]; exact jn) hfr
          have d : (t.wt.kind == 2) = false := by simpa using hk j t hth
          have j0 : (0 : Int) ≤ j := by omega
          have j1 : (j : Int) < 16 := by omega
          have HG := Lib.hid GW
          have HTH := Lib.hid hth
          have HJN := Lib.hid jn
          have HFR := Lib.hid hfr
          have HG2 := Lib.hid g2
          have HG3 := Lib.hid g3
          have HG4 := Lib.hid g4
          have HG5 := Lib.hid g5
          have HG6 := Lib.hid g6
          clear htp hth GW hen hT jn hfr g1 g2 g3 g4 g5 g6
          go_wp2_with (first
            | (go_at_call 49; refine A.mono ?_; rintro e w' ⟨rfl, rfl⟩)
            | (go_at_call 112; refine Bc.mono ?_; rintro e w2 ⟨rfl, u2⟩; have B2 := HG.out.below.trans (u2.below (B := w.heap.size) (by omega) HG.out.below.size); have c23 := tc23 ((HK.out.reads B2).getTh hlt HTH.out); have HU := Lib.hid u2; have HB2 := Lib.hid B2; clear u2 B2))
          go_roundw
          case rel =>
            refine ⟨j + 1, by go_num, by omega, HB2.out, HU.out.other HG.out.box (by omega), { G with ba := Inh.upd G.ba j (f j) }, HU.out.1, ?_, HG3.out, fun p x hp hp16 hx he => ?_, HG5.out, HG6.out⟩
            · have k := HG2.out
              exact ⟨k.n1, k.n2, fun i hi => by
                show 0 ≤ (if i = j then f j else G.ba i) ∧ (if i = j then f j else G.ba i) ≤ 31
                split
                · exact HFR.out
                · exact k.ba i hi, k.ce, k.wt, fun i h1 h2 => by
                have q := k.out i h1 h2
                have hij : i ≠ j := by
                  have h1' : G.n ≤ i := h1
                  rw [HG3.out] at h1'
                  have := HJN.out
                  omega
                exact ⟨by show (if i = j then f j else G.ba i) = 0; rw [if_neg hij]; exact q.1, q.2⟩⟩
            · show (if p = j then f j else G.ba p) = f p
              by_cases e : p = j
              · rw [if_pos e, e]
              · rw [if_neg e]
                exact HG4.out p x (by omega) hp16 hx he
          case measure => simp [intOf]; omega
    · obtain rfl : j = 16 := by omega
      obtain ⟨G, g1, g2, g3, g4, g5, g6⟩ := GW.g
      have hbx := GW.box
      have B1 := GW.below
      have szr : w.heap.size + 1 < wr.heap.size := has_lt g1
      go_upto_region 13 with fail
      refine world_wp (fun W => GrE w W S (w.heap.size + 1) wr.heap.size G ∧ wr.heap.size < W.heap.size) ⟨⟨B1.alloc B1.size _, below_alloc_has hbx, below_alloc_has g1, heap_alloc_new wr _⟩, by simp⟩ ?_
      rintro wa ⟨GE, sza⟩
      obtain ⟨cb, hcb⟩ : ∃ cb, cb = wr.heap.size := ⟨_, rfl⟩
      rw [← hcb] at GE sza szr ⊢
      clear hcb
      have ka := HK.out.reads GE.below
      have ca : wa.cell? ⟨w.heap.size, 0, none⟩ = some (.pointer (some ⟨S.B.kb, 0, none⟩)) := has_cell 0 GE.box rfl
      have c63 := kc63 (B := S.B) ka rfl
      have cmt : wa.cell? ⟨S.B.mu, 0, none⟩ = some (.pointer (some ⟨S.B.mub, 0, none⟩)) := has_cell 0 (ka.has 9 rfl) rfl
      have HE := Lib.hid GE
      have HG2 := Lib.hid g2
      have HG3 := Lib.hid g3
      have HG4 := Lib.hid g4
      have HG5 := Lib.hid g5
      have HG6 := Lib.hid g6
      clear GE GW g1 g2 g3 g4 g5 g6 hbx B1 hr hk hf hlt hj
      go_wp2_with (go_at_call 109; refine (Tab.all_c _ _).mono ?_; rintro e w6 ⟨rfl, x6, b6⟩; have k6 := ka.reads b6; have G6 : GrE w w6 S (w.heap.size + 1) cb G := ⟨HE.out.below.trans (b6.mono HE.out.below.size), below_has b6 HE.out.box, below_has b6 HE.out.g, below_has b6 HE.out.cs⟩; clear ka ca c63 cmt b6)
      have sz6 : wa.heap.size < w6.heap.size := has_lt x6
      refine (wpIn_wide (n := 4)).1 ?_
      refine named ?_
      intro fa hfa
      refine wpIn_rangeFunc_ownF rfl (by decide) (gf := 178) (lb := #[.pointer (some ⟨wa.heap.size, 0, none⟩)]) (by rw [hfa]; rfl) trivial Tab.enters178
        (Tab.all_free 3 (by decide) S.B.mub wa.heap.size S.muT w6 (k6.has 10 rfl) x6 HP.out.mu1 HP.out.mu2 (fun i => ⟨(HP.out.mug i).1, by have := (HP.out.mug i).2; omega⟩) hm) (fun _ _ => trivial) (fun _ _ _ _ _ _ _ _ => trivial) (Below.refl _ _) (fun _ => rfl)
        (fun (_ : List (Nat × Int)) W => GrE w W S (w.heap.size + 1) cb G) (fun _ _ _ => False)
        (fun _ X Y row hs hg hr => ⟨ownFrom_below (β := Unit) (n₀ := w.heap.size) (B := w6.heap.size) (w₀ := w) (Nat.le_refl _) (by omega) () X Y row hs.below hg hr, Tab.own_has (β := Unit) (B := w6.heap.size) (by omega) (fun _ => _) () X Y row hs.box hg hr, Tab.own_has (β := Unit) (B := w6.heap.size) (by omega) (fun _ => _) () X Y row hs.g hg hr, Tab.own_has (β := Unit) (B := w6.heap.size) (by omega) (fun _ => _) () X Y row hs.cs hg hr⟩) (fun _ => Tab.own_pure _) G6
        (fun x => { tmps := ((fa.tmps.setIfInBounds 83 (.int .i64 x.1)).setIfInBounds 84 (.int .i64 x.2)).setIfInBounds 11 (.int .i64 x.2), defers := [] })
        ?assign ?body ?done ?stop
      case assign =>
        intro l x W K hK
        subst hfa
        simp only [Tab.encH, Tab.zip2, Tab.fold2, List.setIfInBounds_toArray, List.set_cons_succ, List.set_cons_zero] at hK ⊢
        gi_wp2
        exact hK
      case body =>
        intro l pre x W _ hlen
        exact absurd hlen (Nat.not_lt_zero _)
      case stop =>
        rintro D c pre W _ h _ _
        exact h.elim
      case done =>
        rintro D ys W hD rfl hS hK
        subst hfa
        have kW := HK.out.reads hS.below
        have cW : W.cell? ⟨w.heap.size, 0, none⟩ = some (.pointer (some ⟨S.B.kb, 0, none⟩)) := has_cell 0 hS.box rfl
        have cj := kc0 (B := S.B) kW rfl
        rw [HP.out.n] at cj
        have HS := Lib.hid hS
        have HM := Lib.hid hK
        clear hS hK kW hm
        go_wp2_with fail
        clear cW cj
        go_loopw [119] (fun i wl => ∃ j : Nat, i = .int .i64 j ∧ j ≤ S.B.n ∧ GrE w wl S (w.heap.size + 1) cb G ∧ wl.heap[D]? = some (.deferred (some []))) (fun i _ => S.B.n - (intOf i).toNat)
        case atStart => exact ⟨0, rfl, by omega, HS.out, HM.out⟩
        case round =>
          obtain ⟨j, rfl, hj, E1, M1⟩ := hrel
          by_cases hlt : j < S.B.n
          · have cc : wr.cell? ⟨cb, j, none⟩ = some (.int .i64 0) := has_cell j E1.cs (by rw [List.getElem?_toArray, List.getElem?_replicate, if_pos (by omega)])
            have A := Inh.ceil_c wr (w.heap.size + 1) G j 0 E1.g HG2.out (by rw [HG3.out]; exact hlt) ⟨by omega, by omega⟩
            rw [show ({ G with ce := Inh.upd G.ce j 0 } : Inh.Gs) = G by
              have e : Inh.upd G.ce j 0 = G.ce := by
                rw [HG6.out]
                funext k
                unfold Inh.upd
                split <;> rfl
              rw [e]] at A
            have j0 : (0 : Int) ≤ j := by omega
            have j1 : (j : Int) < 16 := by omega
            have HE1 := Lib.hid E1
            have HM1 := Lib.hid M1
            clear E1 M1
            go_wp2_with (go_at_call 117; refine A.mono ?_; rintro e w2 ⟨rfl, u2⟩; have HU := Lib.hid u2; clear u2)
            go_roundw
            case rel => exact ⟨j + 1, by go_num, by omega, ⟨HE1.out.below.trans (HU.out.below (B := w.heap.size) (by omega) HE1.out.below.size), HU.out.other HE1.out.box (by omega), HU.out.1, HU.out.other HE1.out.cs (by omega)⟩, HU.out.other HM1.out (by omega)⟩
            case measure => simp [intOf]; omega
          · obtain rfl : j = S.B.n := by omega
            have HE1 := Lib.hid E1
            have HM1 := Lib.hid M1
            clear E1 M1
            go_wp2_with fail
            refine ⟨by simp, .inl ⟨_, _, rfl, run_takeDeferred HM1.out, ?_⟩⟩
            refine ⟨_, results_tmp rfl _ _ _, w.heap.size + 1, rfl, ?_⟩
            have Bm := Tab.below_mark HE1.out.below (by omega) HM1.out (.deferred none)
            exact ⟨Bm, (World.putObj_heap_other (by omega)).trans HE1.out.box, G, (World.putObj_heap_other (by omega)).trans HE1.out.g, HG2.out, HG3.out, HG4.out, HG5.out, HG6.out⟩
end Go.Proofs.YtagmlijhgncklaaGreatDoor.Ker
namespace Go.Proofs.YtagmlijhgncklaaGreatDoor.Ker
open Go.RowKit Go.Proofs.YtagmlijhgncklaaGreatDoor

theorem least_alone {n : Nat} {own l : Nat → Int} (h : Inh.Least n own (fun _ => -1) l) (t : Nat) (ht : t < n) : l t = own t :=
  Inh.least_unique h ⟨⟨fun _ _ => Int.le_refl _, fun t w _ hw => by simp [Inh.nxt] at hw⟩, Inh.low_own⟩ t ht
theorem GrW.reads {w W W' : World} {S : KS} {f : Nat → Int} {g i : Nat} (h : GrW w W S f g i) (k : Below W.heap.size W W') : GrW w W' S f g i := by
  obtain ⟨G, g1, g2⟩ := h.g
  exact ⟨h.below.trans (k.mono h.below.size), below_has k h.box, G, below_has k g1, g2⟩
set_option maxRecDepth 100000 in
set_option maxHeartbeats 1000000 in
theorem settle_c (w : World) (S : KS) {B : KB} (hB : S.B = B) (h : KW w S) (P : KP S) (f : Nat → Int) (hf : PrioOk S f) (hr : ∀ p t, p < 16 → S.th p = some t → t.en = false → 0 ≤ f p ∧ f p ≤ 31) (hk : ∀ p t, S.th p = some t → t.wt.kind ≠ 2) (hm : ∀ i, Tab.tk S.muT i = false) (he : ∀ p t, p < 16 → S.th p = some t → t.en = false → f p = t.eff) :
    Calls Tryz.prog 42 #[.pointer (some ⟨B.kb, 0, none⟩)] w fun e w' => e = .returned (.tuple #[]) ∧ Below w.heap.size w w' := by
  subst hB
  have A := graph_c w S rfl h P f hf hr hk hm
  have HK := Lib.hid h
  have HP := Lib.hid P
  clear h P hf hr hk hm
  go_enter Tryz.func42, Tryz.ntmps42
  go_wp2_with fail
  go_step3
  go_wp2_with fail
  go_step3
  go_wp2_with fail
  refine wp_loop_rounds 1 ?_
  rw [rounds_succ]
  go_wp2_with (first | (go_at_call 69; refine A.mono ?_; rintro e w2 ⟨g, rfl, GW⟩; have hr72 := (HK.out.reads GW.below).tpr; have HG := Lib.hid GW; clear GW) | (refine wpList_load_mid rfl 72 (.tmp 12) rfl S.B.kb 10 rfl S.tps _ hr72 Tryz.underlying72 rfl (by kernel_rfl) ?_))
  clear hr72 A
  go_loopw [3, 14] (fun c i wr => ∃ j : Nat, c = .bool false ∧ i = .int .i64 j ∧ j ≤ 16 ∧ GrW w wr S f g 16) (fun _ i _ => 16 - (intOf i).toNat)
  case atStart => exact ⟨0, rfl, rfl, by omega, HG.out⟩
  case round =>
    clear HG
    obtain ⟨j, rfl, rfl, hj, GW⟩ := hrel
    by_cases hlt : j < 16
    · have hix := run_index_72 S.tps j _ rfl hlt (S.tps_get hlt) wr
      have htp := HP.out.tp j hlt
      have HG := Lib.hid GW
      cases hth : S.th j with
      | none =>
        rw [hth, Option.map_none] at htp
        rw [htp] at hix
        clear htp hth GW he
        go_wp2_with fail
        go_roundw
        case rel => exact ⟨j + 1, rfl, by go_num, by omega, HG.out⟩
        case measure => simp [intOf]; omega
      | some t =>
        rw [hth, Option.map_some] at htp
        rw [htp] at hix
        have hT : wr.heap[t.b]? = some (thO j t) := (HK.out.reads GW.below).getTh hlt hth
        have c20 := tc20 hT
        cases hen : t.en with
        | true =>
          rw [hen] at c20
          clear htp hth GW hen hT he
          go_wp2_with fail
          go_roundw
          case rel => exact ⟨j + 1, rfl, by go_num, by omega, HG.out⟩
          case measure => simp [intOf]; omega
        | false =>
          rw [hen] at c20
          obtain ⟨G, g1, g2, g3, g4, g5, g6⟩ := GW.g
          have jn := HP.out.thn j t hth
          have O := Inh.of_c wr g G j g1 g2 (by rw [g3]; exact jn)
          have hown : ∀ out, Inh.Least G.n G.own G.wt out → out j = t.eff := fun out hl => by
            rw [g5] at hl
            rw [least_alone hl j (by rw [g3]; exact jn)]
            show max (G.ba j) (G.ce j) = t.eff
            have q := (g2.ba j hlt).1
            rw [g6, g4 j t hlt hlt hth hen] at *
            rw [he j t hlt hth hen] at *
            exact Int.max_eq_left q
          have HO := Lib.hid hown
          have HTH := Lib.hid hth
          have j0 : (0 : Int) ≤ j := by omega
          have j1 : (j : Int) < 16 := by omega
          clear htp hth GW hen hT he g1 g2 g3 g4 g5 g6 jn hown
          go_wp2_with (go_at_call 70; refine O.mono ?_; rintro e w3 ⟨out, rfl, hl, b3⟩; have ho := HO.out out hl; rw [ho]; have c17 := tc17 ((HK.out.reads (HG.out.below.trans (b3.mono HG.out.below.size))).getTh hlt HTH.out); have HB3 := Lib.hid b3; clear hl ho b3)
          go_roundw
          case rel => exact ⟨j + 1, rfl, by go_num, by omega, HG.out.reads HB3.out⟩
          case measure => simp [intOf]; omega
    · obtain rfl : j = 16 := by omega
      have HG := Lib.hid GW
      clear GW he
      go_wp2_with fail
      rw [Exit.noGoto_normal]
      exact bodyPost_end (results_none rfl _ _ _) rfl ⟨rfl, HG.out.below⟩
end Go.Proofs.YtagmlijhgncklaaGreatDoor.Ker
namespace Go.Proofs.YtagmlijhgncklaaGreatDoor.Ker
open Go.RowKit Go.Proofs.YtagmlijhgncklaaGreatDoor

attribute [local go_sem] Oper.semAt_some
attribute [local go_sem] Tab.wide_fn Tab.wide_round_fn

/-- What holds while a thread's end goes over what it may hold. -/
structure EndW (w W : World) (S : KS) (p : Nat) (D : List Nat) : Prop where
  below : Below w.heap.size w W
  b0 : W.heap[w.heap.size]? = some (.cells #[.pointer (some ⟨S.B.kb, 0, none⟩)] 36 (0, 0))
  b1 : W.heap[w.heap.size + 1]? = some (.cells #[.int .i64 p] 3 (0, 0))
  sz : w.heap.size + 1 < W.heap.size
  ds : ∀ d ∈ D, w.heap.size + 1 < d ∧ W.heap[d]? = some (.deferred (some []))
theorem EndW.reads {w W W' : World} {S : KS} {p : Nat} {D : List Nat} (h : EndW w W S p D) (k : Below W.heap.size W W') : EndW w W' S p D :=
  ⟨h.below.trans (k.mono h.below.size), below_has k h.b0, below_has k h.b1, Nat.lt_of_lt_of_le h.sz k.size, fun d hd => ⟨(h.ds d hd).1, below_has k (h.ds d hd).2⟩⟩
theorem EndW.own {w w6 : World} {S : KS} {p : Nat} {D : List Nat} (hs : w.heap.size + 1 < w6.heap.size) (hd : ∀ d ∈ D, d < w6.heap.size) : OwnFrom w6.heap.size (fun (_ : List (Nat × Int)) W => EndW w W S p D) :=
  fun _ X Y row h hg hr => ⟨ownFrom_below (β := Unit) (n₀ := w.heap.size) (B := w6.heap.size) (w₀ := w) (Nat.le_refl _) (by omega) () X Y row h.below hg hr, Tab.own_has (β := Unit) (B := w6.heap.size) (by omega) (fun _ => _) () X Y row h.b0 hg hr, Tab.own_has (β := Unit) (B := w6.heap.size) (by omega) (fun _ => _) () X Y row h.b1 hg hr,
    Nat.lt_of_lt_of_le h.sz hg.size, fun d hdD => ⟨(h.ds d hdD).1, Tab.own_has (β := Unit) (B := w6.heap.size) (hd d hdD) (fun _ => _) () X Y row (h.ds d hdD).2 hg hr⟩⟩
/-- .. and what holds when it leaves its sequences. -/
structure EndV (w W : World) (S S' : KS) (p : Nat) (D : List Nat) : Prop where
  k : KW W S'
  fr : Fr S S' w W
  b0 : Out W S' w.heap.size (.cells #[.pointer (some ⟨S.B.kb, 0, none⟩)] 36 (0, 0))
  b1 : Out W S' (w.heap.size + 1) (.cells #[.int .i64 p] 3 (0, 0))
  ds : ∀ d ∈ D, w.heap.size + 1 < d ∧ Out W S' d (.deferred (some []))
theorem EndW.v {w W : World} {S : KS} {p : Nat} {D : List Nat} (h : EndW w W S p D) (k : KW w S) : EndV w W S S p D :=
  ⟨k.reads h.below, Fr.reads S h.below, ⟨h.b0, k.fresh _ (Nat.le_refl _)⟩, ⟨h.b1, k.fresh _ (by omega)⟩, fun d hd => ⟨(h.ds d hd).1, (h.ds d hd).2, k.fresh _ (by have := (h.ds d hd).1; omega)⟩⟩
theorem EndV.step {w W W' : World} {S S' S2 : KS} {p : Nat} {D : List Nat} (h : EndV w W S S' p D) (k : KW W' S2) (f : Fr S' S2 W W') : EndV w W' S S2 p D :=
  ⟨k, h.fr.trans f, h.b0.fr f, h.b1.fr f, fun d hd => ⟨(h.ds d hd).1, (h.ds d hd).2.fr f⟩⟩
theorem EndV.drew {w W : World} {S S' : KS} {p : Nat} {D : List Nat} (h : EndV w W S S' p D) : EndV w W.drew S S' p D :=
  ⟨h.k.keeps (Nat.le_refl _) (fun _ _ _ => rfl), h.fr.drew, h.b0, h.b1, h.ds⟩
theorem EndV.mark {w W : World} {S S' : KS} {p d : Nat} {D : List Nat} (h : EndV w W S S' p (d :: D)) (hn : ∀ x ∈ D, x ≠ d) : EndV w (W.putObj d (.deferred none)) S S' p D := by
  have q := h.ds d (List.mem_cons_self ..)
  have g := grownBy_putObj' W d (.deferred none)
  have hw := h.fr.size
  refine ⟨h.k.keeps g.size (fun b _ hl => World.putObj_heap_other (by intro e; rw [e] at hl; exact hl q.2.2)), ⟨g.os.trans h.fr.os, g.tape.trans h.fr.tape, g.output.trans h.fr.output, Nat.le_trans h.fr.size g.size, fun k hk hl => (World.putObj_heap_other (by omega)).trans (h.fr.block k hk hl), h.fr.lab⟩,
    ⟨(World.putObj_heap_other (by omega)).trans h.b0.1, h.b0.2⟩, ⟨(World.putObj_heap_other (by omega)).trans h.b1.1, h.b1.2⟩, fun x hx => ?_⟩
  have r := h.ds x (List.mem_cons_of_mem _ hx)
  exact ⟨r.1, (World.putObj_heap_other (hn x hx)).trans r.2.1, r.2.2⟩
theorem info88 : (Tryz.prog.info? 88).map (fun i => (i.zero, i.size, i.bytes)) = some (some (.pointer none), 1, 8) := by kernel_rfl
theorem run_index_89 (l : List Value) (k : Nat) (v : Value) (hl : l.length = 8) (hk : k < 8) (hv : l[k]? = some v) (w : World) : (Instr.index 89 (.agg l.toArray) (.int .i64 k)).run Tryz.prog w = .ok v w := by
  have h1 : (0 : Int) ≤ k ∧ (k : Int) < 8 := by omega
  obtain ⟨i, hi, hz0, hz1, hz2⟩ := info_parts info88
  simp [Instr.index, run_underlying Tryz.underlying89, asIntOf, h1, go_sem, sizeOf, typeInfo, hi, hz1, hk, hl]
  exact Option.some.inj (by rw [← List.getElem?_eq_getElem]; exact hv)
def KS.ons (S : KS) : List Value := [.pointer (some ⟨S.B.on 0, 0, none⟩), .pointer (some ⟨S.B.on 1, 0, none⟩), .pointer (some ⟨S.B.on 2, 0, none⟩), .pointer (some ⟨S.B.on 3, 0, none⟩), .pointer (some ⟨S.B.on 4, 0, none⟩), .pointer (some ⟨S.B.on 5, 0, none⟩), .pointer (some ⟨S.B.on 6, 0, none⟩), .pointer (some ⟨S.B.on 7, 0, none⟩)]
theorem KS.ons_get (S : KS) {p : Nat} (hp : p < 8) : S.ons[p]? = some (.pointer (some ⟨S.B.on p, 0, none⟩)) := by
  match p, hp with
  | 0, _ => rfl | 1, _ => rfl | 2, _ => rfl | 3, _ => rfl | 4, _ => rfl | 5, _ => rfl | 6, _ => rfl | 7, _ => rfl | _ + 8, h => exact absurd h (by omega)
theorem KW.onr {w : World} {S : KS} (h : KW w S) : w.rangeAt S.B.kb 72 S.ons := by
  refine has_range (h.has 0 rfl) _ 72 ?_
  intro j hj
  have hj : j < 8 := hj
  match j, hj with
  | 0, _ => rfl | 1, _ => rfl | 2, _ => rfl | 3, _ => rfl | 4, _ => rfl | 5, _ => rfl | 6, _ => rfl | 7, _ => rfl | _ + 8, h => exact absurd h (by omega)
theorem tk_replicate (m : Nat) : ∀ i, Tab.tk (List.replicate m (false, 0)) i = false := fun i => by
  unfold Tab.tk
  rw [List.getD_eq_getElem?_getD, List.getElem?_replicate]
  split <;> rfl
theorem gn_replicate (m : Nat) : Tab.genOk (List.replicate m (false, 0)) 1000 := fun i => by
  unfold Tab.gn
  rw [List.getD_eq_getElem?_getD, List.getElem?_replicate]
  split <;> simp
/-- The kernel behind the end of a thread which is joinable and not joined. -/
def KS.ended (S : KS) (p : Nat) (t : Th) : KS := { S with L := S.L.set p Hs.no, R := S.R.remF p, st := S.st + 2, kx := Key.clearF S.kx p, th := put S.th p (some { t with en := true }) }
set_option maxRecDepth 100000 in
set_option maxHeartbeats 2000000 in
theorem end_stays (w : World) (S : KS) {B : KB} (hB : S.B = B) (h : KW w S) (P : KP S) (p p0 : Nat) (t : Th) (hp : p < 16) (ht : S.th p = some t) (hpol : t.pol ≠ 2) (hm : ∀ i, Tab.tk S.muT i = false) (hjn : t.jn = true) (hjr : t.jr < 0)
    (hin : (S.L.getD p Hs.no).isIn = true) (hq1 : 1 ≤ p0) (hq : p0 < 32) (hz : S.R.pr.getD p 0 = p0) (hv : Lk (S.R.pv.getD p 0)) (hn : Lk (S.R.nx.getD p 0)) (hs0 : 0 ≤ S.st) (hs1 : S.st ≤ 700000000) :
    Calls Tryz.prog 204 #[.pointer (some ⟨B.kb, 0, none⟩), .pointer (some ⟨t.b, 0, none⟩)] w fun e w' => e = .returned (.tuple #[]) ∧ KW w' (S.ended p t) ∧ Fr S (S.ended p t) w w' := by
  subst hB
  have HK := Lib.hid h
  have HP := Lib.hid P
  obtain ⟨wb, hwb⟩ : ∃ wb, wb = (w.alloc (.cells #[.pointer (some ⟨S.B.kb, 0, none⟩)] 36)).alloc (.cells #[.int .i64 p] 3) := ⟨_, rfl⟩
  have E0 : EndW w wb S p [] := by
    rw [hwb]
    exact ⟨((Below.refl w.heap.size w).alloc (Nat.le_refl _) _).alloc (by simp) _, below_alloc_has (heap_alloc_new w _), by have q := heap_alloc_new (w.alloc (.cells #[.pointer (some ⟨S.B.kb, 0, none⟩)] 36)) (.cells #[.int .i64 p] 3); rw [World.size_alloc] at q; exact q, by simp, fun d hd => by cases hd⟩
  have hT0 : (w.alloc (.cells #[.pointer (some ⟨S.B.kb, 0, none⟩)] 36)).heap[t.b]? = some (thO p t) := below_alloc_has (h.getTh hp ht)
  have c0 := tc0 hT0
  clear h P hT0
  refine Tab.calls_of_marks 4 Tryz.func204 rfl ?_
  simp only [Tryz.ntmps204, List.size_toArray, List.length_cons, List.length_nil, Nat.reduceAdd, Nat.reduceSub, Array.replicate_succ, Array.replicate_zero, List.push_toArray, List.append_toArray, List.nil_append, List.cons_append]
  refine wpIn_wide.2 ?_
  go_upto_region 2 with fail
  rw [← hwb]
  clear hwb c0
  have kb := HK.out.reads E0.below
  have ca : wb.cell? ⟨w.heap.size, 0, none⟩ = some (.pointer (some ⟨S.B.kb, 0, none⟩)) := has_cell 0 E0.b0 rfl
  have c63 := kc63 (B := S.B) kb rfl
  have cmt : wb.cell? ⟨S.B.mu, 0, none⟩ = some (.pointer (some ⟨S.B.mub, 0, none⟩)) := has_cell 0 (kb.has 9 rfl) rfl
  have HE0 := Lib.hid E0
  have HT := Lib.hid ht
  have HPOL := Lib.hid hpol
  have HM := Lib.hid hm
  have HJN := Lib.hid hjn
  have HJR := Lib.hid hjr
  have HIN := Lib.hid hin
  have HQ := Lib.hid (And.intro hq1 hq)
  have HZ := Lib.hid hz
  have HV := Lib.hid hv
  have HN := Lib.hid hn
  have HS0 := Lib.hid (And.intro hs0 hs1)
  clear E0 ht hpol hm hjn hjr hin hq1 hq hz hv hn hs0 hs1
  go_wp2_with (go_at_call 109; refine (Tab.all_c _ _).mono ?_; rintro e w6 ⟨rfl, x6, b6⟩; have k6 := kb.reads b6; have E6 := HE0.out.reads b6; clear kb ca c63 cmt b6)
  have sz6 : wb.heap.size < w6.heap.size := has_lt x6
  have szb := HE0.out.sz
  refine (wpIn_wide (n := 4)).1 ?_
  refine named ?_
  intro fa hfa
  refine wpIn_rangeFunc_ownF rfl (by decide) (gf := 178) (lb := #[.pointer (some ⟨wb.heap.size, 0, none⟩)]) (by rw [hfa]; rfl) trivial Tab.enters178
    (Tab.all_free 3 (by decide) S.B.mub wb.heap.size S.muT w6 (k6.has 10 rfl) x6 HP.out.mu1 HP.out.mu2 (fun i => ⟨(HP.out.mug i).1, by have := (HP.out.mug i).2; omega⟩) HM.out) (fun _ _ => trivial) (fun _ _ _ _ _ _ _ _ => trivial) (Below.refl _ _) (fun _ => rfl)
    (fun (_ : List (Nat × Int)) W => EndW w W S p []) (fun _ _ _ => False)
    (EndW.own (by omega) (fun d hd => by cases hd)) (fun _ => Tab.own_pure _) E6
    (fun x => { tmps := ((fa.tmps.setIfInBounds 33 (.int .i64 x.1)).setIfInBounds 34 (.int .i64 x.2)).setIfInBounds 6 (.int .i64 x.2), defers := [] })
    ?assign ?body ?done ?stop
  case assign =>
    intro l x W K hK
    subst hfa
    simp only [Tab.encH, Tab.zip2, Tab.fold2, List.setIfInBounds_toArray, List.set_cons_succ, List.set_cons_zero] at hK ⊢
    gi_wp2
    exact hK
  case body =>
    intro l pre x W _ hlen
    exact absurd hlen (Nat.not_lt_zero _)
  case stop =>
    rintro D c pre W _ h _ _
    exact h.elim
  case done =>
    rintro D1 ys W1 hD1 rfl hS1 hK1
    subst hfa
    have E1 : EndW w W1 S p [D1] := ⟨hS1.below, hS1.b0, hS1.b1, hS1.sz, fun d hd => by rw [List.mem_singleton] at hd; subst hd; exact ⟨by omega, hK1⟩⟩
    have k1 := HK.out.reads hS1.below
    have c1 : W1.cell? ⟨w.heap.size, 0, none⟩ = some (.pointer (some ⟨S.B.kb, 0, none⟩)) := has_cell 0 hS1.b0 rfl
    have c67 := kc67 (B := S.B) k1 rfl
    have crt : W1.cell? ⟨S.B.rw, 0, none⟩ = some (.pointer (some ⟨S.B.rwt, 0, none⟩)) := has_cell 0 (k1.cs _ _ HP.out.rw_).1 rfl
    have HE1 := Lib.hid E1
    clear E1 hS1 hK1 k6 E6 x6
    go_wp2_with (go_at_call 109; refine (Tab.all_c _ _).mono ?_; rintro e w7 ⟨rfl, x7, b7⟩; have k7 := k1.reads b7; have E7 := HE1.out.reads b7; clear k1 c1 c67 crt b7)
    have sz7 : W1.heap.size < w7.heap.size := has_lt x7
    have sz1 := HE1.out.sz
    have sd1 := has_lt (HE1.out.ds D1 (List.mem_singleton.2 rfl)).2
    obtain ⟨m, m1, m16, hmt⟩ := HP.out.rwt
    refine (wpIn_wide (n := 4)).1 ?_
    refine named ?_
    intro fa hfa
    refine wpIn_rangeFunc_ownF rfl (by decide) (gf := 178) (lb := #[.pointer (some ⟨W1.heap.size, 0, none⟩)]) (by rw [hfa]; rfl) trivial Tab.enters178
      (Tab.all_free 3 (by decide) S.B.rwt W1.heap.size (List.replicate m (false, 0)) w7 (k7.cs _ _ hmt).1 x7 (by simpa using m1) (by simpa using m16) (gn_replicate m) (tk_replicate m)) (fun _ _ => trivial) (fun _ _ _ _ _ _ _ _ => trivial) (Below.refl _ _) (fun _ => rfl)
      (fun (_ : List (Nat × Int)) W => EndW w W S p [D1]) (fun _ _ _ => False)
      (EndW.own (by omega) (fun d hd => by rw [List.mem_singleton] at hd; omega)) (fun _ => Tab.own_pure _) E7
      (fun x => { tmps := ((fa.tmps.setIfInBounds 57 (.int .i64 x.1)).setIfInBounds 58 (.int .i64 x.2)).setIfInBounds 10 (.int .i64 x.2), defers := [] })
      ?assign ?body ?done ?stop
    case assign =>
      intro l x W K hK
      subst hfa
      simp only [Tab.encH, Tab.zip2, Tab.fold2, List.setIfInBounds_toArray, List.set_cons_succ, List.set_cons_zero] at hK ⊢
      gi_wp2
      exact hK
    case body =>
      intro l pre x W _ hlen
      exact absurd hlen (Nat.not_lt_zero _)
    case stop =>
      rintro D c pre W _ h _ _
      exact h.elim
    case done =>
      rintro D2 ys W2 hD2 rfl hS2 hK2
      subst hfa
      have E2 : EndW w W2 S p [D2, D1] := ⟨hS2.below, hS2.b0, hS2.b1, hS2.sz, fun d hd => by
        rcases List.mem_cons.1 hd with rfl | hd
        · exact ⟨by omega, hK2⟩
        · exact hS2.ds d hd⟩
      have hD21 : D2 ≠ D1 := by omega
      have k2 := HK.out.reads hS2.below
      have c2 : W2.cell? ⟨w.heap.size, 0, none⟩ = some (.pointer (some ⟨S.B.kb, 0, none⟩)) := has_cell 0 hS2.b0 rfl
      have hr89 := k2.onr
      have HE2 := Lib.hid E2
      clear E2 hS2 hK2 k7 E7 x7 k2 HE1 HE0
      go_wp2_with (refine wpList_load_mid rfl 89 (.tmp 81) rfl S.B.kb 72 rfl S.ons _ hr89 Tryz.underlying89 rfl (by kernel_rfl) ?_)
      clear hr89 c2
      go_loopw [83] (fun i wr => ∃ j : Nat, i = .int .i64 j ∧ j ≤ 8 ∧ EndW w wr S p [D2, D1]) (fun i _ => 8 - (intOf i).toNat)
      case atStart => exact ⟨0, rfl, by omega, HE2.out⟩
      case round =>
        obtain ⟨j, rfl, hj, E3⟩ := hrel
        by_cases hlt : j < 8
        · have hix := run_index_89 S.ons j _ rfl hlt (S.ons_get hlt) wr
          have A := Key.at_c wr (S.B.on j) ⟨0, 0⟩ ((HK.out.reads E3.below).cs _ _ (HP.out.on j hlt)).1
          have HE3 := Lib.hid E3
          clear E3
          go_wp2_with (go_at_call 339; refine A.mono ?_; rintro e w8 ⟨rfl, b8⟩; have HE4 := Lib.hid (HE3.out.reads b8); clear b8)
          go_roundw
          case rel => exact ⟨j + 1, by go_num, by omega, HE4.out⟩
          case measure => simp [intOf]; omega
        · obtain rfl : j = 8 := by omega
          have V := (E3.v HK.out).drew
          have c0 : wr.cell? ⟨w.heap.size, 0, none⟩ = some (.pointer (some ⟨S.B.kb, 0, none⟩)) := has_cell 0 E3.b0 rfl
          have c1 : wr.cell? ⟨w.heap.size + 1, 0, none⟩ = some (.int .i64 p) := has_cell 0 E3.b1 rfl
          have c26 := kc26 (B := S.B) (HK.out.reads E3.below) rfl
          have A := turns_leave wr.drew S.B.tb S.B.rb S.B.J.q S.L S.R S.st p p0 (V.k.tn HP.out.L HP.out.R) hp HIN.out HQ.out.1 HQ.out.2 HZ.out HV.out HN.out HS0.out.1 HS0.out.2
          obtain ⟨S1, hS1⟩ : ∃ S1 : KS, S1 = { S with L := S.L.set p Hs.no, R := S.R.remF p, st := S.st + 2 } := ⟨_, rfl⟩
          have K1 : ∀ W, Tn W S.B.tb S.B.rb S.B.J.q (S.L.set p Hs.no) (S.R.remF p) (S.st + 2) → Upd2 wr.drew S.B.tb S.B.rb W → EndV w W S S1 p [D2, D1] := fun W T u => by
            have q := V.k.turns T u
            rw [hS1]
            exact V.step q.1 q.2
          have hB1 : S1.B = S.B := by rw [hS1]
          have ht1 : S1.th p = some t := by rw [hS1]; exact HT.out
          have hx1 : S1.kx = S.kx := by rw [hS1]
          have HSE : S.ended p t = { S1 with kx := Key.clearF S.kx p, th := put S1.th p (some { t with en := true }) } := by rw [hS1]; rfl
          have HB1 := Lib.hid hB1
          have HT1 := Lib.hid ht1
          have HX1 := Lib.hid hx1
          have HSE := Lib.hid HSE
          clear E3 V hS1 hB1 ht1 hx1
          go_wp2_with fail
          refine still_tail 5 (by kernel_rfl) (by kernel_rfl) ?_
          simp only [List.take_succ_cons, List.take_zero, List.drop_succ_cons, List.drop_zero]
          repeat still_step
          refine wpStill_nil ?_
          have HC := fun W (V1 : EndV w W S S1 p [D2, D1]) => V1.k
          go_wp2_with (first
            | (go_at_call 340; refine A.mono ?_; rintro e w9 ⟨rfl, T9, u9⟩
               have V1 := K1 w9 T9 u9
               have c0' : w9.cell? ⟨w.heap.size, 0, none⟩ = some (.pointer (some ⟨S.B.kb, 0, none⟩)) := has_cell 0 V1.b0.1 rfl
               have c1' : w9.cell? ⟨w.heap.size + 1, 0, none⟩ = some (.int .i64 p) := has_cell 0 V1.b1.1 rfl
               have c30 := kc30 (B := S.B) V1.k HB1.out
               have hT9 := V1.k.getTh hp HT1.out
               have HV1 := Lib.hid V1
               clear c0 c1 c26 T9 u9 V1 A)
            | (go_at_call 341; refine (stops_c _ p t _ hT9 HPOL.out).mono ?_; rintro e w' ⟨rfl, rfl⟩))
          have pn := HP.out.thn p t HT.out
          have A2 := Go.Proofs.YtagmlijhgncklaaGreatDoor.clear_c w9.drew S.B.sg S.B.mb p S.B.J.t S.B.J.s (by have q := HV1.out.drew.k.has 7 rfl; rw [HB1.out] at q; exact q) hp (by rw [HP.out.n]; omega)
          refine still_tail 5 (by kernel_rfl) (by kernel_rfl) ?_
          simp only [List.take_succ_cons, List.take_zero, List.drop_succ_cons, List.drop_zero]
          repeat still_step
          refine wpStill_nil ?_
          go_wp2_with (go_at_call 342; refine A2.mono ?_; rintro e w10 ⟨rfl, u10⟩
                       have q10 := HV1.out.drew.k.same 7 (b := S.B.sg) (o := sgO S.B.J.t S.B.J.s S.B.mb) (by rw [← HB1.out]; rfl) u10
                       have V2 := HV1.out.drew.step q10.1 q10.2
                       have c0 : w10.cell? ⟨w.heap.size, 0, none⟩ = some (.pointer (some ⟨S.B.kb, 0, none⟩)) := has_cell 0 V2.b0.1 rfl
                       have c1 : w10.cell? ⟨w.heap.size + 1, 0, none⟩ = some (.int .i64 p) := has_cell 0 V2.b1.1 rfl
                       have c71 := kc71 (B := S.B) V2.k HB1.out
                       have HV2 := Lib.hid V2
                       clear c0' c1' c30 hT9 u10 q10 V2 A2)
          have A3 := Key.clear_c w10.drew S.B.ke S.kx p (by have q := HV2.out.drew.k.has 8 rfl; rw [HB1.out, HX1.out] at q; exact q) HP.out.kx hp
          refine still_tail 5 (by kernel_rfl) (by kernel_rfl) ?_
          simp only [List.take_succ_cons, List.take_zero, List.drop_succ_cons, List.drop_zero]
          repeat still_step
          refine wpStill_nil ?_
          obtain ⟨S2, hS2⟩ : ∃ S2 : KS, S2 = { S1 with kx := Key.clearF S.kx p } := ⟨_, rfl⟩
          have ht2 : S2.th p = some t := by rw [hS2]; exact HT1.out
          have K2 : ∀ W, Upd w10.drew S.B.ke (Key.kO (Key.clearF S.kx p)) W → EndV w W S S2 p [D2, D1] := fun W u => by
            have q := HV2.out.drew.k.keys (K := Key.clearF S.kx p) (by rw [HB1.out]; exact u)
            rw [hS2]
            exact HV2.out.drew.step q.1 q.2
          have HSE2 : S.ended p t = { S2 with th := put S2.th p (some { t with en := true }) } := by rw [HSE.out, hS2]
          have HT2 := Lib.hid ht2
          have HSE2 := Lib.hid HSE2
          have dj : decide (0 ≤ t.jr) = false := by have := HJR.out; simp; omega
          clear hS2 ht2
          go_wp2_with (go_at_call 343; refine A3.mono ?_; rintro e w11 ⟨rfl, u11⟩
                       have V3 := K2 w11 u11
                       have hT := V3.k.getTh hp HT2.out
                       have c18 := tc18 hT
                       rw [HJN.out] at c18
                       have c19 := tc19 hT
                       have c20 := tc20 hT
                       have fz := has_free hT
                       have HV3 := Lib.hid V3
                       have HTB := Lib.hid hT
                       clear c0 c1 c71 u11 V3 A3 hT)
          have q := HV3.out.k.thr (t' := { t with en := true }) hp HT2.out ((((Upd.refl HTB.out).setCell 20 (.bool true))).to (by simp only [thO]; congr 1)) rfl rfl rfl
          have V4 := (HV3.out.step q.1 q.2).mark (fun x hx => by rw [List.mem_singleton] at hx; omega)
          have V5 := V4.mark (fun x hx => by cases hx)
          refine ⟨by simp, .inl ⟨_, _, rfl, run_takeDeferred ((HV3.out.step q.1 q.2).ds D2 (List.mem_cons_self ..)).2.1, by simp, .inl ⟨_, _, rfl, run_takeDeferred (V4.ds D1 (List.mem_singleton.2 rfl)).2.1, ?_⟩⟩⟩
          refine ⟨_, results_none rfl _ _ _, rfl, ?_⟩
          rw [HSE2.out]
          exact ⟨V5.k, V5.fr⟩
end Go.Proofs.YtagmlijhgncklaaGreatDoor.Ker
namespace Go.Proofs.YtagmlijhgncklaaGreatDoor.Key
open Go.Proofs.YtagmlijhgncklaaGreatDoor

theorem first_dead {s : Ks} (h : ∀ i, (s.k i).is = false) (t a n : Nat) : firstFrom (liveF s t) a n = none :=
  first_not fun j _ _ => by simp [liveF, h j]
theorem next_dead {s : Ks} (h : ∀ i, (s.k i).is = false) (ok : KOk s) (t : Nat) : nextD s t = (0, 0, false) ∧ KOk (nextS s t) ∧ ∀ i, ((nextS s t).k i).is = false := by
  have hk : ∃ e, nextK s t = (e, none) ∧ e.round ≤ 4 ∧ e.at_ ≤ 8 := by
    have q := ok.e t
    have n2 := ok.n2
    unfold nextK nextF
    split
    · exact ⟨_, rfl, by simp only []; omega, q.2⟩
    · rw [first_dead h]
      simp only [first_dead h]
      split
      · exact ⟨_, rfl, by simp only []; omega, by simp only []; omega⟩
      · rename_i hn
        refine ⟨_, rfl, ?_, ?_⟩
        · simp only [not_or] at hn ⊢
          omega
        · simp only []; omega
  obtain ⟨e, he, h1, h2⟩ := hk
  obtain ⟨n1, n2⟩ := next_none he
  rw [n1, n2]
  refine ⟨rfl, ⟨ok.n1, ok.n2, fun x => ?_⟩, h⟩
  show (put s.e t e x).round ≤ 4 ∧ (put s.e t e x).at_ ≤ 8
  unfold put
  split
  · exact ⟨h1, h2⟩
  · exact ok.e x
theorem clear_dead {s : Ks} (h : ∀ i, (s.k i).is = false) (ok : KOk s) (t : Nat) : KOk (clearF s t) ∧ ∀ i, ((clearF s t).k i).is = false := by
  refine ⟨⟨ok.n1, ok.n2, fun x => ?_⟩, fun i => ?_⟩
  · show (put (wipeF s t 8).e t noEnd x).round ≤ 4 ∧ (put (wipeF s t 8).e t noEnd x).at_ ≤ 8
    unfold put
    split
    · exact ⟨by decide, by decide⟩
    · exact ok.e x
  · show (if i < 8 then { s.k i with v := put (s.k i).v t 0 } else s.k i).is = false
    split
    · exact h i
    · exact h i
end Go.Proofs.YtagmlijhgncklaaGreatDoor.Key
namespace Go.Proofs.YtagmlijhgncklaaGreatDoor.Ker
open Go.RowKit Go.Proofs.YtagmlijhgncklaaGreatDoor

/-- The kernel with another thread in a place. -/
def KS.setTh (S : KS) (p : Nat) (t : Th) : KS := { S with th := put S.th p (some t) }
theorem KP.setTh {S : KS} (P : KP S) {p : Nat} {t t' : Th} (ht : S.th p = some t) (hb : t'.b = t.b) (hc : t'.can.L = []) : KP (S.setTh p t') :=
  { P with
    tp := fun q hq => by
      show S.tp q = (put S.th p (some t') q).map _
      by_cases e : q = p
      · subst e; rw [put_self, P.tp q hq, ht]; simp [hb]
      · rw [put_ne _ _ e]; exact P.tp q hq
    can := fun q x hx => by
      have hx : put S.th p (some t') q = some x := hx
      by_cases e : q = p
      · subst e; rw [put_self] at hx; cases hx; exact hc
      · rw [put_ne _ _ e] at hx; exact P.can q x hx
    thn := fun q x hx => by
      have hx : put S.th p (some t') q = some x := hx
      by_cases e : q = p
      · subst e; exact P.thn q t ht
      · rw [put_ne _ _ e] at hx; exact P.thn q x hx }
theorem KP.keys {S : KS} (P : KP S) {K : Key.Ks} (h1 : Key.KOk K) (h2 : ∀ i, (K.k i).is = false) : KP { S with kx := K } := { P with kx := h1, live := h2 }
theorem put_put {α : Type} (f : Nat → α) (i : Nat) (x y : α) : put (put f i x) i y = put f i y := by
  funext j
  unfold put
  split <;> rfl
/-- The kernel behind a thread's unwinding. -/
def KS.unw (S : KS) (p : Nat) (t : Th) : KS := ({ S with kx := Key.nextS S.kx p } : KS).ended p t
theorem KW.outside {W : World} {S : KS} (h : KW W S) {d i : Nat} {v : Value} (hl : S.lo.lab d = 0) : KW (W.setCell ⟨d, i, none⟩ v) S :=
  h.keeps (by simp [World.setCell]) (fun b _ hb => Below.heap_setCell W ⟨d, i, none⟩ v b (by intro e; rw [show b = d from e] at hb; exact hb hl))
theorem Fr.outside {S S' : KS} {w W : World} (h : Fr S S' w W) {d i : Nat} {v : Value} (hd : w.heap.size ≤ d) : Fr S S' w (W.setCell ⟨d, i, none⟩ v) :=
  ⟨h.os, h.tape, h.output, by simpa [World.setCell] using h.size, fun k hk hl => (Below.heap_setCell W ⟨d, i, none⟩ v k (by show k ≠ d; omega)).trans (h.block k hk hl), h.lab⟩
/-- What a thread's end asks of the sequences. -/
structure InSeq (S : KS) (p p0 : Nat) : Prop where
  isIn : (S.L.getD p Hs.no).isIn = true
  q1 : 1 ≤ p0
  q32 : p0 < 32
  pr : S.R.pr.getD p 0 = p0
  pv : Lk (S.R.pv.getD p 0)
  nx : Lk (S.R.nx.getD p 0)
  s0 : 0 ≤ S.st
  s1 : S.st ≤ 600000000
set_option maxRecDepth 100000 in
theorem unwindOn_stays (w : World) (S : KS) {B : KB} (hB : S.B = B) (h : KW w S) (P : KP S) (p p0 : Nat) (t : Th) (hp : p < 16) (ht : S.th p = some t) (hpol : t.pol ≠ 2) (hm : ∀ i, Tab.tk S.muT i = false) (hjn : t.jn = true) (hjr : t.jr < 0) (I : InSeq S p p0) :
    Calls Tryz.prog 135 #[.pointer (some ⟨B.kb, 0, none⟩), .pointer (some ⟨t.b, 0, none⟩)] w fun e w' => e = .returned (.tuple #[]) ∧ KW w' (S.unw p t) ∧ Fr S (S.unw p t) w w' := by
  subst hB
  have hT := h.getTh hp ht
  have c32 := tc32 hT
  have A := Can.pop_none w t.c t.can (h.getCan hp ht) (P.can p t ht)
  obtain ⟨n1, n2, n3⟩ := Key.next_dead P.live P.kx p
  have P1 := P.keys n2 n3
  have NX := fun W (hW : KW W S) => Key.next_c W S.B.ke S.kx p (hW.has 8 rfl) P.kx hp
  simp only [n1] at NX
  have EN := fun W (hW : KW W { S with kx := Key.nextS S.kx p }) => end_stays W { S with kx := Key.nextS S.kx p } (B := S.B) rfl hW P1 p p0 t hp ht hpol hm hjn hjr I.isIn I.q1 I.q32 I.pr I.pv I.nx I.s0 (by have := I.s1; show S.st ≤ 700000000; omega)
  have HK := Lib.hid h
  have HT := Lib.hid ht
  clear h P P1 hT ht hpol hm hjn hjr I n1 n2 n3
  go_enter Tryz.func135, Tryz.ntmps135
  go_upto_region 1 with (go_at_call 202; refine A.mono ?_; rintro e w1 ⟨rfl, b1⟩; have k1 := HK.out.reads b1; have HB1 := Lib.hid b1; clear b1 A)
  obtain ⟨x, hx⟩ : ∃ x, x = w1.heap.size := ⟨_, rfl⟩
  rw [← hx]
  refine world_wp (fun W => Below w.heap.size w W ∧ W.heap[x]? = some (.cells #[.int .i64 0, .int .i64 0] 263 (0, 0)) ∧ w.heap.size ≤ x) ⟨HB1.out.alloc HB1.out.size _, by rw [hx]; exact heap_alloc_new w1 _, by rw [hx]; exact HB1.out.size⟩ ?_
  rintro W ⟨bW, xW, hxs⟩
  have kW := HK.out.reads bW
  have hT := kW.getTh hp HT.out
  have c0 := tc0 hT
  have c71 := kc71 (B := S.B) kW rfl
  have lx := HK.out.fresh x hxs
  have FR := Lib.hid (Fr.reads S bW).drew
  have HKW := Lib.hid kW
  have HLX := Lib.hid lx
  have HXW := Lib.hid xW
  have HNX := Lib.hid NX
  have hxk : x ≠ S.B.ke := by
    intro e
    have q := (kW.ob 8 _ _ rfl).2
    rw [← e, lx] at q
    omega
  clear hx c32 bW kW hT lx xW k1 NX HB1
  go_wp2_with fail
  go_region_law (first
    | (go_simp; go_at_call 203; refine (HNX.out W.drew (HKW.out.keeps (w' := W.drew) (Nat.le_refl _) (fun _ _ _ => rfl))).mono ?_; rintro e w2 ⟨rfl, u2⟩
       have q := (HKW.out.keeps (w' := W.drew) (Nat.le_refl _) (fun _ _ _ => rfl)).keys ⟨u2.1, u2.2.os, u2.2.tape, u2.2.output, u2.2.size, u2.2.block⟩
       have x2 := u2.other (c := x) HXW.out hxk
       have y0 : w2.cell? ⟨x, 0, none⟩ = some (.int .i64 0) := has_cell 0 x2 rfl
       have y1 : w2.cell? ⟨x, 1, none⟩ = some (.int .i64 0) := has_cell 1 x2 rfl
       have yf := has_free x2
       have k3 := Lib.hid ((q.1.outside (d := x) (i := 0) (v := .int .i64 0) HLX.out).outside (d := x) (i := 1) (v := .int .i64 0) HLX.out)
       have f3 := Lib.hid (((FR.out.trans q.2).outside (d := x) (i := 0) (v := .int .i64 0) hxs).outside (d := x) (i := 1) (v := .int .i64 0) hxs)
       simp only [Key.nextV]
       clear q x2 u2))
  all_goals go_wp2_with (go_at_call 204; refine (EN _ k3.out).mono ?_; rintro e w4 ⟨rfl, k4, f4⟩)
  all_goals refine bodyPost_ret (results_none rfl _ _ _) rfl ?_
  all_goals exact ⟨rfl, k4, f3.out.trans f4⟩
/-- A thread that unwinds with a value. -/
def Th.unw (t : Th) (v : Int) : Th := { t with val := v, can := { t.can with un := true } }
set_option maxRecDepth 100000 in
theorem unwind_stays (w : World) (S : KS) {B : KB} (hB : S.B = B) (h : KW w S) (P : KP S) (p p0 : Nat) (t : Th) (v : Int) (hp : p < 16) (ht : S.th p = some t) (hpol : t.pol ≠ 2) (hm : ∀ i, Tab.tk S.muT i = false) (hjn : t.jn = true) (hjr : t.jr < 0) (hun : t.can.un = false) (I : InSeq S p p0) :
    Calls Tryz.prog 73 #[.pointer (some ⟨B.kb, 0, none⟩), .pointer (some ⟨t.b, 0, none⟩), .int .i64 v] w fun e w' => e = .returned (.tuple #[]) ∧ KW w' ((S.setTh p (t.unw v)).unw p (t.unw v)) ∧ Fr S ((S.setTh p (t.unw v)).unw p (t.unw v)) w w' := by
  subst hB
  have hT := h.getTh hp ht
  have c32 := tc32 hT
  have A := Can.unwind_c w t.c t.can (h.getCan hp ht) (by rw [P.can p t ht]; decide)
  rw [hun, if_neg (by decide)] at A
  obtain ⟨S1, hS1⟩ : ∃ S1 : KS, S1 = { S with th := put S.th p (some { t with can := { t.can with un := true } }) } := ⟨_, rfl⟩
  have ht1 : S1.th p = some { t with can := { t.can with un := true } } := by rw [hS1]; exact put_self _ _ _
  have K1 : ∀ W, Upd w t.c (Can.canO { t.can with un := true }) W → KW W S1 ∧ Fr S S1 w W := fun W u => by rw [hS1]; exact h.can hp ht u
  have hB1 : S1.B = S.B := by rw [hS1]
  have HE : S.setTh p (t.unw v) = { S1 with th := put S1.th p (some (t.unw v)) } := by
    rw [hS1]
    show ({ S with th := _ } : KS) = _
    simp only [put_put]
  obtain ⟨S2, hS2⟩ : ∃ S2 : KS, S2 = S.setTh p (t.unw v) := ⟨_, rfl⟩
  have P2 : KP S2 := by rw [hS2]; exact P.setTh (t' := t.unw v) ht rfl (P.can p t ht)
  have UN : ∀ W, KW W S2 → Calls Tryz.prog 135 #[.pointer (some ⟨S.B.kb, 0, none⟩), .pointer (some ⟨t.b, 0, none⟩)] W fun e w' => e = .returned (.tuple #[]) ∧ KW w' (S2.unw p (t.unw v)) ∧ Fr S2 (S2.unw p (t.unw v)) W w' := fun W hW =>
    unwindOn_stays W S2 (B := S.B) (by rw [hS2]; rfl) hW P2 p p0 (t.unw v) hp (by rw [hS2]; exact put_self _ _ _) hpol (by rw [hS2]; exact hm) hjn hjr (by rw [hS2]; exact ⟨I.isIn, I.q1, I.q32, I.pr, I.pv, I.nx, I.s0, I.s1⟩)
  rw [← hS2] at HE ⊢
  have HE2 := Lib.hid HE
  have HT1 := Lib.hid ht1
  clear h hT P hS1 hS2 ht hpol hm hjn hjr hun I ht1 P2 hB1 HE
  go_enter Tryz.func73, Tryz.ntmps73
  go_wp2_with fail
  refine A.mono ?_
  rintro e w1 ⟨rfl, u1⟩
  obtain ⟨k1, f1⟩ := K1 w1 u1
  have hT : w1.heap[t.b]? = some (thO p { t with can := { t.can with un := true } }) := KW.getTh (t := { t with can := { t.can with un := true } }) k1 hp HT1.out
  have d21 : w1.cell? ⟨t.b, 21, none⟩ = some (.int .i64 t.val) := has_cell 21 hT rfl
  have fz := has_free hT
  have U1 := ((Upd.refl hT).setCell 21 (.int .i64 v))
  have d22 : (w1.setCell ⟨t.b, 21, none⟩ (.int .i64 v)).cell? ⟨t.b, 22, none⟩ = some (.slice none 0 0) := has_cell 22 U1.1 rfl
  have fz2 := has_free U1.1
  have U2 := (U1.setCell 22 (.slice none 0 0))
  have q := k1.thr (t' := t.unw v) hp HT1.out (U2.to (by simp only [thO]; congr 1)) rfl rfl rfl
  rw [← HE2.out] at q
  have HQ := Lib.hid (And.intro q.1 (f1.trans q.2))
  clear u1 k1 f1 hT U1 U2 q c32 A
  go_wp2_with (go_at_call 135; refine (UN _ HQ.out.1).mono ?_; rintro e w4 ⟨rfl, k4, f4⟩)
  exact bodyPost_end (results_none rfl _ _ _) rfl ⟨rfl, k4, HQ.out.2.trans f4⟩
theorem over_stays (w : World) (S : KS) {B : KB} (hB : S.B = B) (h : KW w S) (P : KP S) (p p0 : Nat) (t : Th) (hp : p < 16) (ht : S.th p = some t) (hpol : t.pol ≠ 2) (hm : ∀ i, Tab.tk S.muT i = false) (hjn : t.jn = true) (hjr : t.jr < 0) (hun : t.can.un = false) (I : InSeq S p p0) :
    Calls Tryz.prog 77 #[.pointer (some ⟨B.kb, 0, none⟩), .pointer (some ⟨t.b, 0, none⟩)] w fun e w' => e = .returned (.tuple #[]) ∧ KW w' ((S.setTh p (t.unw (t.r 0))).unw p (t.unw (t.r 0))) ∧ Fr S ((S.setTh p (t.unw (t.r 0))).unw p (t.unw (t.r 0))) w w' := by
  subst hB
  have hT := h.getTh hp ht
  have c22 := tc22 hT
  have c32 := tc32 hT
  have c4 := tc4 hT
  have A := Can.unwinds_c w t.c t.can (h.getCan hp ht) (by rw [P.can p t ht]; decide)
  rw [hun] at A
  have U := unwind_stays w S rfl h P p p0 t (t.r 0) hp ht hpol hm hjn hjr hun I
  clear h hT P ht hpol hm hjn hjr hun I
  go_enter Tryz.func77, Tryz.ntmps77
  go_wp2_with (first
    | (go_at_call 52; refine A.mono ?_; rintro e w1 ⟨rfl, rfl⟩)
    | (go_at_call 73; refine U.mono ?_; rintro e w4 ⟨rfl, k4, f4⟩))
  exact bodyPost_end (results_none rfl _ _ _) rfl ⟨rfl, k4, f4⟩
end Go.Proofs.YtagmlijhgncklaaGreatDoor.Ker
namespace Go.Proofs.YtagmlijhgncklaaGreatDoor.Ker
open Go.RowKit Go.Proofs.YtagmlijhgncklaaGreatDoor

/-- Which entry an operation lays into the map. -/
def insOf (o : Oper) : Option (Int × Nat) := match o.guard, o.dst, o.op with
  | none, none, .insert 330 (.tmp 1) (.const (.int .i64 k)) (.func f) => some (k, f)
  | _, _, _ => none
theorem insOf_some {o : Oper} {k : Int} {f : Nat} (h : insOf o = some (k, f)) : o.guard = none ∧ o.dst = none ∧ o.op = .insert 330 (.tmp 1) (.const (.int .i64 k)) (.func f) := by
  unfold insOf at h
  split at h
  · rename_i h1 h2 h3
    cases h
    exact ⟨h1, h2, h3⟩
  · cases h
def entV (e : Int × Nat) : Int × Value := (e.1, .func (.func e.2) #[] #[])
theorem wpList_inserts {ops : Array Oper} {Q : Exit → Act → World → Prop} {a : Act} {r : Nat} (hm : a.eval (.tmp 1) = .map (some r)) : ∀ (X : List Oper) (es : List (Int × Nat)) (L : List (Int × Value)) (rest : List Oper) (w : World),
    X.map insOf = es.map some → MapH w r L → (L.map (·.1) ++ es.map (·.1)).Nodup → (∀ w', MapH w' r (L ++ es.map entV) → w.grownBy w' (some r) → wpList Tryz.prog ops Q rest a w') → wpList Tryz.prog ops Q (X ++ rest) a w
  | [], [], L, rest, w, _, hM, _, K => K w (by simpa using hM) ⟨rfl, rfl, rfl, Nat.le_refl _, fun _ _ _ => rfl⟩
  | [], e :: es, _, _, _, h, _, _, _ => by simp at h
  | o :: X, [], _, _, _, h, _, _, _ => by simp at h
  | o :: X, (k, f) :: es, L, rest, w, h, hM, hn, K => by
    simp only [List.map_cons, List.cons.injEq] at h
    obtain ⟨g1, g2, g3⟩ := insOf_some h.1
    have hk : (L.any fun x => x.1 == k) = false := by
      rw [List.any_eq_false]
      intro x hx
      simp only [beq_iff_eq]
      intro e
      rw [List.nodup_append] at hn
      exact hn.2.2 x.1 (List.mem_map_of_mem hx) k (by simp) e
    refine wpList_insert_int g1 330 (.tmp 1) _ _ g3 3 _ Tryz.underlying330 Tryz.underlying3 r L k (.func (.func f) #[] #[]) hm rfl rfl hM hk ?_
    intro w1 hM1 hg1
    rw [g2]
    refine wpList_inserts hm X es (L ++ [(k, .func (.func f) #[] #[])]) rest w1 h.2 hM1 ?_ ?_
    · simpa [List.append_assoc] using hn
    · intro w2 hM2 hg2
      exact K w2 (by simpa [entV, List.append_assoc] using hM2) ⟨hg2.os.trans hg1.os, hg2.tape.trans hg1.tape, hg2.output.trans hg1.output, Nat.le_trans hg1.size hg2.size, fun j hj hne => (hg2.block j (Nat.lt_of_lt_of_le hj hg1.size) hne).trans (hg1.block j hj hne)⟩
theorem two_of {α : Type} : ∀ {l : List α}, l.length = 2 → ∃ p q, l = [p, q]
  | [p, q], _ => ⟨p, q, rfl⟩
theorem calls_region {X : List Oper} {id : Nat} {Q : Exit → Act → World → Prop} {a : Act} {w : World} (n : Nat) (es : List (Int × Nat)) (ha : 2 < a.tmps.size)
    (h1 : (X.take 1).map (fun o => (o.guard, o.dst, o.op)) = [(none, some 1, .makeMap 330 none)]) (h2 : ((X.drop 1).take n).map insOf = es.map some) (h3 : ((X.drop 1).drop n).map (fun o => (o.guard, o.dst, o.op)) = [(none, some 2, .move (.tmp 1)), (none, some 0, .assign (.tmp 2))]) (h4 : (es.map (·.1)).Nodup)
    (K : ∀ w', MapH w' w.heap.size (es.map entV) → Below w.heap.size w w' → Q .normal (((a.put (some 1) (.map (some w.heap.size))).put (some 2) (.map (some w.heap.size))).put (some 0) (.map (some w.heap.size))) w') : (Code.region id X.toArray false).wp Tryz.prog Q a w := by
  refine wp_region_lit ?_
  generalize hops : X.toArray = ops
  clear hops
  match X, h1 with
  | o :: X, h1 =>
    simp only [List.take_succ_cons, List.take_zero, List.map_cons, List.map_nil, List.cons.injEq, Prod.mk.injEq, and_true] at h1
    simp only [List.drop_succ_cons, List.drop_zero] at h2 h3
    refine wpList_plain h1.1 fun K' hK' => ?_
    have hmm : (Instr.makeMap 330 none).run Tryz.prog w = .ok (.map (some w.heap.size)) (w.alloc (.map #[] 0)) := rfl
    unfold Oper.wp
    simp [execOp, h1.2.2, hmm, Result.andThen]
    refine hK' _ _ ?_
    rw [h1.2.1, ← List.take_append_drop n X]
    have hm : (a.put (some 1) (.map (some w.heap.size))).eval (.tmp 1) = .map (some w.heap.size) := by simp [Act.put, Act.eval, show 1 < a.tmps.size by omega]
    refine wpList_inserts hm _ es [] _ _ h2 (MapH.new w) (by simpa using h4) ?_
    intro w' hM hg
    have hB := below_grown ((Below.refl w.heap.size w).alloc (Nat.le_refl _) (.map #[] 0)) hg (Nat.le_refl _)
    obtain ⟨p, q, hX⟩ := two_of (show (X.drop n).length = 2 by have hl := congrArg List.length h3; simpa using hl)
    rw [hX] at h3 ⊢
    simp only [List.map_cons, List.map_nil, List.cons.injEq, Prod.mk.injEq, and_true] at h3
    refine wpList_plain h3.1.1 fun K1 hK1 => ?_
    unfold Oper.wp
    simp only [execOp, h3.1.2.2, hm, Sem.run_pure]
    refine hK1 _ _ ?_
    rw [h3.1.2.1]
    refine wpList_plain h3.2.1 fun K2 hK2 => ?_
    unfold Oper.wp
    have hm2 : ((a.put (some 1) (.map (some w.heap.size))).put (some 2) (.map (some w.heap.size))).eval (.tmp 2) = .map (some w.heap.size) := by simp [Act.put, Act.eval, ha]
    simp only [execOp, h3.2.2.2, hm2, Sem.run_pure]
    refine hK2 _ _ ?_
    rw [h3.2.2.1]
    exact K w' (by simpa using hM) hB
def callsE : List (Int × Nat) := [(1, 208), (2, 209), (3, 210), (4, 211), (5, 212), (6, 213), (7, 214), (8, 215), (9, 216), (10, 217), (11, 218), (12, 219), (13, 220), (14, 221), (15, 222), (16, 223), (17, 224), (18, 225), (19, 226), (20, 227), (21, 228), (22, 229), (23, 230), (24, 231), (25, 232), (26, 233), (27, 234), (28, 235), (29, 236), (30, 237), (31, 238), (32, 239), (33, 240), (34, 241), (35, 242), (36, 243), (37, 244), (38, 245), (39, 246), (40, 247), (41, 248), (42, 249), (43, 250), (44, 251), (45, 252), (46, 253), (47, 254), (48, 255), (49, 256), (50, 257), (51, 258), (52, 259), (53, 260), (54, 261), (55, 262), (56, 263), (57, 264), (58, 265), (59, 266), (60, 267), (61, 268), (62, 269), (63, 270), (64, 271), (65, 272), (66, 273), (67, 274), (68, 275), (69, 276), (70, 277), (71, 278), (72, 279), (73, 280), (74, 281), (75, 282), (76, 283), (77, 284), (78, 285), (79, 286), (80, 287), (81, 288), (82, 289), (83, 290), (84, 291), (85, 292), (86, 293), (87, 294)]
theorem calls_c (w : World) : Calls Tryz.prog 145 #[] w fun e w' => ∃ r, e = .returned (.map (some r)) ∧ MapH w' r (callsE.map entV) ∧ Below w.heap.size w w' := by
  go_enter Tryz.func145, Tryz.ntmps145
  go_upto_region 1 with fail
  refine calls_region 87 callsE (by decide) (by kernel_rfl) (by kernel_rfl) (by kernel_rfl) (by decide) ?_
  intro w' hM hB
  go_wp2
  go_ret
  exact ⟨w.heap.size, rfl, hM, hB⟩
end Go.Proofs.YtagmlijhgncklaaGreatDoor.Ker
