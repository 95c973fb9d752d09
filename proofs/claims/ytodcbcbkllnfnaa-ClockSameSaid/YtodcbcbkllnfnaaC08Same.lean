/- The walk of ClockSame: it returns true, and turns nothing that was there. Conditions: the scripts are slices of steps. -/
import Derived.Test.YtodcbcbkllnfnaaC08Steps
namespace Go.Proofs.Ytodcbcbkllnfnaa
open Go.RowKit

def ptrV : Option Nat → Value
  | none => .pointer none
  | some b => .pointer (some ⟨b, 0, none⟩)
def good (x : Int) : Prop := 0 ≤ x ∧ x ≤ 1099511627776
def NewPost (x : Int) (w : World) (e : Ending) (w' : World) : Prop :=
  ∃ (v : Option Nat) (q : Int), e = .returned (.tuple #[ptrV v, .int .i64 q]) ∧ Below w.heap.size w w' ∧ (v = none ∧ ¬ good x ∨ good x ∧ ∃ b, v = some b ∧ w.heap.size ≤ b ∧ w'.heap[b]? = some (clkO true x 0))
def RNewPost (x : Int) (w : World) (e : Ending) (w' : World) : Prop :=
  ∃ v : Option Nat, e = .returned (ptrV v) ∧ Below w.heap.size w w' ∧ (v = none ∧ ¬ good x ∨ good x ∧ ∃ b, v = some b ∧ w.heap.size ≤ b ∧ w'.heap[b]? = some (refO x 0))
theorem new_any (x : Int) (w : World) : Calls Try.prog 8 #[.int .i64 x] w (NewPost x w) := by
  by_cases h : good x
  · exact (new_c w x h.1 h.2).mono fun e w' ⟨he, hC, hB, _⟩ => ⟨some w.heap.size, 0, he, hB, .inr ⟨h, _, rfl, Nat.le_refl _, hC⟩⟩
  · exact (new_bad w x (by unfold good at h; omega)).mono fun e w' ⟨he, hw⟩ => ⟨none, 2, he, hw ▸ Below.refl _ _, .inl ⟨rfl, h⟩⟩
theorem rnew_any (x : Int) (w : World) : Calls Try.prog 15 #[.int .i64 x] w (RNewPost x w) := by
  by_cases h : good x
  · exact (rnew_c w x h.1 h.2).mono fun e w' ⟨he, hC, hB, _⟩ => ⟨some w.heap.size, he, hB, .inr ⟨h, _, rfl, Nat.le_refl _, hC⟩⟩
  · exact (rnew_bad w x (by unfold good at h; omega)).mono fun e w' ⟨he, hw⟩ => ⟨none, he, hw ▸ Below.refl _ _, .inl ⟨rfl, h⟩⟩

/-- One side: nothing, or two clocks that show the same. -/
structure Sd where
  c : Nat
  d : Nat
  r : Int
  o : Int
def sdOk (w : World) (B : Nat) : Option Sd → Prop
  | none => True
  | some s => Pair w s.c s.d s.r s.o ∧ B ≤ s.c ∧ B ≤ s.d
def apartS : Option Sd → Option Sd → Prop
  | some s, some t => s.c ≠ t.c ∧ s.c ≠ t.d ∧ s.d ≠ t.c ∧ s.d ≠ t.d
  | _, _ => True
def cV (s : Option Sd) : Value := ptrV (s.map (·.c))
def dV (s : Option Sd) : Value := ptrV (s.map (·.d))

theorem Pair.other {w w' : World} {b c c2 d2 : Nat} {r o : Int} (p : Pair w c2 d2 r o) (u : Upd2 w b c w') (h1 : c2 ≠ b) (h2 : c2 ≠ c) (h3 : d2 ≠ b) (h4 : d2 ≠ c) : Pair w' c2 d2 r o :=
  ⟨u.other p.clk h1 h2, u.other p.ref h3 h4, p.ne, p.r0, p.r1, p.o0, p.o1⟩
theorem Pair.below {w w' : World} {c d : Nat} {r o : Int} (p : Pair w c d r o) (u : Below w.heap.size w w') : Pair w' c d r o :=
  ⟨below_has u p.clk, below_has u p.ref, p.ne, p.r0, p.r1, p.o0, p.o1⟩
theorem sdOk.below {w w' : World} {B : Nat} {s : Option Sd} (h : sdOk w B s) (u : Below w.heap.size w w') : sdOk w' B s := by
  cases s with
  | none => trivial
  | some s => exact ⟨h.1.below u, h.2⟩
/-- The other side stands, and stays apart, behind a step of this one. -/
theorem side_step {w w' : World} {B c d c' : Nat} {r o r' o' : Int} {t : Option Sd} (u : Upd2 w c d w') (hc : c' = c ∨ w.heap.size ≤ c') (h : sdOk w B t) (a : apartS (some ⟨c, d, r, o⟩) t) :
    sdOk w' B t ∧ apartS (some ⟨c', d, r', o'⟩) t := by
  cases t with
  | none => exact ⟨trivial, trivial⟩
  | some t =>
    obtain ⟨hp, hB⟩ := h
    obtain ⟨a1, a2, a3, a4⟩ := a
    refine ⟨⟨hp.other u (Ne.symm a1) (Ne.symm a3) (Ne.symm a2) (Ne.symm a4), hB⟩, ?_⟩
    have l1 := has_lt hp.clk
    have l2 := has_lt hp.ref
    rcases hc with rfl | hc
    · exact ⟨a1, a2, a3, a4⟩
    · exact ⟨by show c' ≠ t.c; omega, by show c' ≠ t.d; omega, a3, a4⟩
theorem apartS.symm {s t : Option Sd} (h : apartS s t) : apartS t s := by
  cases s <;> cases t <;> first | trivial | exact ⟨Ne.symm h.1, Ne.symm h.2.2.1, Ne.symm h.2.1, Ne.symm h.2.2.2⟩

/-- Same of two sides, as it is, and as the document says it. -/
def sameS : Option Sd → Option Sd → Bool
  | none, none => true
  | some s, some t => s.r == t.r && s.o == t.o
  | _, _ => false
theorem same_sides (w : World) (B : Nat) (s t : Option Sd) (hs : sdOk w B s) (ht : sdOk w B t) : Calls Try.prog 18 #[cV s, cV t] w fun e w' => e = .returned (.bool (sameS s t)) ∧ Below w.heap.size w w' := by
  cases s with
  | none =>
    cases t with
    | none => exact (same_gone w _ _ Gone.nil Gone.nil).mono fun e w' ⟨he, hw⟩ => ⟨he, hw ▸ Below.refl _ _⟩
    | some t => exact (same_one' w _ _ _ _ ht.1.clk Gone.nil).mono fun e w' ⟨he, hw⟩ => ⟨he, hw ▸ Below.refl _ _⟩
  | some s =>
    cases t with
    | none => exact (same_one w _ _ _ _ hs.1.clk Gone.nil).mono fun e w' ⟨he, hw⟩ => ⟨he, hw ▸ Below.refl _ _⟩
    | some t => exact same_c w _ _ _ _ _ _ hs.1.clk ht.1.clk
theorem rsame_sides (w : World) (B : Nat) (s t : Option Sd) (hs : sdOk w B s) (ht : sdOk w B t) : Calls Try.prog 19 #[dV s, dV t] w fun e w' => e = .returned (.bool (sameS s t)) ∧ Below w.heap.size w w' := by
  cases s with
  | none =>
    cases t with
    | none => exact (rsame_nil w none).mono fun e w' ⟨he, hw⟩ => ⟨he, hw ▸ Below.refl _ _⟩
    | some t => exact (rsame_nil w (some _)).mono fun e w' ⟨he, hw⟩ => ⟨he, hw ▸ Below.refl _ _⟩
  | some s =>
    cases t with
    | none => exact (rsame_nil' w _).mono fun e w' ⟨he, hw⟩ => ⟨he, hw ▸ Below.refl _ _⟩
    | some t => exact rsame_c w _ _ _ _ _ _ hs.1.ref ht.1.ref
theorem run_neq_dV (s : Option Sd) (w : World) : (binOp .neq 36 (dV s) (.pointer none)).run Try.prog w = .ok (.bool s.isSome) w := by
  cases s with
  | none => kernel_rfl
  | some s => kernel_rfl
theorem run_guard_dV (s : Option Sd) (x y : Operand) (w : World) : (eqGuard .neq 36 x y (dV s) (.pointer none)).run Try.prog w = .ok () w := by
  cases s with
  | none => rfl
  | some s => rfl
/-- What one step of this side leaves. -/
def SidePost (w : World) (B : Nat) (t : Option Sd) (e : Ending) (w' : World) : Prop :=
  ∃ s', e = .returned (.tuple #[cV s', dV s', .bool true]) ∧ sdOk w' B s' ∧ sdOk w' B t ∧ apartS s' t ∧ Below B w w'
theorem do_side (w : World) (B : Nat) (s t : Option Sd) (kd k n : Int) (hs : sdOk w B s) (h1 : s.isSome = true) (ht : sdOk w B t) (ap : apartS s t) (hB : B ≤ w.heap.size) :
    Calls Try.prog 16 #[cV s, dV s, .agg #[.int .i64 kd, .int .i64 k, .int .i64 n]] w (SidePost w B t) := by
  cases s with
  | none => cases h1
  | some s =>
    refine (do_c w s.c s.d s.r s.o kd k n hs.1).mono ?_
    rintro e w' ⟨c', r', o', rfl, hp, hc, u⟩
    obtain ⟨h2, h3⟩ := side_step (r' := r') (o' := o') u hc ht ap
    exact ⟨some ⟨c', s.d, r', o'⟩, rfl, ⟨hp, by show B ≤ c'; have := hs.2.1; omega, hs.2.2⟩, h2, h3, u.below hs.2.1 hs.2.2 hB⟩
/-- The two clocks that New made, the program's and the document's, are a side. -/
theorem side_of {x : Int} {w1 w2 w : World} {lo mi B : Nat} {v u : Option Nat} (hv : v = none ∧ ¬ good x ∨ good x ∧ ∃ b, v = some b ∧ lo ≤ b ∧ w1.heap[b]? = some (clkO true x 0))
    (hu : u = none ∧ ¬ good x ∨ good x ∧ ∃ b, u = some b ∧ mi ≤ b ∧ w2.heap[b]? = some (refO x 0)) (b1 : Below w1.heap.size w1 w) (b2 : Below w2.heap.size w2 w) (h : w1.heap.size ≤ mi) (hB : B ≤ lo) :
    ∃ s : Option Sd, ptrV v = cV s ∧ ptrV u = dV s ∧ sdOk w B s ∧ ∀ q, s = some q → lo ≤ q.c ∧ q.c < w1.heap.size ∧ mi ≤ q.d ∧ q.d < w2.heap.size := by
  rcases hv with ⟨rfl, hg⟩ | ⟨hg, b, rfl, hb, hc⟩
  · rcases hu with ⟨rfl, _⟩ | ⟨hg', _⟩
    · exact ⟨none, rfl, rfl, trivial, fun q h => by cases h⟩
    · exact absurd hg' hg
  · rcases hu with ⟨_, hg'⟩ | ⟨_, d, rfl, hd, hr⟩
    · exact absurd hg hg'
    · have l1 := has_lt hc
      have l2 := has_lt hr
      exact ⟨some ⟨b, d, x, 0⟩, rfl, rfl, ⟨⟨below_has b1 hc, below_has b2 hr, by show b ≠ d; omega, hg.1, hg.2, by show (0 : Int) ≤ 0; omega, by show (0 : Int) ≤ 1099511627776; omega⟩, by show B ≤ b; omega, by show B ≤ d; omega⟩, fun q h => by cases h; exact ⟨hb, l1, hd, l2⟩⟩
theorem same_self (w : World) (B : Nat) (s : Option Sd) (hs : sdOk w B s) : Calls Try.prog 18 #[cV s, cV s] w fun e w' => e = .returned (.bool true) ∧ Below w.heap.size w w' :=
  (same_sides w B s s hs hs).mono fun e w' ⟨he, hw⟩ => ⟨by rw [he]; cases s <;> simp [sameS], hw⟩
/-- A step's cells, in whatever world is as it was below B. -/
theorem rows_cells {w : World} {a : Option Addr} {len j : Nat} (hs : IsRows w stepSc a len) (hj : j < len) : ∃ (b off : Nat) (kd k n : Int), a = some ⟨b, off, none⟩ ∧
    ∀ W, Below w.heap.size w W → W.cell? ⟨b, off + j * 3, none⟩ = some (.int .i64 kd) ∧ W.cell? ⟨b, off + j * 3 + 1, none⟩ = some (.int .i64 k) ∧ W.cell? ⟨b, off + j * 3 + 2, none⟩ = some (.int .i64 n) := by
  rcases hs with hs | ⟨b, off, rfl, _, hb, hs⟩
  · omega
  · obtain ⟨cs, hf, hc⟩ := hs j hj
    obtain ⟨kd, k, n, rfl⟩ := step_fit hf
    have hbb : b < w.heap.size := hb (by omega)
    exact ⟨b, off, kd, k, n, rfl, fun W hW => ⟨(hW.cell (p := ⟨b, _, none⟩) hbb).trans (hc 0 (by decide)), (hW.cell (p := ⟨b, _, none⟩) hbb).trans (hc 1 (by decide)), (hW.cell (p := ⟨b, _, none⟩) hbb).trans (hc 2 (by decide))⟩⟩
theorem out3 {len j : Nat} {b : Bool} (h : ¬ (j < len ∧ j < 60 ∧ b = true)) : len ≤ j ∨ (j < len ∧ 60 ≤ j) ∨ (j < len ∧ j < 60 ∧ b = false) := by
  cases b <;> simp at h ⊢ <;> omega
theorem sameS_self (s : Option Sd) : sameS s s = true := by cases s <;> simp [sameS]

set_option maxRecDepth 100000 in
set_option maxHeartbeats 1000000 in
theorem same_walk (w : World) (x0 x1 : Int) (a : Option Addr) (len cap : Nat) (hs : IsRows w stepSc a len) (a' : Option Addr) (len' cap' : Nat) (hs' : IsRows w stepSc a' len') :
    Calls Try.prog 5 #[.agg #[.int .i64 x0, .int .i64 x1], .slice a len cap, .slice a' len' cap'] w fun e w' => e = .returned (.bool true) ∧ Below w.heap.size w w' := by
  have hm := hs.max
  have hm' := hs'.max
  unfold maxLen at hm hm'
  have HS := Lib.hid hs
  have HS' := Lib.hid hs'
  clear hs hs'
  go_enter Try.func5, Try.ntmps5
  go_wp2_with fail
  refine calls_world (fun W => W.heap[w.heap.size]? = some (.cells #[.int .i64 x0, .int .i64 x1] 44 (0, 0)) ∧ Below w.heap.size w W) ⟨heap_alloc_new _ _, (Below.refl _ _).alloc (Nat.le_refl _) _⟩ ?_
  rintro W ⟨hx, hB⟩
  refine (new_any x0 W).mono ?_; rintro e w1 ⟨v, q, rfl, hb, hv⟩
  have hx1 := below_has hb hx
  have g0 := has_cell 0 hx1 rfl
  have g1 := has_cell 1 hx1 rfl
  have hB1 := below_reads hB hb hB.size
  have hBW := hB.size
  clear hx hB hb
  go_wp2_with fail
  refine (new_any x1 _).mono ?_; rintro e w2 ⟨v', q', rfl, hb, hv'⟩
  have hx2 := below_has hb hx1
  have g0 := has_cell 0 hx2 rfl
  have g1 := has_cell 1 hx2 rfl
  have hB2 := below_reads hB1 hb hB1.size
  have t1 := hb
  have z1 := hB1.size
  clear hx1 hB1 hb
  have HV := Lib.hid hv
  have HV' := Lib.hid hv'
  clear hv hv'
  go_wp2_with fail
  go_region_held3 (fun W' => W'.cell? ⟨w.heap.size, 0, none⟩ = some (.int .i64 x0) ∧ W'.cell? ⟨w.heap.size, 1, none⟩ = some (.int .i64 x1)) (first | exact ⟨g0, g1⟩ | exact ⟨by assumption, by assumption⟩)
    (first
      | (go_at_call_of 15 (Value.int IntKind.i64 x0); refine (rnew_any x0 _).mono ?_; rintro e w3 ⟨u, rfl, hb3, hu⟩; have hx3 := below_has hb3 hx2; have y1 := has_cell 0 hx3 rfl; have y2 := has_cell 1 hx3 rfl)
      | (go_at_call_of 15 (Value.int IntKind.i64 x1); refine (rnew_any x1 _).mono ?_; rintro e w4 ⟨u', rfl, hb4, hu'⟩; have hx4 := below_has hb4 hx3; have y1 := has_cell 0 hx4 rfl; have y2 := has_cell 1 hx4 rfl))
  have b34 : Below w3.heap.size w3 w4 := hb4
  have b23 : Below w2.heap.size w2 w3 := below_undrew hb3
  have b24 : Below w2.heap.size w2 w4 := b23.trans (b34.mono b23.size)
  have b12 : Below w1.heap.size w1 w2 := t1
  have b14 : Below w1.heap.size w1 w4 := b12.trans (b24.mono b12.size)
  have z2 := b12.size
  have z3 := b23.size
  have z4 := b34.size
  have hB4 : Below w.heap.size w w4 := hB2.trans (b24.mono hB2.size)
  obtain ⟨s, s1, s2, hs, hsr⟩ := side_of (B := w.heap.size) (lo := W.heap.size) (mi := w2.heap.size) HV.out hu b14 b34 z2 hBW
  obtain ⟨t, t1, t2, ht, htr⟩ := side_of (B := w.heap.size) (lo := w1.heap.size) (mi := w3.heap.size) HV'.out hu' b24 (Below.refl _ _) z3 z1
  have ap : apartS s t := by
    cases s with
    | none => trivial
    | some s =>
      cases t with
      | none => trivial
      | some t =>
        obtain ⟨q1, q2, q3, q4⟩ := hsr _ rfl
        obtain ⟨r1, r2, r3, r4⟩ := htr _ rfl
        exact ⟨by omega, by omega, by omega, by omega⟩
  rw [s1, s2, t1, t2]
  have hsz : w.heap.size ≤ w4.heap.size := hB4.size
  clear s1 s2 t1 t2 hsr htr hu hu' HV HV' y1 y2 hx2 hx3 hx4 g0 g1 b34 b23 b24 b12 b14 z1 z2 z3 z4 hb3 hb4 hB2 hBW
  go_wp2_with fail
  have rn := fun s w => run_neq_dV s w
  have rg := fun s x y w => run_guard_dV s x y w
  go_loopw [7, 11, 13, 14] (fun x p ok i wr => ∃ (s : Option Sd) (j : Nat), x = cV s ∧ p = dV s ∧ ok = .bool true ∧ i = .int .i64 j ∧ j ≤ len ∧ sdOk wr w.heap.size s ∧ sdOk wr w.heap.size t ∧ apartS s t ∧ Below w.heap.size w wr) (fun _ _ _ i _ => len - (intOf i).toNat)
  case atStart => exact ⟨s, 0, rfl, rfl, rfl, rfl, by omega, hs, ht, ap, hB4⟩
  case round =>
    clear hs ht ap hB4 hsz
    obtain ⟨s1, j, rfl, rfl, rfl, rfl, hj, hs, ht, ap, hBr⟩ := hrel
    by_cases hgo : j < len ∧ j < 60 ∧ s1.isSome = true
    · obtain ⟨g1, g2, g3⟩ := hgo
      obtain ⟨b, off, kd, k, n, rfl, hq⟩ := rows_cells HS.out g1
      obtain ⟨e0, e1, e2⟩ := hq wr hBr
      clear hq
      go_wp2_with fail
      refine (do_side wr _ s1 t kd k n hs g3 ht ap hBr.size).mono ?_; rintro e w5 ⟨s', rfl, hs', ht', ap', hB⟩
      have hB5 := hBr.trans hB
      clear hs ht ap hB hBr e0 e1 e2 g3
      go_wp2_with fail
      go_roundw
      case rel => exact ⟨s', j + 1, rfl, rfl, rfl, by go_num, by omega, hs', ht', ap', hB5⟩
      case measure => simp [intOf]; omega
    · have hout : len ≤ j ∨ (j < len ∧ 60 ≤ j) ∨ (j < len ∧ j < 60 ∧ s1.isSome = false) := out3 hgo
      clear hgo
      rcases hout with g1 | ⟨g1, g2⟩ | ⟨g1, g2, g3⟩
      all_goals
        go_wp2_with fail
        go_loopw [9, 12, 13, 15] (fun x p ok i wr => ∃ (t : Option Sd) (j : Nat), x = cV t ∧ p = dV t ∧ ok = .bool true ∧ i = .int .i64 j ∧ j ≤ len' ∧ sdOk wr w.heap.size t ∧ sdOk wr w.heap.size s1 ∧ apartS t s1 ∧ Below w.heap.size w wr) (fun _ _ _ i _ => len' - (intOf i).toNat)
        case atStart => exact ⟨t, 0, rfl, rfl, rfl, rfl, by omega, ht, hs, ap.symm, hBr⟩
        case round =>
          clear hs ht ap hBr
          obtain ⟨t1, j', rfl, rfl, rfl, rfl, hj', ht, hs, ap, hBr⟩ := hrel
          by_cases hgo : j' < len' ∧ j' < 60 ∧ t1.isSome = true
          · obtain ⟨g4, g5, g6⟩ := hgo
            obtain ⟨b, off, kd, k, n, rfl, hq⟩ := rows_cells HS'.out g4
            obtain ⟨e0, e1, e2⟩ := hq _ hBr
            clear hq
            go_wp2_with fail
            refine (do_side _ _ t1 s1 kd k n ht g6 hs ap hBr.size).mono ?_; rintro e w5 ⟨t', rfl, ht', hs', ap', hB⟩
            have hB5 := hBr.trans hB
            clear hs ht ap hB hBr e0 e1 e2 g6
            go_wp2_with fail
            go_roundw
            case rel => exact ⟨t', j' + 1, rfl, rfl, rfl, by go_num, by omega, ht', hs', ap', hB5⟩
            case measure => simp [intOf]; omega
          · have hout : len' ≤ j' ∨ (j' < len' ∧ 60 ≤ j') ∨ (j' < len' ∧ j' < 60 ∧ t1.isSome = false) := out3 hgo
            clear hgo
            rcases hout with g4 | ⟨g4, g5⟩ | ⟨g4, g5, g6⟩
            all_goals
              go_wp2_with fail
              refine (same_sides _ _ s1 t1 hs ht).mono ?_; rintro e w6 ⟨rfl, hb⟩
              have hs6 := hs.below hb
              have ht6 := ht.below hb
              have hB6 := below_reads hBr hb hBr.size
              clear hb hs ht hBr
              go_wp2_with fail
              refine (rsame_sides _ _ s1 t1 hs6 ht6).mono ?_; rintro e w7 ⟨rfl, hb⟩
              have hs7 := hs6.below hb
              have hB7 := below_reads hB6 hb hB6.size
              clear hb hs6 ht6 hB6
              generalize sameS s1 t1 = qq
              go_wp2_with fail
              refine (same_self _ _ s1 hs7).mono ?_; rintro e w8 ⟨rfl, hb⟩
              have hB8 := below_reads hB7 hb hB7.size
              clear hb hs7 hB7
              go_wp2_with fail
              refine (known_c _).mono ?_; rintro e w9 ⟨rfl, hb⟩
              have hB9 := below_reads hB8 hb hB8.size
              clear hb hB8
              go_wp2_with fail
              go_ret
              exact ⟨by simp, hB9⟩

theorem same_claim (w : World) (cs : Array Value) (hf : FitW [.i .i64, .i .i64] cs.toList) (a : Option Addr) (len cap : Nat) (hs : IsRows w stepSc a len) (a' : Option Addr) (len' cap' : Nat) (hs' : IsRows w stepSc a' len') :
    Calls Try.prog 5 #[.agg cs, .slice a len cap, .slice a' len' cap'] w fun e w' => e = .returned (.bool true) ∧ Below w.heap.size w w' := by
  obtain ⟨l⟩ := cs
  have hl : l.length = 2 := hf.len
  match l, hl with
  | [x, y], _ =>
    obtain ⟨⟨p, rfl, _⟩, ⟨q, rfl, _⟩, _⟩ := hf
    exact same_walk w p q a len cap hs a' len' cap' hs'
end Go.Proofs.Ytodcbcbkllnfnaa
