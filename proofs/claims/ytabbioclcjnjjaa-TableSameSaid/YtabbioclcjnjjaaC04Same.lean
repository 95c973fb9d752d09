/- The walk of TableSame: it returns true, and turns nothing that was there. Conditions: the scripts are slices of steps. -/
import Derived.Test.YtabbioclcjnjjaaC04Do
import Derived.Test.YtabbioclcjnjjaaC04Steps0
namespace Go.Proofs.Ytabbioclcjnjjaa
open Go.RowKit

def ptrV : Option Nat → Value
  | none => .pointer none
  | some b => .pointer (some ⟨b, 0, none⟩)
def good (x : Int) : Prop := 1 ≤ x ∧ x ≤ 16
def fresh (x : Int) : List (Bool × Int) := List.replicate x.toNat (false, 0)
def NewPost (x : Int) (w : World) (e : Ending) (w' : World) : Prop :=
  ∃ (v : Option Nat) (q : Int), e = .returned (.tuple #[ptrV v, .int .i64 q]) ∧ Below w.heap.size w w' ∧ (v = none ∧ ¬ good x ∨ good x ∧ ∃ b, v = some b ∧ w.heap.size ≤ b ∧ w'.heap[b]? = some (tabO (fresh x)))
def RNewPost (x : Int) (w : World) (e : Ending) (w' : World) : Prop :=
  ∃ v : Option Nat, e = .returned (ptrV v) ∧ Below w.heap.size w w' ∧ (v = none ∧ ¬ good x ∨ good x ∧ ∃ r s, v = some r ∧ w.heap.size ≤ r ∧ w.heap.size ≤ s ∧ RRef w' r s (fresh x))
theorem new_any (x : Int) (w : World) : Calls Try.prog 7 #[.int .i64 x] w (NewPost x w) := by
  by_cases h : good x
  · obtain ⟨n, rfl⟩ : ∃ n : Nat, x = n := ⟨x.toNat, by have := h.1; omega⟩
    exact (new_c w n (by have := h.1; omega) (by have := h.2; omega)).mono fun e w' ⟨he, hC, hB, _⟩ => ⟨some w.heap.size, 0, he, hB, .inr ⟨h, _, rfl, Nat.le_refl _, hC⟩⟩
  · exact (new_bad w x (by unfold good at h; omega)).mono fun e w' ⟨he, hw⟩ => ⟨none, 2, he, hw ▸ Below.refl _ _, .inl ⟨rfl, h⟩⟩
theorem rnew_any (x : Int) (w : World) : Calls Try.prog 13 #[.int .i64 x] w (RNewPost x w) := by
  by_cases h : good x
  · obtain ⟨n, rfl⟩ : ∃ n : Nat, x = n := ⟨x.toNat, by have := h.1; omega⟩
    exact (rnew_c w n (by have := h.1; omega) (by have := h.2; omega)).mono fun e w' ⟨r, s, he, hR, h1, h2, hB⟩ => ⟨some r, he, hB, .inr ⟨h, r, s, rfl, h1, h2, hR⟩⟩
  · exact (rnew_bad w x (by unfold good at h; omega)).mono fun e w' ⟨he, hw⟩ => ⟨none, he, hw ▸ Below.refl _ _, .inl ⟨rfl, h⟩⟩

/-- One side: nothing, or two tables that stand at the same places, with the list of handles. -/
structure Sd where
  t : Nat
  r : Nat
  s : Nat
  L : List (Bool × Int)
  vl : Value
  l : List Int
structure Fits (w : World) (B : Nat) (q : Sd) (G : Nat) : Prop where
  st : DSt w B q.t q.r q.s q.L q.vl q.l
  one : 1 ≤ q.L.length
  top : q.L.length ≤ 16
  gen : genOk q.L G
  few : q.l.length ≤ G
def sdOk (w : World) (B : Nat) (s : Option Sd) (G : Nat) : Prop :=
  match s with
  | none => True
  | some q => Fits w B q G
def apartS : Option Sd → Option Sd → Prop
  | some q, some p => q.t ≠ p.t ∧ q.s ≠ p.s
  | _, _ => True
def tV (s : Option Sd) : Value := ptrV (s.map (·.t))
def rV (s : Option Sd) : Value := ptrV (s.map (·.r))
def lV : Option Sd → Value
  | none => .slice none 0 0
  | some q => q.vl
theorem own_upd2 {w w' : World} {base b c : Nat} {v : Value} {m : Nat} {xs : List Value} (h : w.ownsRow base 2 1 v m xs) (u : Upd2 w b c w') (h1 : v.ownBlock = none ∨ v.ownBlock ≠ some b) (h2 : v.ownBlock = none ∨ v.ownBlock ≠ some c) : w'.ownsRow base 2 1 v m xs := by
  refine ⟨h.1, ?_⟩
  rcases h.2 with h | ⟨g, cap, cur, e, hb, hg, r⟩
  · exact .inl h
  · refine .inr ⟨g, cap, cur, e, hb, ?_, r⟩
    subst e
    simp [Value.ownBlock] at h1 h2
    exact (u.block g (has_lt hg) h1 h2).trans hg
theorem type_ne {w : World} {a b : Nat} {cs ds : Array Value} {T U : TypeId} (h : w.heap[a]? = some (.cells cs T (0, 0))) (k : w.heap[b]? = some (.cells ds U (0, 0))) (hT : T ≠ U) : a ≠ b := by
  rintro rfl
  have := h.symm.trans k
  injection this with e; injection e with _ e _; exact hT e
theorem DSt.other {w w' : World} {B B2 t r s t2 r2 s2 : Nat} {L L2 : List (Bool × Int)} {vl vl2 : Value} {l l2 : List Int} (h : DSt w B t r s L vl l) (k : DSt w B2 t2 r2 s2 L2 vl2 l2) (u : Upd2 w t2 s2 w') (n1 : t ≠ t2) (n2 : s ≠ s2) : DSt w' B t r s L vl l :=
  ⟨u.other h.tab n1 (type_ne h.tab k.ref.row (by decide)), ⟨u.other h.ref.tab (type_ne h.ref.tab k.tab (by decide)) (type_ne h.ref.tab k.ref.row (by decide)), u.other h.ref.row (type_ne h.ref.row k.tab (by decide)) n2, h.ref.ne⟩,
    own_upd2 h.own u (own_far h.own k.tab (by decide)) (own_far h.own k.ref.row (by decide)), h.nil, h.lt, h.lr, h.ls, Nat.le_trans h.hB u.size⟩
theorem sdOk.below {w w' : World} {B G : Nat} {s : Option Sd} (h : sdOk w B s G) (u : Below w.heap.size w w') : sdOk w' B s G := by
  cases s with
  | none => trivial
  | some s => exact ⟨h.st.reads u, h.one, h.top, h.gen, h.few⟩
theorem apartS.symm {s t : Option Sd} (h : apartS s t) : apartS t s := by
  cases s <;> cases t <;> first | trivial | exact ⟨Ne.symm h.1, Ne.symm h.2⟩

/-- Same of two sides, as it is, and as the document says it. -/
def sameS : Option Sd → Option Sd → Bool
  | none, none => true
  | some s, some t => decide (s.L = t.L)
  | _, _ => false
theorem same_sides (w : World) (B G H : Nat) (s t : Option Sd) (hs : sdOk w B s G) (ht : sdOk w B t H) : Calls Try.prog 17 #[tV s, tV t] w fun e w' => e = .returned (.bool (sameS s t)) ∧ Below w.heap.size w w' := by
  cases s with
  | none =>
    cases t with
    | none => exact (same_nils w).mono fun e w' ⟨he, hw⟩ => ⟨he, hw ▸ Below.refl _ _⟩
    | some t => exact (same_nil w _ _ ht.st.tab ht.one ht.top).mono fun e w' ⟨he, hw⟩ => ⟨he, hw ▸ Below.refl _ _⟩
  | some s =>
    cases t with
    | none => exact (same_nil' w _ _ hs.st.tab hs.one hs.top).mono fun e w' ⟨he, hw⟩ => ⟨he, hw ▸ Below.refl _ _⟩
    | some t => exact same_c w _ _ _ _ hs.st.tab hs.one hs.top ht.st.tab ht.one ht.top
theorem rsame_sides (w : World) (B G H : Nat) (s t : Option Sd) (hs : sdOk w B s G) (ht : sdOk w B t H) : Calls Try.prog 18 #[rV s, rV t] w fun e w' => e = .returned (.bool (sameS s t)) ∧ Below w.heap.size w w' := by
  cases s with
  | none =>
    cases t with
    | none => exact (rsame_nils w).mono fun e w' ⟨he, hw⟩ => ⟨he, hw ▸ Below.refl _ _⟩
    | some t => exact (rsame_nil w _).mono fun e w' ⟨he, hw⟩ => ⟨he, hw ▸ Below.refl _ _⟩
  | some s =>
    cases t with
    | none => exact (rsame_nil' w _).mono fun e w' ⟨he, hw⟩ => ⟨he, hw ▸ Below.refl _ _⟩
    | some t => exact rsame_c w _ _ _ _ _ _ hs.st.ref hs.top ht.st.ref ht.top
theorem sameS_self (s : Option Sd) : sameS s s = true := by cases s <;> simp [sameS]
theorem same_self (w : World) (B G : Nat) (s : Option Sd) (hs : sdOk w B s G) : Calls Try.prog 17 #[tV s, tV s] w fun e w' => e = .returned (.bool true) ∧ Below w.heap.size w w' :=
  (same_sides w B G G s s hs hs).mono fun e w' ⟨he, hw⟩ => ⟨by rw [he, sameS_self], hw⟩
theorem run_neq_rV (s : Option Sd) (w : World) : (binOp .neq 40 (rV s) (.pointer none)).run Try.prog w = .ok (.bool s.isSome) w := by
  cases s with
  | none => kernel_rfl
  | some s => kernel_rfl
theorem run_guard_rV (s : Option Sd) (x y : Operand) (w : World) : (eqGuard .neq 40 x y (rV s) (.pointer none)).run Try.prog w = .ok () w := by
  cases s with
  | none => rfl
  | some s => rfl
/-- What one step of this side leaves. -/
def SidePost (w : World) (B G H : Nat) (t : Option Sd) (e : Ending) (w' : World) : Prop :=
  ∃ s', e = .returned (.tuple #[tV s', rV s', lV s', .bool true]) ∧ sdOk w' B s' (G + 1) ∧ sdOk w' B t H ∧ apartS s' t ∧ Below B w w'
theorem do_side (w : World) (B G H : Nat) (s t : Option Sd) (kd nn : Int) (odd : Bool) (hh : Int) (hs : sdOk w B s G) (h1 : s.isSome = true) (ht : sdOk w B t H) (ap : apartS s t) (hG : G ≤ 300) (hn : -9223372036854775808 ≤ nn ∧ nn ≤ 9223372036854775807) :
    Calls Try.prog 14 #[tV s, rV s, .agg #[.int .i64 kd, .int .i64 nn, .bool odd, .int .i64 hh], lV s] w (SidePost w B G H t) := by
  cases s with
  | none => cases h1
  | some s =>
    have hf := hs.few
    refine (do_c w B s.t s.r s.s s.L s.vl s.l kd nn odd hh G hs.st hs.one hs.top hs.gen (by omega) (by omega) hn).mono ?_
    rintro e w' ⟨t', L', vl', l', rfl, hst, hl, hg, hll, u, ht'⟩
    refine ⟨some ⟨t', s.r, s.s, L', vl', l'⟩, rfl, ⟨hst, by show 1 ≤ L'.length; have := hs.one; omega, by show L'.length ≤ 16; have := hs.top; omega, hg, by show l'.length ≤ G + 1; omega⟩, ?_, ?_, u.below hs.st.lt hs.st.ls hs.st.hB⟩
    · cases t with
      | none => trivial
      | some t => exact ⟨ht.st.other hs.st u (Ne.symm ap.1) (Ne.symm ap.2), ht.one, ht.top, ht.gen, ht.few⟩
    · cases t with
      | none => trivial
      | some t =>
        have l1 := has_lt ht.st.tab
        rcases ht' with rfl | ht'
        · exact ap
        · exact ⟨by show t' ≠ t.t; omega, ap.2⟩
/-- The two tables that New made, the program's and the document's, are a side. -/
theorem side_of {x : Int} {w1 w2 w : World} {lo mi B : Nat} {v u : Option Nat} (hv : v = none ∧ ¬ good x ∨ good x ∧ ∃ b, v = some b ∧ lo ≤ b ∧ w1.heap[b]? = some (tabO (fresh x)))
    (hu : u = none ∧ ¬ good x ∨ good x ∧ ∃ r s, u = some r ∧ mi ≤ r ∧ mi ≤ s ∧ RRef w2 r s (fresh x)) (b1 : Below w1.heap.size w1 w) (b2 : Below w2.heap.size w2 w) (hB : B ≤ lo) (hB2 : B ≤ mi) :
    ∃ s : Option Sd, ptrV v = tV s ∧ ptrV u = rV s ∧ lV s = .slice none 0 0 ∧ sdOk w B s 0 ∧ ∀ q, s = some q → lo ≤ q.t ∧ q.t < w1.heap.size ∧ mi ≤ q.s ∧ q.s < w2.heap.size := by
  rcases hv with ⟨rfl, hg⟩ | ⟨hg, b, rfl, hb, hc⟩
  · rcases hu with ⟨rfl, _⟩ | ⟨hg', _⟩
    · exact ⟨none, rfl, rfl, rfl, trivial, fun q h => by cases h⟩
    · exact absurd hg' hg
  · rcases hu with ⟨_, hg'⟩ | ⟨_, r, s, rfl, hr, hs, hR⟩
    · exact absurd hg hg'
    · have l1 := has_lt hc
      have l2 := has_lt hR.row
      have e1 : (fresh x).length = x.toNat := by simp [fresh]
      have g1 := hg.1
      have g2 := hg.2
      have z1 := b1.size
      refine ⟨some ⟨b, r, s, fresh x, .slice none 0 0, []⟩, rfl, rfl, rfl, ⟨⟨below_has b1 hc, hR.reads b2, World.ownsRow_nil _ _ _ _, fun _ => rfl, by show B ≤ b; omega, by show B ≤ r; omega, by show B ≤ s; omega, by omega⟩, by show 1 ≤ (fresh x).length; omega, by show (fresh x).length ≤ 16; omega, ?_, Nat.le_refl _⟩, fun q h => by cases h; exact ⟨hb, l1, hs, l2⟩⟩
      intro i
      show 0 ≤ gn (fresh x) i ∧ gn (fresh x) i ≤ 0
      unfold gn fresh
      simp only [List.getD_eq_getElem?_getD, List.getElem?_replicate]
      split <;> simp
theorem out3 {len j : Nat} {b : Bool} (h : ¬ (j < len ∧ j < 60 ∧ b = true)) : len ≤ j ∨ (j < len ∧ 60 ≤ j) ∨ (j < len ∧ j < 60 ∧ b = false) := by
  cases b <;> simp at h ⊢ <;> omega

set_option maxRecDepth 100000 in
set_option maxHeartbeats 2000000 in
theorem same_walk (w : World) (x0 x1 : Int) (a : Option Addr) (len cap : Nat) (hs : IsRows w stepSc a len) (a' : Option Addr) (len' cap' : Nat) (hs' : IsRows w stepSc a' len') :
    Calls Try.prog 5 #[.agg #[.int .i64 x0, .int .i64 x1], .slice a len cap, .slice a' len' cap'] w fun e w' => e = .returned (.bool true) ∧ Below w.heap.size w w' := by
  have hm := hs.max
  have hm' := hs'.max
  unfold maxLen at hm hm'
  have HS := Lib.hid hs
  have HS' := Lib.hid hs'
  clear hs hs'
  go_enter Try.func5, Try.ntmps5
  go_wp2_with fail
  refine calls_world (fun W => W.heap[w.heap.size]? = some (.cells #[.int .i64 x0, .int .i64 x1] 46 (0, 0)) ∧ Below w.heap.size w W) ⟨heap_alloc_new _ _, (Below.refl _ _).alloc (Nat.le_refl _) _⟩ ?_
  rintro W ⟨hx, hB⟩
  refine (new_any x0 W).mono ?_; rintro e w1 ⟨v, q, rfl, hb, hv⟩
  have hx1 := below_has hb hx
  have g0 := has_cell 0 hx1 rfl
  have g1 := has_cell 1 hx1 rfl
  have hB1 := below_reads hB hb hB.size
  have hBW := hB.size
  clear hx hB hb
  go_wp2_with fail
  refine (new_any x1 _).mono ?_; rintro e w2 ⟨v', q', rfl, hb, hv'⟩
  have hx2 := below_has hb hx1
  have g0 := has_cell 0 hx2 rfl
  have g1 := has_cell 1 hx2 rfl
  have hB2 := below_reads hB1 hb hB1.size
  have t1 := hb
  have z1 := hB1.size
  clear hx1 hB1 hb
  have HV := Lib.hid hv
  have HV' := Lib.hid hv'
  clear hv hv'
  go_wp2_with fail
  go_region_held3 (fun W' => W'.cell? ⟨w.heap.size, 0, none⟩ = some (.int .i64 x0) ∧ W'.cell? ⟨w.heap.size, 1, none⟩ = some (.int .i64 x1)) (first | exact ⟨g0, g1⟩ | exact ⟨by assumption, by assumption⟩)
    (first
      | (go_at_call_of 13 (Value.int IntKind.i64 x0); refine (rnew_any x0 _).mono ?_; rintro e w3 ⟨u, rfl, hb3, hu⟩; have hx3 := below_has hb3 hx2; have y1 := has_cell 0 hx3 rfl; have y2 := has_cell 1 hx3 rfl)
      | (go_at_call_of 13 (Value.int IntKind.i64 x1); refine (rnew_any x1 _).mono ?_; rintro e w4 ⟨u', rfl, hb4, hu'⟩; have hx4 := below_has hb4 hx3; have y1 := has_cell 0 hx4 rfl; have y2 := has_cell 1 hx4 rfl))
  have b34 : Below w3.heap.size w3 w4 := hb4
  have b23 : Below w2.heap.size w2 w3 := below_undrew hb3
  have b24 : Below w2.heap.size w2 w4 := b23.trans (b34.mono b23.size)
  have b12 : Below w1.heap.size w1 w2 := t1
  have b14 : Below w1.heap.size w1 w4 := b12.trans (b24.mono b12.size)
  have z2 := b12.size
  have z3 := b23.size
  have z4 := b34.size
  have hB4 : Below w.heap.size w w4 := hB2.trans (b24.mono hB2.size)
  obtain ⟨s, s1, s2, s3, hs, hsr⟩ := side_of (B := w.heap.size) (lo := W.heap.size) (mi := w2.heap.size) HV.out hu b14 b34 hBW (by omega)
  obtain ⟨t, t1, t2, t3, ht, htr⟩ := side_of (B := w.heap.size) (lo := w1.heap.size) (mi := w3.heap.size) HV'.out hu' b24 (Below.refl _ _) z1 (by omega)
  have ap : apartS s t := by
    cases s with
    | none => trivial
    | some s =>
      cases t with
      | none => trivial
      | some t =>
        obtain ⟨q1, q2, q3, q4⟩ := hsr _ rfl
        obtain ⟨r1, r2, r3, r4⟩ := htr _ rfl
        exact ⟨by omega, by omega⟩
  rw [s1, s2, t1, t2]
  have hsz : w.heap.size ≤ w4.heap.size := hB4.size
  clear s1 s2 t1 t2 hsr htr hu hu' HV HV' y1 y2 hx2 hx3 hx4 g0 g1 b34 b23 b24 b12 b14 z1 z2 z3 z4 hb3 hb4 hB2 hBW
  have S3 := Lib.hid s3
  have T3 := Lib.hid t3
  clear s3 t3
  go_wp2_with fail
  have rn := fun s w => run_neq_rV s w
  have rg := fun s x y w => run_guard_rV s x y w
  go_loopw [7, 11, 13, 14, 16] (fun x p ok l i wr => ∃ (s : Option Sd) (j : Nat), x = tV s ∧ p = rV s ∧ ok = .bool true ∧ l = lV s ∧ i = .int .i64 j ∧ j ≤ len ∧ j ≤ 60 ∧ sdOk wr w.heap.size s j ∧ sdOk wr w.heap.size t 0 ∧ apartS s t ∧ Below w.heap.size w wr) (fun _ _ _ _ i _ => len - (intOf i).toNat)
  case atStart => exact ⟨s, 0, rfl, rfl, rfl, S3.out.symm, rfl, by omega, by omega, hs, ht, ap, hB4⟩
  case round =>
    clear hs ht ap hB4 hsz
    obtain ⟨s1, j, rfl, rfl, rfl, rfl, rfl, hj, hj6, hs, ht, ap, hBr⟩ := hrel
    by_cases hgo : j < len ∧ j < 60 ∧ s1.isSome = true
    · obtain ⟨g1, g2, g3⟩ := hgo
      obtain ⟨b, off, kd, n, odd, hh, rfl, hn, hq⟩ := rows_cells HS.out g1
      obtain ⟨e0, e1, e2, e3⟩ := hq wr hBr
      clear hq
      go_wp2_with fail
      refine (do_side wr _ j 0 s1 t kd n odd hh hs g3 ht ap (by omega) hn).mono ?_; rintro e w5 ⟨s', rfl, hs', ht', ap', hB⟩
      have hB5 := hBr.trans hB
      clear hs ht ap hB hBr e0 e1 e2 e3 g3 hn
      go_wp2_with fail
      go_roundw
      case rel => exact ⟨s', j + 1, rfl, rfl, rfl, rfl, by go_num, by omega, by omega, hs', ht', ap', hB5⟩
      case measure => simp [intOf]; omega
    · have hout : len ≤ j ∨ (j < len ∧ 60 ≤ j) ∨ (j < len ∧ j < 60 ∧ s1.isSome = false) := out3 hgo
      clear hgo
      rcases hout with g1 | ⟨g1, g2⟩ | ⟨g1, g2, g3⟩
      all_goals
        go_wp2_with fail
        go_loopw [9, 12, 13, 15, 17] (fun x p ok l i wr => ∃ (t : Option Sd) (j' : Nat), x = tV t ∧ p = rV t ∧ ok = .bool true ∧ l = lV t ∧ i = .int .i64 j' ∧ j' ≤ len' ∧ j' ≤ 60 ∧ sdOk wr w.heap.size t j' ∧ sdOk wr w.heap.size s1 j ∧ apartS t s1 ∧ Below w.heap.size w wr) (fun _ _ _ _ i _ => len' - (intOf i).toNat)
        case atStart => exact ⟨t, 0, rfl, rfl, rfl, T3.out.symm, rfl, by omega, by omega, ht, hs, ap.symm, hBr⟩
        case round =>
          clear hs ht ap hBr
          obtain ⟨t1, j', rfl, rfl, rfl, rfl, rfl, hj', hj6', ht, hs, ap, hBr⟩ := hrel
          by_cases hgo : j' < len' ∧ j' < 60 ∧ t1.isSome = true
          · obtain ⟨g4, g5, g6⟩ := hgo
            obtain ⟨b, off, kd, n, odd, hh, rfl, hn, hq⟩ := rows_cells HS'.out g4
            obtain ⟨e0, e1, e2, e3⟩ := hq _ hBr
            clear hq
            go_wp2_with fail
            refine (do_side _ _ j' j t1 s1 kd n odd hh ht g6 hs ap (by omega) hn).mono ?_; rintro e w5 ⟨t', rfl, ht', hs', ap', hB⟩
            have hB5 := hBr.trans hB
            clear hs ht ap hB hBr e0 e1 e2 e3 g6 hn
            go_wp2_with fail
            go_roundw
            case rel => exact ⟨t', j' + 1, rfl, rfl, rfl, rfl, by go_num, by omega, by omega, ht', hs', ap', hB5⟩
            case measure => simp [intOf]; omega
          · have hout : len' ≤ j' ∨ (j' < len' ∧ 60 ≤ j') ∨ (j' < len' ∧ j' < 60 ∧ t1.isSome = false) := out3 hgo
            clear hgo
            rcases hout with g4 | ⟨g4, g5⟩ | ⟨g4, g5, g6⟩
            all_goals
              go_wp2_with fail
              refine (same_sides _ _ _ _ s1 t1 hs ht).mono ?_; rintro e w6 ⟨rfl, hb⟩
              have hs6 := hs.below hb
              have ht6 := ht.below hb
              have hB6 := below_reads hBr hb hBr.size
              clear hb hs ht hBr
              go_wp2_with fail
              refine (rsame_sides _ _ _ _ s1 t1 hs6 ht6).mono ?_; rintro e w7 ⟨rfl, hb⟩
              have hs7 := hs6.below hb
              have hB7 := below_reads hB6 hb hB6.size
              clear hb hs6 ht6 hB6
              generalize sameS s1 t1 = qq
              go_wp2_with fail
              refine (same_self _ _ _ s1 hs7).mono ?_; rintro e w8 ⟨rfl, hb⟩
              have hB8 := below_reads hB7 hb hB7.size
              clear hb hs7 hB7
              go_wp2_with fail
              refine (known_c _).mono ?_; rintro e w9 ⟨rfl, hb⟩
              have hB9 := below_reads hB8 hb hB8.size
              clear hb hB8
              go_wp2_with fail
              go_ret
              exact ⟨by simp, hB9⟩

theorem same_claim (w : World) (cs : Array Value) (hf : FitW [.i .i64, .i .i64] cs.toList) (a : Option Addr) (len cap : Nat) (hs : IsRows w stepSc a len) (a' : Option Addr) (len' cap' : Nat) (hs' : IsRows w stepSc a' len') :
    Calls Try.prog 5 #[.agg cs, .slice a len cap, .slice a' len' cap'] w fun e w' => e = .returned (.bool true) ∧ Below w.heap.size w w' := by
  obtain ⟨l⟩ := cs
  have hl : l.length = 2 := hf.len
  match l, hl with
  | [x, y], _ =>
    obtain ⟨⟨p, rfl, _⟩, ⟨q, rfl, _⟩, _⟩ := hf
    exact same_walk w p q a len cap hs a' len' cap' hs'
end Go.Proofs.Ytabbioclcjnjjaa
