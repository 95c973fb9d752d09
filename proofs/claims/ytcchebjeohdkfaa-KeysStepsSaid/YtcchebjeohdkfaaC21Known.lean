/- The chapter's rows: known and once tell true. Conditions: none. -/
import Derived.Test.YtcchebjeohdkfaaC21Next
import Derived.Test.YtcchebjeohdkfaaC21Once
namespace Go.Proofs.Ytcchebjeohdkfaa
open Go.RowKit

theorem makeF_ok {s : Ks} (ok : KOk s) (i : Nat) (d : Int) : KOk (makeF s i d) := ⟨ok.n1, ok.n2, ok.e⟩
theorem dropF_ok {s : Ks} (ok : KOk s) (i : Nat) : KOk (dropF s i) := ⟨ok.n1, ok.n2, ok.e⟩
theorem put_end {f : Nat → En} {t : Nat} {x : En} (h : ∀ i, (f i).round ≤ 4 ∧ (f i).at_ ≤ 8) (hx : x.round ≤ 4 ∧ x.at_ ≤ 8) : ∀ i, (put f t x i).round ≤ 4 ∧ (put f t x i).at_ ≤ 8 := fun i => by
  unfold put
  split
  · exact hx
  · exact h i
theorem clearF_ok {s : Ks} (ok : KOk s) (t : Nat) : KOk (clearF s t) := ⟨ok.n1, ok.n2, put_end ok.e ⟨Nat.zero_le _, Nat.zero_le _⟩⟩
theorem nextF_rng {n : Nat} {live : Nat → Bool} {e : En} (hn : n ≤ 8) (h1 : e.round ≤ 4) (h2 : e.at_ ≤ 8) : (nextF n live e).1.round ≤ 4 ∧ (nextF n live e).1.at_ ≤ 8 := by
  unfold nextF
  split
  · exact ⟨h1, h2⟩
  · cases hf : firstFrom live e.at_ n with
    | some i => have := first_some hf; exact ⟨h1, by show i + 1 ≤ 8; omega⟩
    | none =>
      dsimp only
      split
      · exact ⟨h1, by show max e.at_ n ≤ 8; omega⟩
      · rename_i hr
        have hr4 : e.round ≠ 4 := fun e' => hr (.inr e')
        cases hg : firstFrom live 0 n with
        | some i => have := first_some hg; exact ⟨by show e.round + 1 ≤ 4; omega, by show i + 1 ≤ 8; omega⟩
        | none => exact ⟨by show e.round + 1 ≤ 4; omega, hn⟩
theorem nextS_ok {s : Ks} (ok : KOk s) (t : Nat) : KOk (nextS s t) := by
  have hr := nextF_rng (n := s.n) (live := liveF s t) (e := ⟨max (s.e t).round 1, (s.e t).at_, (s.e t).some_, (s.e t).over⟩) ok.n2 (by have := (ok.e t).1; show max (s.e t).round 1 ≤ 4; omega) (ok.e t).2
  unfold nextS
  split
  · exact ⟨ok.n1, ok.n2, put_end ok.e hr⟩
  · exact ⟨ok.n1, ok.n2, put_end ok.e hr⟩
section
variable {w : World} {b : Nat} {s s' : Ks}
theorem create_x (i : Nat) (ii d : Int) (e : (i : Int) = ii) (h : w.heap[b]? = some (kO s)) (ok : KOk s) (hd : -1 ≤ d ∧ d < 32) (hf : freeF s = some i) (hs : makeF s i d = s') :
    Calls Try.prog 10 #[.pointer (some ⟨b, 0, none⟩), .int .i64 d] w fun e w' => e = .returned (.tuple #[.int .i64 ii, .int .i64 0]) ∧ Upd w b (kO s') w' := by
  subst e hs
  have := create_c w b s d h ok hd
  rw [hf] at this
  exact this
theorem create_full (d : Int) (h : w.heap[b]? = some (kO s)) (ok : KOk s) (hd : -1 ≤ d ∧ d < 32) (hf : freeF s = none) :
    Calls Try.prog 10 #[.pointer (some ⟨b, 0, none⟩), .int .i64 d] w fun e w' => e = .returned (.tuple #[.int .i64 0, .int .i64 5]) ∧ w = w' := by
  have := create_c w b s d h ok hd
  rw [hf] at this
  exact this
theorem set_x (t i v : Int) {z : Int} (h : w.heap[b]? = some (kO s)) (ok : KOk s) (he : eF s t i = z) (hs : setF s t i v = s') :
    Calls Try.prog 11 #[.pointer (some ⟨b, 0, none⟩), .int .i64 t, .int .i64 i, .int .i64 v] w fun e w' => e = .returned (.int .i64 z) ∧ Upd w b (kO s') w' := by subst he hs; exact set_c w b s t i v h ok
theorem get_x (t i : Int) {x z : Int} (h : w.heap[b]? = some (kO s)) (ok : KOk s) (hx : getF s t i = x) (he : eF s t i = z) :
    Calls Try.prog 12 #[.pointer (some ⟨b, 0, none⟩), .int .i64 t, .int .i64 i] w fun e w' => e = .returned (.tuple #[.int .i64 x, .int .i64 z]) ∧ Below w.heap.size w w' := by subst hx he; exact get_c w b s t i h ok
theorem next_x (t : Nat) (ti : Int) {p x : Int} {y : Bool} (e : (t : Int) = ti) (h : w.heap[b]? = some (kO s)) (ok : KOk s) (ht : t < 16) (hd : nextD s t = (p, x, y)) (hs : nextS s t = s') :
    Calls Try.prog 13 #[.pointer (some ⟨b, 0, none⟩), .int .i64 ti] w fun e w' => e = .returned (.tuple #[.agg #[.int .i64 p, .int .i64 x], .bool y]) ∧ Upd w b (kO s') w' := by
  subst e hs
  have := next_c w b s t h ok ht
  rw [hd] at this
  exact this
theorem round_x (t : Int) {z : Int} (h : w.heap[b]? = some (kO s)) (ok : KOk s) (hz : ((if thF t = true then (s.e t.toNat).round else 0 : Nat) : Int) = z) :
    Calls Try.prog 14 #[.pointer (some ⟨b, 0, none⟩), .int .i64 t] w fun e w' => e = .returned (.int .i64 z) ∧ w = w' := by subst hz; exact round_c w b s t h ok
theorem delete_x (i : Nat) (ii : Int) (e : (i : Int) = ii) (h : w.heap[b]? = some (kO s)) (ok : KOk s) (hi : i < s.n) (hm : (s.k i).is = true) (hs : dropF s i = s') :
    Calls Try.prog 26 #[.pointer (some ⟨b, 0, none⟩), .int .i64 ii] w fun e w' => e = .returned (.int .i64 0) ∧ Upd w b (kO s') w' := by subst e hs; exact delete_c w b s i h ok hi hm
theorem clear_x (t : Nat) (ti : Int) (e : (t : Int) = ti) (h : w.heap[b]? = some (kO s)) (ok : KOk s) (ht : t < 16) (hs : clearF s t = s') :
    Calls Try.prog 25 #[.pointer (some ⟨b, 0, none⟩), .int .i64 ti] w fun e w' => e = .returned (.int .i64 0) ∧ Upd w b (kO s') w' := by subst e hs; exact clear_c w b s t h ok ht
end
section
variable {w : World} {b : Nat} {o o' : Oc}
theorem ask_x (t : Int) {x z : Int} (h : w.heap[b]? = some (ocO o)) (hx : askS o t = x) (hz : askE o t = z) (ho : askO o t = o') :
    Calls Try.prog 16 #[.pointer (some ⟨b, 0, none⟩), .int .i64 t] w fun e w' => e = .returned (.tuple #[.int .i64 x, .int .i64 z]) ∧ Upd w b (ocO o') w' := by subst hx hz ho; exact ask_c w b o t h
theorem end_x (t : Int) (d : Bool) {z : Int} (h : w.heap[b]? = some (ocO o)) (hz : endE o t = z) (ho : endO o t d = o') :
    Calls Try.prog 18 #[.pointer (some ⟨b, 0, none⟩), .int .i64 t, .bool d] w fun e w' => e = .returned (.int .i64 z) ∧ Upd w b (ocO o') w' := by subst hz ho; exact end_c w b o t d h
end
theorem flat37 : flatAt Try.prog 3 37 = some [.i .i64, .i .i64] := by kernel_rfl
theorem eql37 (a b c d : Int) (w : World) : (binOp .eql 37 (.agg #[.int .i64 a, .int .i64 b]) (.agg #[.int .i64 c, .int .i64 d])).run Try.prog w = .ok (.bool (decide ((a, b) = (c, d)))) w := by
  rw [run_eql_flat (P := Try.prog) w 3 (t := 37) (xs := #[.int .i64 a, .int .i64 b]) (ys := #[.int .i64 c, .int .i64 d]) flat37 (by decide) (by kernel_rfl) ⟨⟨_, rfl⟩, ⟨_, rfl⟩, trivial⟩ ⟨⟨_, rfl⟩, ⟨_, rfl⟩, trivial⟩]
  congr 2
  rw [Bool.eq_iff_iff]
  simp [eqs, eqv]

set_option maxRecDepth 100000 in
theorem once_c (w : World) : Calls Try.prog 29 #[] w fun e w' => e = .returned (.bool true) ∧ Below w.heap.size w w' := by
  go_enter Try.func29, Try.ntmps29
  go_wp2_with fail
  refine (newo_c w).mono ?_; rintro e w0 ⟨rfl, hO, hB⟩
  go_wp2_with fail
  refine (ask_x (o := ⟨0, 0⟩) (o' := ⟨1, 1⟩) (x := 0) (z := 0) 1 hO rfl rfl rfl).mono ?_; rintro e w1 ⟨rfl, hU⟩
  replace hB := hB.trans (hU.below (Nat.le_refl _) hB.size)
  replace hO := hU.1
  clear hU
  go_wp2_with fail
  refine (ask_x (o := ⟨1, 1⟩) (o' := ⟨1, 1⟩) (x := 0) (z := 7) 1 hO rfl rfl rfl).mono ?_; rintro e w2 ⟨rfl, hU⟩
  replace hB := hB.trans (hU.below (Nat.le_refl _) hB.size)
  replace hO := hU.1
  clear hU
  go_wp2_with fail
  refine (ask_x (o := ⟨1, 1⟩) (o' := ⟨1, 1⟩) (x := 1) (z := 0) 2 hO rfl rfl rfl).mono ?_; rintro e w3 ⟨rfl, hU⟩
  replace hB := hB.trans (hU.below (Nat.le_refl _) hB.size)
  replace hO := hU.1
  clear hU
  go_wp2_with fail
  refine (end_x (o := ⟨1, 1⟩) (o' := ⟨0, 0⟩) (z := 0) 1 false hO rfl rfl).mono ?_; rintro e w4 ⟨rfl, hU⟩
  replace hB := hB.trans (hU.below (Nat.le_refl _) hB.size)
  replace hO := hU.1
  clear hU
  go_wp2_with fail
  refine (ask_x (o := ⟨0, 0⟩) (o' := ⟨1, 2⟩) (x := 0) (z := 0) 2 hO rfl rfl rfl).mono ?_; rintro e w5 ⟨rfl, hU⟩
  replace hB := hB.trans (hU.below (Nat.le_refl _) hB.size)
  replace hO := hU.1
  clear hU
  go_wp2_with fail
  refine (end_x (o := ⟨1, 2⟩) (o' := ⟨2, 0⟩) (z := 0) 2 true hO rfl rfl).mono ?_; rintro e w6 ⟨rfl, hU⟩
  replace hB := hB.trans (hU.below (Nat.le_refl _) hB.size)
  replace hO := hU.1
  clear hU
  go_wp2_with fail
  refine (ask_x (o := ⟨2, 0⟩) (o' := ⟨2, 0⟩) (x := 2) (z := 0) 1 hO rfl rfl rfl).mono ?_; rintro e w7 ⟨rfl, hU⟩
  replace hB := hB.trans (hU.below (Nat.le_refl _) hB.size)
  replace hO := hU.1
  clear hU
  go_wp2_with (go_at_call 9; refine (num_c _ _).mono ?_; rintro e w' ⟨rfl, rfl⟩)
  go_ret
  exact ⟨rfl, hB⟩

def s0 : Ks := newK 2
theorem s0_ok : KOk s0 := newK_ok (by decide) (by decide)
def s1 : Ks := makeF s0 0 3
theorem s1_ok : KOk s1 := makeF_ok s0_ok _ _
def s2 : Ks := makeF s1 1 (-1)
theorem s2_ok : KOk s2 := makeF_ok s1_ok _ _
def s3 : Ks := setF s2 1 0 7
theorem s3_ok : KOk s3 := setF_ok s2_ok _ _ _
def s4 : Ks := setF s3 1 1 8
theorem s4_ok : KOk s4 := setF_ok s3_ok _ _ _
def s5 : Ks := nextS s4 1
theorem s5_ok : KOk s5 := nextS_ok s4_ok _
def s6 : Ks := setF s5 1 0 9
theorem s6_ok : KOk s6 := setF_ok s5_ok _ _ _
def s7 : Ks := nextS s6 1
theorem s7_ok : KOk s7 := nextS_ok s6_ok _
def s8 : Ks := nextS s7 1
theorem s8_ok : KOk s8 := nextS_ok s7_ok _
def s9 : Ks := dropF s8 1
theorem s9_ok : KOk s9 := dropF_ok s8_ok _
def s10 : Ks := makeF s9 1 4
theorem s10_ok : KOk s10 := makeF_ok s9_ok _ _
def s11 : Ks := clearF s10 1
theorem s11_ok : KOk s11 := clearF_ok s10_ok _

set_option maxRecDepth 100000 in
set_option maxHeartbeats 4000000 in
theorem known_c (w : World) : Calls Try.prog 7 #[] w fun e w' => e = .returned (.bool true) ∧ Below w.heap.size w w' := by
  go_enter Try.func7, Try.ntmps7
  go_wp2_with fail
  refine (new_c w 2 (by decide) (by decide)).mono ?_; rintro e w0 ⟨rfl, hG, hB, _⟩
  have hG : w0.heap[w.heap.size]? = some (kO s0) := hG
  have hbl := has_lt hG
  go_wp2_with fail
  refine (create_x (s := s0) (s' := s1) 0 0 3 rfl hG s0_ok (by decide) (by decide) rfl).mono ?_; rintro e w1 ⟨rfl, hU⟩
  replace hB := hB.trans (hU.below (Nat.le_refl _) hB.size)
  replace hG := hU.1
  clear hU
  go_wp2_with fail
  refine (create_x (s := s1) (s' := s2) 1 1 (-1) rfl hG s1_ok (by decide) (by decide) rfl).mono ?_; rintro e w2 ⟨rfl, hU⟩
  replace hB := hB.trans (hU.below (Nat.le_refl _) hB.size)
  replace hG := hU.1
  clear hU
  go_wp2_with fail
  refine (create_full (s := s2) 0 hG s2_ok (by decide) (by decide)).mono ?_; rintro e w' ⟨rfl, rfl⟩
  go_wp2_with fail
  refine (create_bad _ _ s2 32 hG s2_ok (.inr (by decide))).mono ?_; rintro e w' ⟨rfl, rfl⟩
  go_wp2_with fail
  refine (set_x (s := s2) (s' := s3) (z := 0) 1 0 7 hG s2_ok (by decide) rfl).mono ?_; rintro e w3 ⟨rfl, hU⟩
  replace hB := hB.trans (hU.below (Nat.le_refl _) hB.size)
  replace hG := hU.1
  clear hU
  go_wp2_with fail
  refine (set_x (s := s3) (s' := s4) (z := 0) 1 1 8 hG s3_ok (by decide) rfl).mono ?_; rintro e w4 ⟨rfl, hU⟩
  replace hB := hB.trans (hU.below (Nat.le_refl _) hB.size)
  replace hG := hU.1
  clear hU
  go_wp2_with fail
  refine (get_x (s := s4) (x := 0) (z := 0) 2 0 hG s4_ok (by decide) (by decide)).mono ?_; rintro e w5 ⟨rfl, hb⟩
  replace hB := hB.trans (hb.mono hB.size)
  replace hG := below_has hb hG
  clear hb
  go_wp2_with fail
  refine (get_x (s := s4) (x := 0) (z := 6) 1 5 hG s4_ok (by decide) (by decide)).mono ?_; rintro e w6 ⟨rfl, hb⟩
  replace hB := hB.trans (hb.mono hB.size)
  replace hG := below_has hb hG
  clear hb
  go_wp2_with fail
  refine (next_x (s := s4) (s' := s5) 1 1 rfl hG s4_ok (by decide) (show nextD s4 1 = (3, 7, true) by decide) rfl).mono ?_; rintro e w7 ⟨rfl, hU⟩
  replace hB := hB.trans (hU.below (Nat.le_refl _) hB.size)
  replace hG := hU.1
  clear hU
  have hlt0 := has_lt hG
  go_upto_region 10 with fail
  refine world_wp (fun W => W.heap[w7.heap.size]? = some (.cells #[.int .i64 3, .int .i64 7] 37 (0, 0)) ∧ W.heap[w.heap.size]? = some (kO s5) ∧ Below w.heap.size w W) ⟨heap_alloc_new _ _, below_alloc_has hG, hB.alloc hB.size _⟩ ?_
  have hz0 := hB.size
  clear hG hB
  rintro w8 ⟨hP0, hG, hB⟩
  obtain ⟨p0, hp0⟩ : ∃ p, w7.heap.size = p := ⟨_, rfl⟩
  rw [hp0] at hP0 hz0 ⊢
  have hne0 : w.heap.size < p0 := by rw [← hp0]; exact hlt0
  clear hp0
  go_wp2_with fail
  refine (set_x (s := s5) (s' := s6) (z := 0) 1 0 9 hG s5_ok (by decide) rfl).mono ?_; rintro e w9 ⟨rfl, hU⟩
  replace hB := hB.trans (hU.below (Nat.le_refl _) hB.size)
  replace hG := hU.1
  replace hP0 := hU.other hP0 (by omega)
  clear hU
  go_wp2_with fail
  refine (next_x (s := s6) (s' := s7) 1 1 rfl hG s6_ok (by decide) (show nextD s6 1 = (3, 9, true) by decide) rfl).mono ?_; rintro e w10 ⟨rfl, hU⟩
  replace hB := hB.trans (hU.below (Nat.le_refl _) hB.size)
  replace hG := hU.1
  replace hP0 := hU.other hP0 (by omega)
  clear hU
  have hlt1 := has_lt hG
  go_upto_region 12 with fail
  refine world_wp (fun W => W.heap[w10.heap.size]? = some (.cells #[.int .i64 3, .int .i64 9] 37 (0, 0)) ∧ W.heap[w.heap.size]? = some (kO s7) ∧ Below w.heap.size w W ∧ W.heap[p0]? = some (.cells #[.int .i64 3, .int .i64 7] 37 (0, 0))) ⟨heap_alloc_new _ _, below_alloc_has hG, hB.alloc hB.size _, below_alloc_has hP0⟩ ?_
  have hz1 := hB.size
  clear hG hB hP0
  rintro w11 ⟨hP1, hG, hB, hP0⟩
  obtain ⟨p1, hp1⟩ : ∃ p, w10.heap.size = p := ⟨_, rfl⟩
  rw [hp1] at hP1 hz1 ⊢
  have hne1 : w.heap.size < p1 := by rw [← hp1]; exact hlt1
  clear hp1
  go_wp2_with fail
  refine (round_x (s := s7) (z := 2) 1 hG s7_ok (by decide)).mono ?_; rintro e w' ⟨rfl, rfl⟩
  go_wp2_with fail
  refine (next_x (s := s7) (s' := s8) 1 1 rfl hG s7_ok (by decide) (show nextD s7 1 = (0, 0, false) by decide) rfl).mono ?_; rintro e w12 ⟨rfl, hU⟩
  replace hB := hB.trans (hU.below (Nat.le_refl _) hB.size)
  replace hG := hU.1
  replace hP0 := hU.other hP0 (by omega)
  replace hP1 := hU.other hP1 (by omega)
  clear hU
  have hlt2 := has_lt hG
  go_upto_region 14 with fail
  refine world_wp (fun W => W.heap[w12.heap.size]? = some (.cells #[.int .i64 0, .int .i64 0] 37 (0, 0)) ∧ W.heap[w.heap.size]? = some (kO s8) ∧ Below w.heap.size w W ∧ W.heap[p0]? = some (.cells #[.int .i64 3, .int .i64 7] 37 (0, 0)) ∧ W.heap[p1]? = some (.cells #[.int .i64 3, .int .i64 9] 37 (0, 0))) ⟨heap_alloc_new _ _, below_alloc_has hG, hB.alloc hB.size _, below_alloc_has hP0, below_alloc_has hP1⟩ ?_
  have hz2 := hB.size
  clear hG hB hP0 hP1
  rintro w13 ⟨hP2, hG, hB, hP0, hP1⟩
  obtain ⟨p2, hp2⟩ : ∃ p, w12.heap.size = p := ⟨_, rfl⟩
  rw [hp2] at hP2 hz2 ⊢
  have hne2 : w.heap.size < p2 := by rw [← hp2]; exact hlt2
  clear hp2
  go_wp2_with fail
  refine (delete_x (s := s8) (s' := s9) 1 1 rfl hG s8_ok (by decide) (by decide) rfl).mono ?_; rintro e w14 ⟨rfl, hU⟩
  replace hB := hB.trans (hU.below (Nat.le_refl _) hB.size)
  replace hG := hU.1
  replace hP0 := hU.other hP0 (by omega)
  replace hP1 := hU.other hP1 (by omega)
  replace hP2 := hU.other hP2 (by omega)
  clear hU
  go_wp2_with fail
  refine (create_x (s := s9) (s' := s10) 1 1 4 rfl hG s9_ok (by decide) (by decide) rfl).mono ?_; rintro e w15 ⟨rfl, hU⟩
  replace hB := hB.trans (hU.below (Nat.le_refl _) hB.size)
  replace hG := hU.1
  replace hP0 := hU.other hP0 (by omega)
  replace hP1 := hU.other hP1 (by omega)
  replace hP2 := hU.other hP2 (by omega)
  clear hU
  go_wp2_with fail
  refine (get_x (s := s10) (x := 0) (z := 0) 1 1 hG s10_ok (by decide) (by decide)).mono ?_; rintro e w16 ⟨rfl, hb⟩
  replace hB := hB.trans (hb.mono hB.size)
  replace hG := below_has hb hG
  replace hP0 := below_has hb hP0
  replace hP1 := below_has hb hP1
  replace hP2 := below_has hb hP2
  clear hb
  go_wp2_with fail
  refine (clear_x (s := s10) (s' := s11) 1 1 rfl hG s10_ok (by decide) rfl).mono ?_; rintro e w17 ⟨rfl, hU⟩
  replace hB := hB.trans (hU.below (Nat.le_refl _) hB.size)
  replace hG := hU.1
  replace hP0 := hU.other hP0 (by omega)
  replace hP1 := hU.other hP1 (by omega)
  replace hP2 := hU.other hP2 (by omega)
  clear hU
  go_wp2_with fail
  refine (round_x (s := s11) (z := 0) 1 hG s11_ok (by decide)).mono ?_; rintro e w' ⟨rfl, rfl⟩
  go_wp2_with fail
  refine (once_c _).mono ?_; rintro e w40 ⟨rfl, hb⟩
  replace hB := hB.trans (hb.mono hB.size)
  replace hP0 := below_has hb hP0
  replace hP1 := below_has hb hP1
  clear hb hG hP2
  have x0 := has_cell 0 hP0 rfl
  have x1 := has_cell 1 hP0 rfl
  have y0 := has_cell 0 hP1 rfl
  have y1 := has_cell 1 hP1 rfl
  have e1 := fun w => eql37 3 7 3 7 w
  have e2 := fun w => eql37 3 9 3 9 w
  rw [decide_eq_true rfl] at e1 e2
  clear hP0 hP1
  go_wp2_with (go_at_call 9; refine (num_c _ _).mono ?_; rintro e w' ⟨rfl, rfl⟩)
  go_ret
  exact ⟨rfl, hB⟩
end Go.Proofs.Ytcchebjeohdkfaa
