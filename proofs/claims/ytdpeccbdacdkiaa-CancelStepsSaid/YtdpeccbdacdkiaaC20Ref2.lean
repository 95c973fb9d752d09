/- What the document's cancellation computes where it pushes and pops, over the translation of this seat. Conditions: the blocks that are named hold what is said. -/
import Derived.Test.YtdpeccbdacdkiaaC20Ref
import Derived.Deep.AppendLies
namespace Go.Proofs.Ytdpeccbdacdkiaa
open Go.RowKit

theorem rpush_bad (w : World) (r : Nat) (s : Cs) (v : Value) (p q : Int) (hp : p < 0 ∨ 32 ≤ p) :
    Calls Try.prog 28 #[.pointer (some ⟨r, 0, none⟩), .agg #[.int .i64 p, .int .i64 q]] w fun e w' => e = .returned (.int .i64 2) ∧ Below w.heap.size w w' := by
  rcases hp with hp | hp
  · go_enter Try.func28, Try.ntmps28
    go_wp2
    go_ret
    exact ⟨rfl, (Below.refl _ _).alloc (Nat.le_refl _) _⟩
  · have hp0 : ¬ p < 0 := by omega
    go_enter Try.func28, Try.ntmps28
    go_wp2
    go_ret
    exact ⟨rfl, (Below.refl _ _).alloc (Nat.le_refl _) _⟩
theorem rpush_full (w : World) (B r : Nat) (s : Cs) (v : Value) (p q : Int) (h : RRef w B r s v) (hl : s.L.length = 8) (hp0 : 0 ≤ p) (hp1 : p < 32) :
    Calls Try.prog 28 #[.pointer (some ⟨r, 0, none⟩), .agg #[.int .i64 p, .int .i64 q]] w fun e w' => e = .returned (.int .i64 5) ∧ Below w.heap.size w w' := by
  obtain ⟨a, cap, rfl, _⟩ := own_row h.own h.nil
  rw [hl] at h
  have H := Lib.hid h.ref
  clear h hl
  go_enter Try.func28, Try.ntmps28
  go_upto_region 1 with fail
  refine world_wp (fun W => Below w.heap.size w W ∧ W.heap[w.heap.size]? = some (.cells #[.int .i64 p, .int .i64 q] 30 (0, 0))) ⟨(Below.refl _ _).alloc (Nat.le_refl _) _, heap_alloc_new _ _⟩ ?_
  rintro W ⟨hB, hX⟩
  have hR := below_has hB H.out
  have c4 := has_cell 4 hR rfl
  have x0 := has_cell 0 hX rfl
  have x1 := has_cell 1 hX rfl
  go_wp2_with fail
  go_ret
  exact ⟨rfl, hB⟩
theorem rset_fin {w W W3 : World} {B r : Nat} {s : Cs} {v0 v : Value} {xs : List Value} {m : Nat} {M : List (Int × Int)} (hB : Below w.heap.size w W) (b3 : Below W.heap.size W W3) (zr : W3.heap[r]? = some (refO s v0))
    (p9 : W3.ownsRow B 30 2 v m xs) (hx : xs = rowC M) (hm : m = M.length) (hn : M = [] → v = .slice none 0 0) : RRef (W3.setCell ⟨r, 4, none⟩ v) B r { s with L := M } v ∧ Upd w r (refO { s with L := M } v) (W3.setCell ⟨r, 4, none⟩ v) := by
  subst hx
  subst hm
  have U0 := ((Upd.refl zr).setCell 4 v)
  have U : Upd w r (refO { s with L := M } v) (W3.setCell ⟨r, 4, none⟩ v) := Upd.after (hB.trans (b3.mono hB.size)) (U0.to rfl)
  exact ⟨⟨U.1, own_upd p9 U0 (own_far p9 zr (by decide)), hn⟩, U⟩
theorem rpush_c (w : World) (B r : Nat) (s : Cs) (v : Value) (p q : Int) (h : RRef w B r s v) (hl : s.L.length < 8) (hp0 : 0 ≤ p) (hp1 : p < 32) (hB0 : B ≤ w.heap.size) :
    Calls Try.prog 28 #[.pointer (some ⟨r, 0, none⟩), .agg #[.int .i64 p, .int .i64 q]] w fun e w' => ∃ v', e = .returned (.int .i64 0) ∧ RRef w' B r { s with L := s.L ++ [(p, q)] } v' ∧ Upd w r (refO { s with L := s.L ++ [(p, q)] } v') w' := by
  obtain ⟨a, cap, e7, _⟩ := own_row h.own h.nil
  have H := Lib.hid h
  have hne : ((s.L.length : Int) == 8) = false := by rw [beq_eq_false_iff_ne]; omega
  have hl1 : s.L.length ≤ 1000 := by omega
  clear h
  go_enter Try.func28, Try.ntmps28
  go_upto_region 1 with fail
  refine world_wp (fun W => Below w.heap.size w W ∧ W.heap[w.heap.size]? = some (.cells #[.int .i64 p, .int .i64 q] 30 (0, 0)) ∧ w.heap.size < W.heap.size) ⟨(Below.refl _ _).alloc (Nat.le_refl _) _, heap_alloc_new _ _, by simp⟩ ?_
  rintro W ⟨hB, hX, hsz⟩
  have hR := below_has hB H.out.ref
  have hO := own_below H.out.own hB
  have hN := H.out.nil
  subst e7
  have c4 := has_cell 4 hR rfl
  have x0 := has_cell 0 hX rfl
  have x1 := has_cell 1 hX rfl
  have HO := Lib.hid hO
  have HN := Lib.hid hN
  clear hO hN
  go_upto_region 7 with fail
  have ha : Below W.heap.size W (W.alloc (.cells #[.int .i64 p, .int .i64 q] 30)) := (Below.refl _ _).alloc (Nat.le_refl _) _
  have ca := keep_alloc (o := .cells #[.int .i64 p, .int .i64 q] 30) c4
  have hBW : B ≤ W.heap.size := by omega
  have hRa := below_has ha hR
  go_region_law (first
      | (refine step_list (B := B) (L := s.L) rfl (.const (.slice none 0 0)) (.tmp 25) rfl rfl (.slice a s.L.length cap) rfl HO.out hl1 ?_; intro v2 W2 p2 b2 n2
         have y1 : W2.cell? ⟨r, 4, none⟩ = some (.slice a s.L.length cap) := (b2.cell (p := ⟨r, 4, none⟩) (has_lt hR)).trans c4
         have y2 : W2.cell? ⟨w.heap.size, 0, none⟩ = some (.int .i64 p) := (b2.cell (p := ⟨w.heap.size, 0, none⟩) (has_lt hX)).trans x0
         have y3 : W2.cell? ⟨w.heap.size, 1, none⟩ = some (.int .i64 q) := (b2.cell (p := ⟨w.heap.size, 1, none⟩) (has_lt hX)).trans x1)
      | (refine step_list (B := B) (L := s.L) rfl (.const (.slice none 0 0)) (.tmp 25) rfl rfl (.slice a s.L.length cap) rfl (HO.out.alloc (.cells #[.int .i64 p, .int .i64 q] 30)) hl1 ?_; intro v2 W2 p2 b2 n2
         have hg := below_has b2 (heap_alloc_new W (.cells #[.int .i64 p, .int .i64 q] 30))
         have b9 : Below W.heap.size W W2 := ha.trans (Below.mono (below_undrew b2) ha.size)
         have y4 := has_cell 0 hg rfl
         have y5 := has_cell 1 hg rfl)
      | (refine step_one rfl (.tmp 26) (.tmp 28) rfl v2 rfl (p2.alloc _) W2.heap.size rfl p q (has_cell 0 (heap_alloc_new _ _) rfl) (has_cell 1 (heap_alloc_new _ _) rfl) hl1 (by have := b2.size; simp at this ⊢; omega) ?_; intro v3 W3 p3 q3
         have b3 : Below W.heap.size W W3 := below_undrew <| (b2.alloc b2.size _).trans (below_of_grown (p2.alloc _) q3 (Nat.le_refl _) (by have := b2.size; simp at this ⊢; omega))
         have zr := below_has b3 hR
         have zf := has_free zr
         have z4 := has_cell 4 zr rfl
         obtain ⟨g3, cap3, rfl, _⟩ := p3.form (by omega)
         have p9 := own_mono p3 (B := B) (by simp; omega))
      | (refine step_one rfl (.tmp 26) (.tmp 28) rfl v2 rfl p2 W.heap.size rfl p q y4 y5 hl1 (by have := b2.size; simp at this ⊢; omega) ?_; intro v3 W3 p3 q3
         have b3 : Below W.heap.size W W3 := b9.trans (below_of_grown p2 q3 (by simp) (by have := b9.size; omega))
         have zr := below_has b3 hR
         have zf := has_free zr
         have z4 := has_cell 4 zr rfl
         obtain ⟨g3, cap3, rfl, _⟩ := p3.form (by omega)
         have p9 := own_mono p3 (B := B) (by simp; omega)))
  all_goals go_wp2_with fail
  all_goals go_ret
  all_goals exact ⟨_, rfl, rset_fin hB b3 zr p9 (by simp [rowC, plc]) (by simp) (by simp)⟩
theorem rpop_none (w : World) (B r : Nat) (s : Cs) (v : Value) (h : RRef w B r s v) (hl : s.L = []) :
    Calls Try.prog 29 #[.pointer (some ⟨r, 0, none⟩)] w fun e w' => e = .returned (.tuple #[.agg #[.int .i64 0, .int .i64 0], .int .i64 6]) ∧ Below w.heap.size w w' := by
  obtain rfl := h.nil hl
  have H := Lib.hid h.ref
  clear h hl
  go_enter Try.func29, Try.ntmps29
  go_upto_region 1 with fail
  refine world_wp (fun W => Below w.heap.size w W ∧ W.heap[w.heap.size]? = some (.cells #[.int .i64 0, .int .i64 0] 30 (0, 0))) ⟨(Below.refl _ _).alloc (Nat.le_refl _) _, heap_alloc_new _ _⟩ ?_
  rintro W ⟨hB, hX⟩
  have hR := below_has hB H.out
  have c4 := has_cell 4 hR rfl
  have x0 := has_cell 0 hX rfl
  have x1 := has_cell 1 hX rfl
  have fx := has_free hX
  have hB2 : Below w.heap.size w ((W.setCell ⟨w.heap.size, 0, none⟩ (.int .i64 0)).setCell ⟨w.heap.size, 1, none⟩ (.int .i64 0)) := (hB.setCell (Nat.le_refl _) _).setCell (Nat.le_refl _) _
  have hX2 := (((Upd.refl hX).setCell 0 (.int .i64 0)).setCell 1 (.int .i64 0)).1
  have q0 := has_cell 0 hX2 rfl
  have q1 := has_cell 1 hX2 rfl
  go_wp2_with fail
  refine bodyPost_ret (v := .tuple #[.agg #[.int .i64 0, .int .i64 0], .int .i64 6]) ?_ rfl ⟨rfl, hB2⟩
  simp [results, Try.f29, go_sem, q0, q1]
/-- A row without its last element. -/
theorem own_init {w : World} {B g cap : Nat} {M : List (Int × Int)} {x : Int × Int} (h : w.ownsRow B 30 2 (.slice (some ⟨g, 0, none⟩) (M.length + 1) cap) (M.length + 1) (rowC (M ++ [x]))) : w.ownsRow B 30 2 (.slice (some ⟨g, 0, none⟩) M.length cap) M.length (rowC M) := by
  refine ⟨rowC_length M, .inr ?_⟩
  rcases h.2 with ⟨h0, _⟩ | ⟨g', cap', cur, hv, hb, hg, hc, hm, hs, ht⟩
  · cases h0
  · injection hv with h1 h2 h3
    injection h1 with h1
    injection h1 with h1
    subst h1
    subst h3
    refine ⟨_, _, cur, rfl, hb, hg, by omega, hm, hs, ?_⟩
    have := congrArg (List.take (M.length * 2)) ht
    rw [List.take_take, rowC_append, List.take_left' (by rw [rowC_length])] at this
    rw [← this]
    congr 1
    omega
theorem own_apart {w : World} {B b : Nat} {e : TypeId} {k : Nat} {v : Value} {n : Nat} {xs : List Value} (h : w.ownsRow B e k v n xs) (hb : b < B) : v.ownBlock ≠ some b := by
  rcases h.2 with ⟨rfl, _⟩ | ⟨g, cap, cur, rfl, hg, _⟩
  · simp [Value.ownBlock]
  · simp only [Value.ownBlock, ne_eq, Option.some.injEq]; omega
theorem RRef.upd {w w' : World} {B r d : Nat} {o : Obj} {s : Cs} {v : Value} (h : RRef w B r s v) (u : Upd w d o w') (h1 : r ≠ d) (h2 : v.ownBlock ≠ some d) : RRef w' B r s v :=
  ⟨u.other h.ref h1, own_upd h.own u h2, h.nil⟩
theorem RRef.reads {w w' : World} {B r : Nat} {s : Cs} {v : Value} (h : RRef w B r s v) (u : Below w.heap.size w w') : RRef w' B r s v :=
  ⟨below_has u h.ref, own_below h.own u, h.nil⟩
theorem own_shp {w : World} {B : Nat} {e : TypeId} {k : Nat} {v : Value} {n : Nat} {xs : List Value} (h : w.ownsRow B e k v n xs) : ∃ (a : Option Addr) (cap : Nat), v = .slice a n cap := by
  rcases h.2 with ⟨rfl, h0⟩ | ⟨g, cap, cur, rfl, _⟩
  · exact ⟨none, 0, by rw [h0]⟩
  · exact ⟨_, _, rfl⟩
theorem rpop_c (w : World) (B r : Nat) (s : Cs) (v : Value) (M : List (Int × Int)) (p q : Int) (h : RRef w B r s v) (hl8 : s.L.length ≤ 8) (hM : s.L = M ++ [(p, q)]) (hB0 : B ≤ w.heap.size) :
    Calls Try.prog 29 #[.pointer (some ⟨r, 0, none⟩)] w fun e w' => ∃ v', e = .returned (.tuple #[.agg #[.int .i64 p, .int .i64 q], .int .i64 0]) ∧ RRef w' B r { s with L := M } v' ∧ Upd w r (refO { s with L := M } v') w' := by
  have hlen : s.L.length = M.length + 1 := by rw [hM]; simp
  obtain ⟨a, cap, e7, k7⟩ := own_row h.own h.nil
  obtain ⟨g, rfl, hBg, hg, hc, hcell⟩ := k7 (by omega)
  subst e7
  have hat := at_last M p q
  rw [← hM] at hat
  obtain ⟨e0, e1⟩ := hcell M.length (by omega)
  rw [hat.1] at e0
  rw [hat.2] at e1
  have hown := h.own
  rw [hlen, hM] at hown
  have hin := own_init hown
  have hR := h.ref
  rw [hlen] at hR
  clear h k7 hcell hat hown
  obtain ⟨n, hn⟩ : ∃ n, n = M.length := ⟨_, rfl⟩
  rw [← hn] at hR e0 e1 hlen hin
  obtain ⟨m, hm⟩ : ∃ m, m = n + 1 := ⟨_, rfl⟩
  rw [← hm] at hR hlen
  have hni : (n : Int) < 8 := by omega
  have hn0 : (0 : Int) ≤ (n : Int) := by omega
  have hnm : (n : Int) < (m : Int) := by omega
  have hne : ((m : Int) == 0) = false := by rw [beq_eq_false_iff_ne]; omega
  have hwr : IntKind.i64.wrap ((m : Int) - 1) = (n : Int) := by rw [show (m : Int) - 1 = n by omega]; exact IntWalk.i64_in _ (by omega)
  have hcap : (n : Int) ≤ (cap : Int) := by omega
  have hmc : (m : Int) ≤ (cap : Int) := by omega
  have HM := Lib.hid hm
  clear hm
  have HR := Lib.hid hR
  have HI := Lib.hid hin
  have HN := Lib.hid hn
  clear hR hin hn
  go_enter Try.func29, Try.ntmps29
  go_upto_region 1 with fail
  refine world_wp (fun W => Below w.heap.size w W ∧ W.heap[w.heap.size]? = some (.cells #[.int .i64 0, .int .i64 0] 30 (0, 0))) ⟨(Below.refl _ _).alloc (Nat.le_refl _) _, heap_alloc_new _ _⟩ ?_
  rintro W ⟨hB, hX⟩
  have hR1 := below_has hB HR.out
  have c4 := has_cell 4 hR1 rfl
  have e0' : W.cell? ⟨g, n * 2, none⟩ = some (.int .i64 p) := (hB.cell (p := ⟨g, n * 2, none⟩) hg).trans e0
  have e1' : W.cell? ⟨g, n * 2 + 1, none⟩ = some (.int .i64 q) := (hB.cell (p := ⟨g, n * 2 + 1, none⟩) hg).trans e1
  go_upto_region 5 with fail
  go_region_held3 (fun W' => W'.cell? ⟨r, 4, none⟩ = some (.slice (some ⟨g, 0, none⟩) m cap) ∧ W'.cell? ⟨g, n * 2, none⟩ = some (.int .i64 p) ∧ W'.cell? ⟨g, n * 2 + 1, none⟩ = some (.int .i64 q)) (first | exact ⟨c4, e0', e1'⟩ | exact ⟨keep_alloc c4, keep_alloc e0', keep_alloc e1'⟩) (first | fail)
  go_upto_region 6 with fail
  refine world_wp (fun W2 => Below W.heap.size W W2 ∧ W2.heap[W.heap.size]? = some (.cells #[.int .i64 p, .int .i64 q] 30 (0, 0))) ⟨below_drewN ((Below.refl _ _).alloc (Nat.le_refl _) _) 1, heap_alloc_new _ _⟩ ?_
  rintro W2 ⟨hB2, hT⟩
  have hR2 := below_has hB2 hR1
  have hX2 := below_has hB2 hX
  have c4 := has_cell 4 hR2 rfl
  have hI := own_below HI.out (below_reads hB hB2 hB.size)
  have hBw : B ≤ W2.heap.size := by have := hB.size; have := hB2.size; omega
  have HO := Lib.hid hI
  have hMl : M.length ≤ 1000 := by have := HN.out; omega
  have HML := Lib.hid hMl
  have hz1 := hB.size
  have hz2 := hB2.size
  clear hI e0 e1 e0' e1' hMl
  go_region_law (first
      | (refine step_list (B := B) (L := M) rfl (.const (.slice none 0 0)) (.tmp 38) rfl rfl (.slice (some ⟨g, 0, none⟩) n cap) rfl (by rw [← HN.out]; exact HO.out) HML.out ?_; intro v3 W3 p3 b3' n3
         have b3 : Below W2.heap.size W2 W3 := below_undrew b3'
         have zr := below_has b3 hR2
         have zf := has_free zr
         have z4 := has_cell 4 zr rfl
         have p9 := own_mono p3 (B := B) hBw
         obtain ⟨a3, cap3, rfl⟩ := own_shp p3))
  all_goals go_upto_region 7 with fail
  all_goals
    have hz3 := b3.size
    have hrw := has_lt HR.out
    have hne2 := own_apart p3 (b := w.heap.size) (by simp; have := has_lt hX; omega)
    have hT3 := below_has b3 hT
    have hX3 := below_has b3 hX2
    have hwX := has_lt hX
    have hfin := rset_fin (s := s) (hB.trans (hB2.mono hB.size)) b3 zr p9 rfl rfl n3
    refine world_wp (fun W4 => RRef W4 B r { s with L := M } (.slice a3 M.length cap3) ∧ Upd w r (refO { s with L := M } (.slice a3 M.length cap3)) W4 ∧ W4.heap[W.heap.size]? = some (.cells #[.int .i64 p, .int .i64 q] 30 (0, 0)) ∧ W4.heap[w.heap.size]? = some (.cells #[.int .i64 0, .int .i64 0] 30 (0, 0)))
      ⟨hfin.1, hfin.2, (Below.heap_setCell _ _ _ _ (by show W.heap.size ≠ r; omega)).trans hT3, (Below.heap_setCell _ _ _ _ (by show w.heap.size ≠ r; omega)).trans hX3⟩ ?_
    clear p3 b3 zr zf z4 p9 n3 hfin hT3 hX3 c4 hR2 hX2 HO
    rintro W4 ⟨hF, uF, hT4, hX4⟩
    have t0 := has_cell 0 hT4 rfl
    have t1 := has_cell 1 hT4 rfl
    have x0 := has_cell 0 hX4 rfl
    have x1 := has_cell 1 hX4 rfl
    have fx := has_free hX4
    have u4 := (((Upd.refl hX4).setCell 0 (.int .i64 p)).setCell 1 (.int .i64 q))
    have q0 := has_cell 0 u4.1 rfl
    have q1 := has_cell 1 u4.1 rfl
    have hF5 := hF.upd u4 (by omega) hne2
    have uw := uF.setNew (p := ⟨w.heap.size, 0, none⟩) (Nat.le_refl _) (by show r ≠ w.heap.size; omega) (.int .i64 p)
    have uw2 := uw.setNew (p := ⟨w.heap.size, 1, none⟩) (Nat.le_refl _) (by show r ≠ w.heap.size; omega) (.int .i64 q)
    go_wp2_with fail
    refine bodyPost_ret (v := .tuple #[.agg #[.int .i64 p, .int .i64 q], .int .i64 0]) ?_ rfl ⟨_, rfl, hF5, uw2⟩
    simp [results, Try.f29, go_sem, q0, q1]
theorem runwind_c (w : World) (B r : Nat) (s : Cs) (v : Value) (h : RRef w B r s v) :
    Calls Try.prog 30 #[.pointer (some ⟨r, 0, none⟩)] w fun e w' => e = .returned (.int .i64 (if s.un = true then 7 else 0)) ∧ RRef w' B r { s with un := true } v ∧ Upd w r (refO { s with un := true } v) w' := by
  have hr := h.ref
  have hne := own_far h.own hr (by decide)
  have H := Lib.hid h
  clear h
  obtain ⟨ak, on, ay, un, L⟩ := s
  have c3 := has_cell 3 hr rfl
  have fz := has_free hr
  cases un
  · have u := ((Upd.refl hr).setCell 3 (.bool true))
    have hF : RRef _ B r ⟨ak, on, ay, true, L⟩ v := ⟨u.1, own_upd H.out.own u hne, H.out.nil⟩
    have u' : Upd w r (refO ⟨ak, on, ay, true, L⟩ v) _ := u.to rfl
    go_enter Try.func30, Try.ntmps30
    go_wp2_with fail
    go_ret
    exact ⟨rfl, hF, u'⟩
  · have u' : Upd w r (refO ⟨ak, on, ay, true, L⟩ v) w := Upd.refl hr
    have hF := H.out
    go_enter Try.func30, Try.ntmps30
    go_wp2_with fail
    go_ret
    exact ⟨rfl, hF, u'⟩
end Go.Proofs.Ytdpeccbdacdkiaa
