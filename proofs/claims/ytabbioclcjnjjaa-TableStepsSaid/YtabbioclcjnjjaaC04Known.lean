/- The chapter's rows of tables: 'known' returns true. No conditions. -/
import Derived.Test.YtabbioclcjnjjaaC04Law
namespace Go.Proofs.Ytabbioclcjnjjaa
open Go.RowKit

theorem add_x {w : World} {b : Nat} {L L' : List (Bool × Int)} {i : Nat} {x : Int} (h : w.heap[b]? = some (tabO L)) (h1 : 1 ≤ L.length) (h2 : L.length ≤ 16) (hg : genOk L 900) (hf : freeF L = some i) (hx : (i : Int) + 16 * (gn L i + 1) = x) (hL : L.set i (true, gn L i + 1) = L') :
    Calls Try.prog 9 #[.pointer (some ⟨b, 0, none⟩)] w fun e w' => e = .returned (.tuple #[.int .i64 x, .int .i64 0]) ∧ Upd w b (tabO L') w' := by
  have := add_c w b L i h h1 h2 hg hf
  rwa [hx, hL] at this
theorem drop_x {w : World} {b : Nat} {L L' : List (Bool × Int)} {hd : Int} {i : Nat} (h : w.heap[b]? = some (tabO L)) (h1 : 1 ≤ L.length) (h2 : L.length ≤ 16) (hg : genOk L 1000) (hf : atF L hd = some i) (hL : L.set i (false, gn L i) = L') :
    Calls Try.prog 10 #[.pointer (some ⟨b, 0, none⟩), .int .i64 hd] w fun e w' => e = .returned (.int .i64 0) ∧ Upd w b (tabO L') w' := by
  have := drop_c w b L hd i h h1 h2 hg hf
  rwa [hL] at this
theorem at_x {w : World} {b : Nat} {L : List (Bool × Int)} {hd x : Int} {y : Bool} (h : w.heap[b]? = some (tabO L)) (h1 : 1 ≤ L.length) (h2 : L.length ≤ 16) (hg : genOk L 1000) (hf : atV (atF L hd) = .tuple #[.int .i64 x, .bool y]) :
    Calls Try.prog 11 #[.pointer (some ⟨b, 0, none⟩), .int .i64 hd] w fun e w' => e = .returned (.tuple #[.int .i64 x, .bool y]) ∧ Below w.heap.size w w' := by
  have := at_c w b L hd h h1 h2 hg
  rwa [hf] at this
theorem len_x {w : World} {b : Nat} {L : List (Bool × Int)} {n : Int} (h : w.heap[b]? = some (tabO L)) (h1 : 1 ≤ L.length) (h2 : L.length ≤ 16) (hg : genOk L 1000) (hn : (((rowsTo L L.length).length : Nat) : Int) = n) :
    Calls Try.prog 12 #[.pointer (some ⟨b, 0, none⟩)] w fun e w' => e = .returned (.int .i64 n) ∧ Below w.heap.size w w' := by
  have := len_c w b L h h1 h2 hg
  rwa [hn] at this
theorem gen_two (a b : Bool) (x y : Int) (G : Int) (hx : 0 ≤ x ∧ x ≤ G) (hy : 0 ≤ y ∧ y ≤ G) : genOk [(a, x), (b, y)] G := by
  intro i
  match i with
  | 0 => exact hx
  | 1 => exact hy
  | i + 2 => show 0 ≤ (0 : Int) ∧ (0 : Int) ≤ G; omega

set_option maxRecDepth 100000 in
set_option maxHeartbeats 1000000 in
theorem known_c (w : World) : Calls Try.prog 6 #[] w fun e w' => e = .returned (.bool true) ∧ Below w.heap.size w w' := by
  go_enter Try.func6, Try.ntmps6
  go_wp2_with fail
  refine (new_bad _ _ (Or.inl (by decide))).mono ?_; rintro e w' ⟨rfl, rfl⟩
  go_wp2_with fail
  refine (new_bad _ _ (Or.inr (by decide))).mono ?_; rintro e w' ⟨rfl, rfl⟩
  go_wp2_with fail
  refine (new_c _ 2 (by decide) (by decide)).mono ?_; rintro e w1 ⟨rfl, hC, hB, _⟩
  have hC1 : w1.heap[w.heap.size]? = some (tabO [(false, 0), (false, 0)]) := hC
  clear hC
  go_wp2_with fail
  refine (add_x (i := 0) (x := 16) (L' := [(true, 1), (false, 0)]) hC1 (by decide) (by decide) (gen_two _ _ _ _ _ (by decide) (by decide)) rfl (by decide) rfl).mono ?_; rintro e w2 ⟨rfl, hU⟩
  have hC2 := hU.1
  have hB2 := hB.trans (hU.below (Nat.le_refl _) hB.size)
  clear hU hC1 hB
  go_wp2_with fail
  refine (add_x (i := 1) (x := 17) (L' := [(true, 1), (true, 1)]) hC2 (by decide) (by decide) (gen_two _ _ _ _ _ (by decide) (by decide)) rfl (by decide) rfl).mono ?_; rintro e w3 ⟨rfl, hU⟩
  have hC3 := hU.1
  have hB3 := hB2.trans (hU.below (Nat.le_refl _) hB2.size)
  clear hU hC2 hB2
  go_wp2_with fail
  refine (add_full _ _ _ hC3 (by decide) (by decide) rfl).mono ?_; rintro e w' ⟨rfl, rfl⟩
  go_wp2_with fail
  refine (drop_x (i := 0) (L' := [(false, 1), (true, 1)]) hC3 (by decide) (by decide) (gen_two _ _ _ _ _ (by decide) (by decide)) rfl rfl).mono ?_; rintro e w4 ⟨rfl, hU⟩
  have hC4 := hU.1
  have hB4 := hB3.trans (hU.below (Nat.le_refl _) hB3.size)
  clear hU hC3 hB3
  go_wp2_with fail
  refine (at_x (x := 0) (y := false) hC4 (by decide) (by decide) (gen_two _ _ _ _ _ (by decide) (by decide)) rfl).mono ?_; rintro e w5 ⟨rfl, hb⟩
  have hC5 := below_has hb hC4
  have hB5 := below_reads hB4 hb hB4.size
  clear hb hC4 hB4
  go_wp2_with fail
  refine (at_x (x := 1) (y := true) hC5 (by decide) (by decide) (gen_two _ _ _ _ _ (by decide) (by decide)) rfl).mono ?_; rintro e w6 ⟨rfl, hb⟩
  have hC6 := below_has hb hC5
  have hB6 := below_reads hB5 hb hB5.size
  clear hb hC5 hB5
  go_wp2_with fail
  refine (add_x (i := 0) (x := 32) (L' := [(true, 2), (true, 1)]) hC6 (by decide) (by decide) (gen_two _ _ _ _ _ (by decide) (by decide)) rfl (by decide) rfl).mono ?_; rintro e w7 ⟨rfl, hU⟩
  have hC7 := hU.1
  have hB7 := hB6.trans (hU.below (Nat.le_refl _) hB6.size)
  clear hU hC6 hB6
  go_wp2_with fail
  refine (of_c _ _ _ _ (x := 32) (y := true) hC7 (by decide) (by decide) (gen_two _ _ _ _ _ (by decide) (by decide)) rfl).mono ?_; rintro e w' ⟨rfl, rfl⟩
  go_wp2_with fail
  refine (drop_none _ _ _ _ hC7 (by decide) (by decide) (gen_two _ _ _ _ _ (by decide) (by decide)) rfl).mono ?_; rintro e w8 ⟨rfl, hb⟩
  have hC8 := below_has hb hC7
  have hB8 := below_reads hB7 hb hB7.size
  clear hb hC7 hB7
  go_wp2_with fail
  refine (drop_none _ _ _ _ hC8 (by decide) (by decide) (gen_two _ _ _ _ _ (by decide) (by decide)) rfl).mono ?_; rintro e w9 ⟨rfl, hb⟩
  have hC9 := below_has hb hC8
  have hB9 := below_reads hB8 hb hB8.size
  clear hb hC8 hB8
  go_wp2_with (go_at_call 8; refine (num_c _ _).mono ?_; rintro e w' ⟨rfl, rfl⟩)
  refine (len_x (n := 2) hC9 (by decide) (by decide) (gen_two _ _ _ _ _ (by decide) (by decide)) rfl).mono ?_; rintro e w10 ⟨rfl, hb⟩
  have hB10 := below_reads hB9 hb hB9.size
  clear hb hC9 hB9
  go_wp2_with fail
  go_ret
  exact ⟨rfl, hB10⟩
end Go.Proofs.Ytabbioclcjnjjaa
