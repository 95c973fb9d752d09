/- The walk of TableSteps: it returns true, and turns nothing that was there. Conditions: the script is a slice of steps. -/
import Derived.Test.YtabbioclcjnjjaaC04Stands
import Derived.Test.YtabbioclcjnjjaaC04Known
namespace Go.Proofs.Ytabbioclcjnjjaa
open Go.RowKit

theorem out2 {len j : Nat} (h : ¬ (j < len ∧ j < 150)) : len ≤ j ∨ (j < len ∧ 150 ≤ j) := by omega
theorem gen_fresh (n : Nat) : genOk (List.replicate n (false, 0)) (0 : Nat) := by
  intro i
  unfold gn
  simp only [List.getD_eq_getElem?_getD, List.getElem?_replicate]
  split <;> simp

set_option maxRecDepth 100000 in
set_option maxHeartbeats 2000000 in
theorem steps_walk (w : World) (x : Int) (a : Option Addr) (len cap : Nat) (hs : IsRows w stepSc a len) (leave : Int) :
    Calls Try.prog 4 #[.int .i64 x, .slice a len cap, .int .i64 leave] w fun e w' => e = .returned (.bool true) ∧ Below w.heap.size w w' := by
  have hm := hs.max
  unfold maxLen at hm
  have HS := Lib.hid hs
  clear hs
  by_cases hx : x < 1 ∨ 16 < x
  · have HX := Lib.hid hx
    clear hx
    go_enter Try.func4, Try.ntmps4
    go_wp2_with (first | (go_at_call 7; (with_reducible refine (new_bad _ _ HX.out).mono ?_); rintro e w' ⟨rfl, rfl⟩) | (go_at_call 13; (with_reducible refine (rnew_bad _ _ HX.out).mono ?_); rintro e w' ⟨rfl, rfl⟩) | (go_at_call 8; (with_reducible refine (num_c _ _).mono ?_); rintro e w' ⟨rfl, rfl⟩))
    refine (known_c _).mono ?_; rintro e w9 ⟨rfl, hb⟩
    go_wp2_with fail
    go_ret
    exact ⟨rfl, hb⟩
  · obtain ⟨n, rfl⟩ : ∃ n : Nat, x = n := ⟨x.toNat, by omega⟩
    have hn1 : 1 ≤ n := by omega
    have hn2 : n ≤ 16 := by omega
    clear hx
    go_enter Try.func4, Try.ntmps4
    go_wp2_with fail
    refine (new_c _ n hn1 hn2).mono ?_; rintro e w1 ⟨rfl, hC, hB1, hl1⟩
    go_wp2_with fail
    refine (rnew_c _ n hn1 hn2).mono ?_; rintro e w2 ⟨r, s, rfl, hR, hr1, hs1, hB2⟩
    have hC2 := below_has hB2 hC
    have hB : Below w.heap.size w w2 := below_reads hB1 hB2 hB1.size
    have z1 := hB1.size
    have l2 := has_lt hR.row
    have hD : DSt w2 w.heap.size w.heap.size r s (List.replicate n (false, 0)) (.slice none 0 0) [] :=
      ⟨hC2, hR, World.ownsRow_nil _ _ _ _, fun _ => rfl, Nat.le_refl _, by omega, by omega, by omega⟩
    clear hC hC2 hR hB1 hB2 hl1 hr1 hs1 z1 l2
    go_wp2_with (go_at_call 8; (with_reducible refine (num_c _ _).mono ?_); rintro e w' ⟨rfl, rfl⟩)
    go_loopw [7, 9, 10, 11] (fun x p l i wr => ∃ (t : Nat) (L : List (Bool × Int)) (vl : Value) (ls : List Int) (j : Nat), x = .pointer (some ⟨t, 0, none⟩) ∧ p = .pointer (some ⟨r, 0, none⟩) ∧ l = vl ∧ i = .int .i64 j ∧ j ≤ len ∧ j ≤ 150 ∧ DSt wr w.heap.size t r s L vl ls ∧ 1 ≤ L.length ∧ L.length ≤ 16 ∧ genOk L j ∧ ls.length ≤ j ∧ Below w.heap.size w wr) (fun _ _ _ i _ => len - (intOf i).toNat)
    case atStart => exact ⟨w.heap.size, _, _, [], 0, rfl, rfl, rfl, rfl, by omega, by omega, hD, by simpa using hn1, by simpa using hn2, gen_fresh n, Nat.le_refl _, hB⟩
    case round =>
      clear hD hB
      obtain ⟨t, L, vl, ls, j, rfl, rfl, rfl, rfl, hj, hj2, hD, h1, h2, hg, hls, hB⟩ := hrel
      by_cases hgo : j < len ∧ j < 150
      · obtain ⟨g1, g2⟩ := hgo
        obtain ⟨b, off, kd, nn, odd, hh, rfl, hn, hq⟩ := rows_cells HS.out g1
        obtain ⟨e0, e1, e2, e3⟩ := hq wr hB
        have HQ := Lib.hid hq
        have HG := Lib.hid hg
        clear hq hg
        go_wp2_with fail
        refine (do_c _ _ t r s L _ ls kd nn odd hh j hD h1 h2 HG.out (by omega) (by omega) hn).mono ?_
        rintro e w5 ⟨t', L', vl', ls', rfl, hD5, hl5, hg5, hll5, u, ht'⟩
        have hB5 : Below w.heap.size w w5 := hB.trans (u.below hD.lt hD.ls hD.hB)
        obtain ⟨e0, e1, e2, e3⟩ := HQ.out w5 hB5
        have h1' : 1 ≤ L'.length := by omega
        have h2' : L'.length ≤ 16 := by omega
        have hg9 : genOk L' 1000 := fun i => by have := hg5 i; omega
        have HG9 := Lib.hid hg9
        have HG5 := Lib.hid hg5
        have HL5 := Lib.hid hl5
        have hls' : ls'.length ≤ j + 1 := by omega
        obtain ⟨o, ho⟩ : ∃ o, atF L' hh = o := ⟨_, rfl⟩
        have HO := Lib.hid ho
        clear hD hB u ht' hg9 hg5 hl5 hll5 HG h1 h2 ho hls hn
        go_wp2_with fail
        refine (at_c _ _ _ _ (by exact hD5.tab) h1' h2' HG9.out).mono ?_; rintro e w6 ⟨rfl, hb⟩
        have hD6 := hD5.reads hb
        have hB6 := below_reads hB5 hb hB5.size
        obtain ⟨e0, e1, e2, e3⟩ := HQ.out w6 hB6
        rw [HO.out]
        simp only [atV]
        clear hD5 hB5 hb
        go_wp2_with fail
        refine (rat_c _ _ _ _ _ (by exact hD6.ref) h2' HG9.out).mono ?_; rw [HO.out]; simp only [atV]; rintro e w7 ⟨rfl, rfl⟩
        go_wp2_with fail
        refine (stands_c _ _ _ _ _ _ _ _ leave hD6 h1' h2' HG9.out (by omega)).mono ?_; rintro e w8 ⟨rfl, hb⟩
        have hD8 := hD6.reads hb
        have hB8 := below_reads hB6 hb hB6.size
        clear hD6 hB6 hb e0 e1 e2 e3
        go_wp2_with fail
        go_roundw
        case rel => exact ⟨t', L', vl', ls', j + 1, rfl, rfl, rfl, by go_num, by omega, by omega, hD8, h1', h2', HG5.out, hls', hB8⟩
        case measure => simp [intOf]; omega
      · rcases out2 hgo with g1 | ⟨g1, g2⟩
        all_goals
          clear hgo hD hg
          go_wp2_with fail
          refine (known_c _).mono ?_; rintro e w9 ⟨rfl, hb⟩
          have hB9 := below_reads hB hb hB.size
          go_wp2_with fail
          go_ret
          exact ⟨rfl, hB9⟩
theorem steps_claim (w : World) (x : Int) (_ : (Lit.int .i64 x).wf = true) (a : Option Addr) (len cap : Nat) (hs : IsRows w stepSc a len) (leave : Int) (_ : (Lit.int .i64 leave).wf = true) :
    Calls Try.prog 4 #[.int .i64 x, .slice a len cap, .int .i64 leave] w fun e w' => e = .returned (.bool true) ∧ Below w.heap.size w w' := steps_walk w x a len cap hs leave
end Go.Proofs.Ytabbioclcjnjjaa
