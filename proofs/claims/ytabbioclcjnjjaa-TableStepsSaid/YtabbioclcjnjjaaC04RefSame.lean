/- ref.Same: are two tables of the document the same. Conditions: the blocks that are named hold what is said. -/
import Derived.Test.YtabbioclcjnjjaaC04Ref
namespace Go.Proofs.Ytabbioclcjnjjaa
open Go.RowKit

theorem rsame_nil (w : World) (r : Nat) : Calls Try.prog 18 #[.pointer none, .pointer (some ⟨r, 0, none⟩)] w fun e w' => e = .returned (.bool false) ∧ w = w' := by
  go_enter Try.func18, Try.ntmps18
  go_wp2
  go_ret
  exact ⟨rfl, rfl⟩
theorem rsame_nil' (w : World) (r : Nat) : Calls Try.prog 18 #[.pointer (some ⟨r, 0, none⟩), .pointer none] w fun e w' => e = .returned (.bool false) ∧ w = w' := by
  go_enter Try.func18, Try.ntmps18
  go_wp2
  go_ret
  exact ⟨rfl, rfl⟩
theorem rsame_nils (w : World) : Calls Try.prog 18 #[.pointer none, .pointer none] w fun e w' => e = .returned (.bool true) ∧ w = w' := by
  go_enter Try.func18, Try.ntmps18
  go_wp2
  go_ret
  exact ⟨rfl, rfl⟩

theorem flat68 : flatAt Try.prog 3 68 = some [Sc.b, Sc.i .i64] := by kernel_rfl
theorem agg68 : aggT Try.prog 68 = true := by kernel_rfl
theorem neq68 (a b : Bool) (x y : Int) (w : World) : (binOp .neq 68 (.agg #[.bool a, .int .i64 x]) (.agg #[.bool b, .int .i64 y])).run Try.prog w = .ok (.bool (!decide ((a, x) = (b, y)))) w := by
  rw [run_neq_flat w 3 flat68 (by decide) agg68 (xs := #[.bool a, .int .i64 x]) (ys := #[.bool b, .int .i64 y]) ⟨⟨a, rfl⟩, ⟨x, rfl⟩, trivial⟩ ⟨⟨b, rfl⟩, ⟨y, rfl⟩, trivial⟩]
  congr 3
  rw [Bool.eq_iff_iff]
  simp [eqs, eqv]

theorem RRef.drewN {w : World} {r s : Nat} {L : List (Bool × Int)} (h : RRef w r s L) (n : Nat) : RRef (w.drewN n) r s L := ⟨h.tab, h.row, h.ne⟩
theorem take_snoc {L M : List (Bool × Int)} {j : Nat} (h : L.take j = M.take j) (hL : j < L.length) (hM : j < M.length) (e : (tk L j, gn L j) = (tk M j, gn M j)) : L.take (j + 1) = M.take (j + 1) := by
  rw [List.take_add_one, List.take_add_one, h]
  congr 1
  unfold tk gn at e
  simp only [List.getD_eq_getElem?_getD, List.getElem?_eq_getElem hL, List.getElem?_eq_getElem hM, Option.getD_some] at e
  rw [List.getElem?_eq_getElem hL, List.getElem?_eq_getElem hM]
  have e' : L[j] = M[j] := by simpa [Prod.ext_iff] using e
  rw [e']

set_option maxHeartbeats 400000 in
theorem rsame_c (w : World) (r s r' s' : Nat) (L M : List (Bool × Int)) (h : RRef w r s L) (h2 : L.length ≤ 16) (h' : RRef w r' s' M) (h2' : M.length ≤ 16) :
    Calls Try.prog 18 #[.pointer (some ⟨r, 0, none⟩), .pointer (some ⟨r', 0, none⟩)] w fun e w' => e = .returned (.bool (decide (L = M))) ∧ Below w.heap.size w w' := by
  have c := h.tabCell
  have c' := h'.tabCell
  have H := Lib.hid h
  have H' := Lib.hid h'
  clear h h'
  by_cases hlm : L.length = M.length
  · rw [← hlm] at c'
    go_enter Try.func18, Try.ntmps18
    go_wp2_with fail
    go_quiet (fail)
    go_wp2_with fail
    go_loopw [5] (fun i wx => ∃ j : Nat, i = .int .i64 j ∧ j ≤ L.length ∧ L.take j = M.take j ∧ RRef wx r s L ∧ RRef wx r' s' M ∧ Below w.heap.size w wx) (fun i _ => L.length - (intOf i).toNat)
    case atStart => exact ⟨0, rfl, by omega, rfl, H.out.drewN _, H'.out.drewN _, below_drewN (Below.refl _ _) _⟩
    case round =>
      obtain ⟨j, rfl, hj, ht, hA, hB, hb⟩ := hrel
      have c := hA.tabCell
      have c' := hB.tabCell
      rw [← hlm] at c'
      by_cases hlt : j < L.length
      · obtain ⟨x1, x2⟩ := row_cells hA.row j hlt
        obtain ⟨y1, y2⟩ := row_cells hB.row j (by omega)
        have hne := neq68 (tk L j) (tk M j) (gn L j) (gn M j)
        have HT := Lib.hid ht
        have HL := Lib.hid hlt
        clear ht
        by_cases he : (tk L j, gn L j) = (tk M j, gn M j)
        · have HE := Lib.hid he
          rw [decide_eq_true he] at hne
          clear he
          go_wp2_with fail
          go_quiet (fail)
          go_wp2_with fail
          go_roundw
          case rel => exact ⟨j + 1, by go_num, by have := HL.out; omega, take_snoc HT.out HL.out (by have := HL.out; omega) HE.out, hA.drewN _, hB.drewN _, below_drewN hb _⟩
          case measure => have := HL.out; simp [intOf]; omega
        · have HE := Lib.hid he
          rw [decide_eq_false he] at hne
          clear he
          go_wp2_with fail
          go_quiet (fail)
          go_wp2_with fail
          try rw [Exit.noGoto_ret]
          go_ret
          have hd : decide (L = M) = false := decide_eq_false (by rintro rfl; exact HE.out rfl)
          rw [hd]
          exact ⟨rfl, below_drewN hb _⟩
      · obtain rfl : j = L.length := by omega
        go_wp2_with fail
        try rw [Exit.noGoto_ret]
        go_ret
        rw [List.take_length] at ht
        have e : L = M := ht.trans (by rw [hlm, List.take_length])
        rw [decide_eq_true e]
        exact ⟨rfl, hb⟩
  · have hb' : ((L.length : Int) == (M.length : Int)) = false := by rw [beq_eq_false_iff_ne]; omega
    have hd : decide (L = M) = false := by simp only [decide_eq_false_iff_not]; intro h; exact hlm (by rw [h])
    rw [hd]
    clear hd hlm
    go_enter Try.func18, Try.ntmps18
    go_wp2_with fail
    go_quiet (fail)
    go_wp2_with fail
    go_ret
    exact ⟨by simp, below_drewN (Below.refl _ _) _⟩
end Go.Proofs.Ytabbioclcjnjjaa
