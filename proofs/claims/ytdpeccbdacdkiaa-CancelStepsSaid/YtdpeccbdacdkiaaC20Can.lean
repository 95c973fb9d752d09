/- What the functions of a cancellation compute, over the translation of this seat. Conditions: the blocks that are named hold what is said. -/
import Derived.Test.YtdpeccbdacdkiaaProg
import Derived.Test.YtdpeccbdacdkiaaFlat
import Derived.Deep.MidRow
namespace Go.Proofs.Ytdpeccbdacdkiaa
open Go.RowKit

def plc (p : Int × Int) : List Value := [.int .i64 p.1, .int .i64 p.2]
def rowC (L : List (Int × Int)) : List Value := L.flatMap plc
/-- The cleanups, those beyond their number among them. -/
def padL (L : List (Int × Int)) : List (Int × Int) := L ++ List.replicate (8 - L.length) (0, 0)
/-- A cancellation: asked, enabled, at once, unwinding; its cleanups. -/
structure Cs where
  ak : Bool
  on : Bool
  ay : Bool
  un : Bool
  L : List (Int × Int)
def canC (s : Cs) : List Value := .bool true :: .bool s.ak :: .bool s.on :: .bool s.ay :: .bool s.un :: (rowC (padL s.L) ++ [.int .i64 s.L.length])
def canO (s : Cs) : Obj := .cells (canC s).toArray 55 (0, 0)
def at0 (L : List (Int × Int)) (i : Nat) : Int := (L.getD i (0, 0)).1
def at1 (L : List (Int × Int)) (i : Nat) : Int := (L.getD i (0, 0)).2

theorem rowC_length (L : List (Int × Int)) : (rowC L).length = L.length * 2 := by
  induction L with
  | nil => rfl
  | cons p L ih => simp [rowC, plc] at ih ⊢; omega
theorem rowC_get : ∀ (L : List (Int × Int)) (i : Nat), i < L.length → (rowC L)[i * 2]? = some (.int .i64 (at0 L i)) ∧ (rowC L)[i * 2 + 1]? = some (.int .i64 (at1 L i))
  | p :: L, 0, _ => by simp [rowC, plc, at0, at1]
  | p :: L, i + 1, h => by
    have := rowC_get L i (by simpa using h)
    have e : rowC (p :: L) = .int .i64 p.1 :: .int .i64 p.2 :: rowC L := rfl
    rw [e, show (i + 1) * 2 = i * 2 + 1 + 1 by omega]
    simpa [at0, at1] using this
theorem padL_length {L : List (Int × Int)} (h : L.length ≤ 8) : (padL L).length = 8 := by simp [padL]; omega
theorem getD_pad (L : List (Int × Int)) (i : Nat) : (padL L).getD i (0, 0) = L.getD i (0, 0) := by
  unfold padL
  simp only [List.getD_eq_getElem?_getD, List.getElem?_append]
  split
  · rfl
  · rename_i h
    rw [List.getElem?_eq_none (Nat.le_of_not_lt h), List.getElem?_replicate]
    split <;> rfl
theorem canC_length {s : Cs} (h : s.L.length ≤ 8) : (canC s).length = 22 := by simp [canC, rowC_length, padL_length h]
theorem can_at {s : Cs} (h : s.L.length ≤ 8) {i : Nat} (hi : i < 8) : (canC s)[5 + i * 2]? = some (.int .i64 (at0 s.L i)) ∧ (canC s)[5 + i * 2 + 1]? = some (.int .i64 (at1 s.L i)) := by
  have hp := padL_length h
  have hr : (rowC (padL s.L)).length = 16 := by rw [rowC_length, hp]
  obtain ⟨g1, g2⟩ := rowC_get (padL s.L) i (by omega)
  rw [at0, getD_pad] at g1
  rw [at1, getD_pad] at g2
  rw [show 5 + i * 2 = i * 2 + 1 + 1 + 1 + 1 + 1 by omega, show i * 2 + 1 + 1 + 1 + 1 + 1 + 1 = i * 2 + 1 + 1 + 1 + 1 + 1 + 1 by omega]
  simp only [canC, List.getElem?_cons_succ, List.getElem?_append, hr]
  rw [if_pos (by omega), if_pos (by omega)]
  exact ⟨g1, g2⟩
/-- The cells of the flags and of the number. -/
theorem can_flags {w : World} {b : Nat} {s : Cs} (h : w.heap[b]? = some (canO s)) (hl : s.L.length ≤ 8) :
    w.cell? ⟨b, 0, none⟩ = some (.bool true) ∧ w.cell? ⟨b, 1, none⟩ = some (.bool s.ak) ∧ w.cell? ⟨b, 2, none⟩ = some (.bool s.on) ∧ w.cell? ⟨b, 3, none⟩ = some (.bool s.ay) ∧ w.cell? ⟨b, 4, none⟩ = some (.bool s.un) ∧ w.cell? ⟨b, 21, none⟩ = some (.int .i64 s.L.length) := by
  have hp := padL_length hl
  have hr : (rowC (padL s.L)).length = 16 := by rw [rowC_length, hp]
  exact ⟨has_cell 0 h rfl, has_cell 1 h rfl, has_cell 2 h rfl, has_cell 3 h rfl, has_cell 4 h rfl, has_cell 21 h (by simp [canC, List.getElem?_append, hr])⟩
theorem can_row {w : World} {b : Nat} {s : Cs} (h : w.heap[b]? = some (canO s)) (hl : s.L.length ≤ 8) (i : Nat) (hi : i < 8) :
    w.cell? ⟨b, 5 + i * 2, none⟩ = some (.int .i64 (at0 s.L i)) ∧ w.cell? ⟨b, 5 + i * 2 + 1, none⟩ = some (.int .i64 (at1 s.L i)) := by
  obtain ⟨g1, g2⟩ := can_at hl hi
  exact ⟨has_cell _ h (by simpa using g1), has_cell _ h (by simpa using g2)⟩

theorem num_c (e : Int) (w : World) : Calls Try.prog 16 #[.int .i64 e] w fun x w' => x = .returned (.int .i64 e) ∧ w = w' := by
  go_enter Try.func16, Try.ntmps16
  go_wp2
  go_ret
  exact ⟨rfl, rfl⟩
def newS : Cs := ⟨false, true, false, false, []⟩
theorem new_c (w : World) : Calls Try.prog 7 #[] w fun e w' => e = .returned (.pointer (some ⟨w.heap.size, 0, none⟩)) ∧ w'.heap[w.heap.size]? = some (canO newS) ∧ Below w.heap.size w w' ∧ w.heap.size < w'.heap.size := by
  go_enter Try.func7, Try.ntmps7
  go_wp2
  go_ret
  refine ⟨rfl, ?_, (Below.refl _ _).alloc (Nat.le_refl _) _, by simp⟩
  rw [heap_alloc_new]
  rfl
theorem there_c (w : World) (b : Nat) (s : Cs) (h : w.heap[b]? = some (canO s)) (hl : s.L.length ≤ 8) : Calls Try.prog 32 #[.pointer (some ⟨b, 0, none⟩)] w fun e w' => e = .returned (.bool true) ∧ w = w' := by
  have c := (can_flags h hl).1
  clear h
  go_enter Try.func32, Try.ntmps32
  go_wp2
  go_ret
  exact ⟨rfl, rfl⟩
theorem there_nil (w : World) : Calls Try.prog 32 #[.pointer none] w fun e w' => e = .returned (.bool false) ∧ w = w' := by
  go_enter Try.func32, Try.ntmps32
  go_wp2
  go_ret
  exact ⟨rfl, rfl⟩
theorem asked_c (w : World) (b : Nat) (s : Cs) (h : w.heap[b]? = some (canO s)) (hl : s.L.length ≤ 8) : Calls Try.prog 25 #[.pointer (some ⟨b, 0, none⟩)] w fun e w' => e = .returned (.bool s.ak) ∧ w = w' := by
  obtain ⟨c0, c1, c2, c3, c4, c5⟩ := can_flags h hl
  go_enter Try.func25, Try.ntmps25
  go_wp2_with (go_at_call 32; refine (there_c _ _ _ h hl).mono ?_; rintro e w' ⟨rfl, rfl⟩)
  go_ret
  exact ⟨rfl, rfl⟩
theorem enabled_c (w : World) (b : Nat) (s : Cs) (h : w.heap[b]? = some (canO s)) (hl : s.L.length ≤ 8) : Calls Try.prog 21 #[.pointer (some ⟨b, 0, none⟩)] w fun e w' => e = .returned (.bool s.on) ∧ w = w' := by
  obtain ⟨c0, c1, c2, c3, c4, c5⟩ := can_flags h hl
  go_enter Try.func21, Try.ntmps21
  go_wp2_with (go_at_call 32; refine (there_c _ _ _ h hl).mono ?_; rintro e w' ⟨rfl, rfl⟩)
  go_ret
  exact ⟨rfl, rfl⟩
theorem once_c (w : World) (b : Nat) (s : Cs) (h : w.heap[b]? = some (canO s)) (hl : s.L.length ≤ 8) : Calls Try.prog 22 #[.pointer (some ⟨b, 0, none⟩)] w fun e w' => e = .returned (.bool s.ay) ∧ w = w' := by
  obtain ⟨c0, c1, c2, c3, c4, c5⟩ := can_flags h hl
  go_enter Try.func22, Try.ntmps22
  go_wp2_with (go_at_call 32; refine (there_c _ _ _ h hl).mono ?_; rintro e w' ⟨rfl, rfl⟩)
  go_ret
  exact ⟨rfl, rfl⟩
theorem unwinds_c (w : World) (b : Nat) (s : Cs) (h : w.heap[b]? = some (canO s)) (hl : s.L.length ≤ 8) : Calls Try.prog 26 #[.pointer (some ⟨b, 0, none⟩)] w fun e w' => e = .returned (.bool s.un) ∧ w = w' := by
  obtain ⟨c0, c1, c2, c3, c4, c5⟩ := can_flags h hl
  go_enter Try.func26, Try.ntmps26
  go_wp2_with (go_at_call 32; refine (there_c _ _ _ h hl).mono ?_; rintro e w' ⟨rfl, rfl⟩)
  go_ret
  exact ⟨rfl, rfl⟩
def actsF (s : Cs) (p : Bool) : Bool := s.ak && s.on && !s.un && (p || s.ay)
theorem acts_c (w : World) (b : Nat) (s : Cs) (p : Bool) (h : w.heap[b]? = some (canO s)) (hl : s.L.length ≤ 8) : Calls Try.prog 20 #[.pointer (some ⟨b, 0, none⟩), .bool p] w fun e w' => e = .returned (.bool (actsF s p)) ∧ w = w' := by
  obtain ⟨c0, c1, c2, c3, c4, c5⟩ := can_flags h hl
  have ha := asked_c w b s h hl
  clear h
  obtain ⟨ak, on, ay, un, L⟩ := s
  unfold actsF
  dsimp only at *
  cases ak
  · go_enter Try.func20, Try.ntmps20
    go_wp2_with (go_at_call 25; refine ha.mono ?_; rintro e w' ⟨rfl, rfl⟩)
    go_ret
    exact ⟨rfl, rfl⟩
  · cases on
    · go_enter Try.func20, Try.ntmps20
      go_wp2_with (go_at_call 25; refine ha.mono ?_; rintro e w' ⟨rfl, rfl⟩)
      go_ret
      exact ⟨rfl, rfl⟩
    · cases un
      · cases p
        · go_enter Try.func20, Try.ntmps20
          go_wp2_with (go_at_call 25; refine ha.mono ?_; rintro e w' ⟨rfl, rfl⟩)
          go_ret
          exact ⟨rfl, rfl⟩
        · go_enter Try.func20, Try.ntmps20
          go_wp2_with (go_at_call 25; refine ha.mono ?_; rintro e w' ⟨rfl, rfl⟩)
          go_ret
          exact ⟨rfl, rfl⟩
      · go_enter Try.func20, Try.ntmps20
        go_wp2_with (go_at_call 25; refine ha.mono ?_; rintro e w' ⟨rfl, rfl⟩)
        go_ret
        exact ⟨rfl, rfl⟩

theorem f34_c (w : World) (b x : Nat) (h : w.heap[x]? = some (.cells #[.pointer (some ⟨b, 0, none⟩)] 23 (0, 0))) : Calls Try.prog 34 #[.pointer (some ⟨x, 0, none⟩)] w fun e w' => e = .returned (.pointer (some ⟨b, 1, none⟩)) ∧ w = w' := by
  have c := has_cell 0 h rfl
  go_enter Try.func34, Try.ntmps34
  go_wp2
  go_ret
  exact ⟨rfl, rfl⟩
theorem set_ask (w : World) (b y : Nat) (s : Cs) (x : Bool) (h : w.heap[b]? = some (canO s)) (hl : s.L.length ≤ 8) (hy : w.heap[y]? = some (.cells #[.pointer (some ⟨b, 0, none⟩)] 23 (0, 0))) :
    Calls Try.prog 33 #[.pointer (some ⟨b, 0, none⟩), .func (.func 34) #[] #[.pointer (some ⟨y, 0, none⟩)], .bool x] w fun e w' => e = .returned (.tuple #[.bool s.ak, .int .i64 0]) ∧ Upd w b (canO { s with ak := x }) w' := by
  obtain ⟨c0, c1, c2, c3, c4, c5⟩ := can_flags h hl
  have fz := has_free h
  go_enter Try.func33, Try.ntmps33
  go_wp2_with (first | (go_at_call 32; refine (there_c _ _ _ h hl).mono ?_; rintro e w' ⟨rfl, rfl⟩) | (go_at_call 34; refine (f34_c _ _ _ hy).mono ?_; rintro e w' ⟨rfl, rfl⟩))
  go_ret2
  exact ⟨rfl, ((Upd.refl h).setCell 1 (.bool x)).to rfl⟩
theorem f35_c (w : World) (b x : Nat) (h : w.heap[x]? = some (.cells #[.pointer (some ⟨b, 0, none⟩)] 23 (0, 0))) : Calls Try.prog 35 #[.pointer (some ⟨x, 0, none⟩)] w fun e w' => e = .returned (.pointer (some ⟨b, 2, none⟩)) ∧ w = w' := by
  have c := has_cell 0 h rfl
  go_enter Try.func35, Try.ntmps35
  go_wp2
  go_ret
  exact ⟨rfl, rfl⟩
theorem set_en (w : World) (b y : Nat) (s : Cs) (x : Bool) (h : w.heap[b]? = some (canO s)) (hl : s.L.length ≤ 8) (hy : w.heap[y]? = some (.cells #[.pointer (some ⟨b, 0, none⟩)] 23 (0, 0))) :
    Calls Try.prog 33 #[.pointer (some ⟨b, 0, none⟩), .func (.func 35) #[] #[.pointer (some ⟨y, 0, none⟩)], .bool x] w fun e w' => e = .returned (.tuple #[.bool s.on, .int .i64 0]) ∧ Upd w b (canO { s with on := x }) w' := by
  obtain ⟨c0, c1, c2, c3, c4, c5⟩ := can_flags h hl
  have fz := has_free h
  go_enter Try.func33, Try.ntmps33
  go_wp2_with (first | (go_at_call 32; refine (there_c _ _ _ h hl).mono ?_; rintro e w' ⟨rfl, rfl⟩) | (go_at_call 35; refine (f35_c _ _ _ hy).mono ?_; rintro e w' ⟨rfl, rfl⟩))
  go_ret2
  exact ⟨rfl, ((Upd.refl h).setCell 2 (.bool x)).to rfl⟩
theorem f36_c (w : World) (b x : Nat) (h : w.heap[x]? = some (.cells #[.pointer (some ⟨b, 0, none⟩)] 23 (0, 0))) : Calls Try.prog 36 #[.pointer (some ⟨x, 0, none⟩)] w fun e w' => e = .returned (.pointer (some ⟨b, 3, none⟩)) ∧ w = w' := by
  have c := has_cell 0 h rfl
  go_enter Try.func36, Try.ntmps36
  go_wp2
  go_ret
  exact ⟨rfl, rfl⟩
theorem set_asy (w : World) (b y : Nat) (s : Cs) (x : Bool) (h : w.heap[b]? = some (canO s)) (hl : s.L.length ≤ 8) (hy : w.heap[y]? = some (.cells #[.pointer (some ⟨b, 0, none⟩)] 23 (0, 0))) :
    Calls Try.prog 33 #[.pointer (some ⟨b, 0, none⟩), .func (.func 36) #[] #[.pointer (some ⟨y, 0, none⟩)], .bool x] w fun e w' => e = .returned (.tuple #[.bool s.ay, .int .i64 0]) ∧ Upd w b (canO { s with ay := x }) w' := by
  obtain ⟨c0, c1, c2, c3, c4, c5⟩ := can_flags h hl
  have fz := has_free h
  go_enter Try.func33, Try.ntmps33
  go_wp2_with (first | (go_at_call 32; refine (there_c _ _ _ h hl).mono ?_; rintro e w' ⟨rfl, rfl⟩) | (go_at_call 36; refine (f36_c _ _ _ hy).mono ?_; rintro e w' ⟨rfl, rfl⟩))
  go_ret2
  exact ⟨rfl, ((Upd.refl h).setCell 3 (.bool x)).to rfl⟩
theorem f37_c (w : World) (b x : Nat) (h : w.heap[x]? = some (.cells #[.pointer (some ⟨b, 0, none⟩)] 23 (0, 0))) : Calls Try.prog 37 #[.pointer (some ⟨x, 0, none⟩)] w fun e w' => e = .returned (.pointer (some ⟨b, 4, none⟩)) ∧ w = w' := by
  have c := has_cell 0 h rfl
  go_enter Try.func37, Try.ntmps37
  go_wp2
  go_ret
  exact ⟨rfl, rfl⟩
theorem set_unw (w : World) (b y : Nat) (s : Cs) (x : Bool) (h : w.heap[b]? = some (canO s)) (hl : s.L.length ≤ 8) (hy : w.heap[y]? = some (.cells #[.pointer (some ⟨b, 0, none⟩)] 23 (0, 0))) :
    Calls Try.prog 33 #[.pointer (some ⟨b, 0, none⟩), .func (.func 37) #[] #[.pointer (some ⟨y, 0, none⟩)], .bool x] w fun e w' => e = .returned (.tuple #[.bool s.un, .int .i64 0]) ∧ Upd w b (canO { s with un := x }) w' := by
  obtain ⟨c0, c1, c2, c3, c4, c5⟩ := can_flags h hl
  have fz := has_free h
  go_enter Try.func33, Try.ntmps33
  go_wp2_with (first | (go_at_call 32; refine (there_c _ _ _ h hl).mono ?_; rintro e w' ⟨rfl, rfl⟩) | (go_at_call 37; refine (f37_c _ _ _ hy).mono ?_; rintro e w' ⟨rfl, rfl⟩))
  go_ret2
  exact ⟨rfl, ((Upd.refl h).setCell 4 (.bool x)).to rfl⟩

end Go.Proofs.Ytdpeccbdacdkiaa
