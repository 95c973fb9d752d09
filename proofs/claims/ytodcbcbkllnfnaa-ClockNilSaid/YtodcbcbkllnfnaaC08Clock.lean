/- What each function of the clock computes, over the translation of this seat. Conditions: the blocks that are named hold what is said. -/
import Derived.Test.YtodcbcbkllnfnaaProg
import Derived.Test.YtodcbcbkllnfnaaBase
namespace Go.Proofs.Ytodcbcbkllnfnaa
open Go.RowKit

/-- The greatest time. -/
def MT : Int := 1099511627776
abbrev clkO (m : Bool) (r o : Int) : Obj := .cells #[.bool m, .int .i64 r, .int .i64 o] 51 (0, 0)
abbrev refO (r o : Int) : Obj := .cells #[.int .i64 r, .int .i64 o] 53 (0, 0)
/-- A clock that is not there: nil, or one that New did not make. -/
inductive Gone (w : World) : Value → Prop
  | nil : Gone w (.pointer none)
  | zero (b : Nat) (r o : Int) : w.heap[b]? = some (clkO false r o) → Gone w (.pointer (some ⟨b, 0, none⟩))

theorem num_c (e : Int) (w : World) : Calls Try.prog 9 #[.int .i64 e] w fun x w' => x = .returned (.int .i64 e) ∧ w = w' := by
  go_enter Try.func9, Try.ntmps9
  go_wp2
  go_ret
  exact ⟨rfl, rfl⟩
theorem there_c (w : World) (b : Nat) (m : Bool) (r o : Int) (h : w.heap[b]? = some (clkO m r o)) : Calls Try.prog 22 #[.pointer (some ⟨b, 0, none⟩)] w fun e w' => e = .returned (.bool m) ∧ w = w' := by
  have c0 := has_cell 0 h rfl
  clear h
  go_enter Try.func22, Try.ntmps22
  go_wp2
  go_ret
  exact ⟨rfl, rfl⟩
theorem there_nil (w : World) : Calls Try.prog 22 #[.pointer none] w fun e w' => e = .returned (.bool false) ∧ w = w' := by
  go_enter Try.func22, Try.ntmps22
  go_wp2
  go_ret
  exact ⟨rfl, rfl⟩
theorem there_gone (w : World) (v : Value) (h : Gone w v) : Calls Try.prog 22 #[v] w fun e w' => e = .returned (.bool false) ∧ w = w' := by
  cases h with
  | nil => exact there_nil w
  | zero b r o h => exact there_c w b false r o h

/-! New. -/
theorem new_bad (w : World) (x : Int) (h : x < 0 ∨ 1099511627776 < x) : Calls Try.prog 8 #[.int .i64 x] w fun e w' => e = .returned (.tuple #[.pointer none, .int .i64 2]) ∧ w = w' := by
  by_cases h0 : x < 0
  · go_enter Try.func8, Try.ntmps8
    go_wp2
    go_ret2
    exact ⟨rfl, rfl⟩
  · have h1 : 1099511627776 < x := by omega
    clear h
    go_enter Try.func8, Try.ntmps8
    go_wp2
    go_ret2
    exact ⟨rfl, rfl⟩
theorem new_c (w : World) (x : Int) (h0 : 0 ≤ x) (h1 : x ≤ 1099511627776) : Calls Try.prog 8 #[.int .i64 x] w fun e w' => e = .returned (.tuple #[.pointer (some ⟨w.heap.size, 0, none⟩), .int .i64 0]) ∧ w'.heap[w.heap.size]? = some (clkO true x 0) ∧ Below w.heap.size w w' ∧ w.heap.size < w'.heap.size := by
  go_enter Try.func8, Try.ntmps8
  go_wp2
  go_ret2
  exact ⟨rfl, heap_alloc_new _ _, (Below.refl _ _).alloc (Nat.le_refl _) _, by simp⟩

/-! Now. -/
theorem now_gone (w : World) (v : Value) (k : Int) (h : Gone w v) : Calls Try.prog 10 #[v, .int .i64 k] w fun e w' => e = .returned (.tuple #[.int .i64 0, .int .i64 1]) ∧ w = w' := by
  go_enter Try.func10, Try.ntmps10
  go_wp2_with (go_at_call 22; refine (there_gone _ _ h).mono ?_; rintro e w' ⟨rfl, rfl⟩)
  go_ret2
  exact ⟨rfl, rfl⟩
def nowF (r o k : Int) : Int × Int := if k = 0 then (r, 0) else if k = 1 then (o, 0) else (0, 2)
theorem now_c (w : World) (b : Nat) (r o k : Int) {x e : Int} (h : w.heap[b]? = some (clkO true r o)) (hx : nowF r o k = (x, e)) : Calls Try.prog 10 #[.pointer (some ⟨b, 0, none⟩), .int .i64 k] w fun e' w' => e' = .returned (.tuple #[.int .i64 x, .int .i64 e]) ∧ w = w' := by
  have H := Lib.hid h
  have c1 := has_cell 1 h rfl
  have c2 := has_cell 2 h rfl
  clear h
  by_cases k0 : k = 0
  · subst k0
    obtain ⟨rfl, rfl⟩ : r = x ∧ 0 = e := by simpa [nowF] using hx
    clear hx
    go_enter Try.func10, Try.ntmps10
    go_wp2_with (go_at_call 22; refine (there_c _ _ _ _ _ H.out).mono ?_; rintro e w' ⟨rfl, rfl⟩)
    go_ret2
    exact ⟨rfl, rfl⟩
  · by_cases k1 : k = 1
    · subst k1
      obtain ⟨rfl, rfl⟩ : o = x ∧ 0 = e := by simpa [nowF] using hx
      clear hx
      go_enter Try.func10, Try.ntmps10
      go_wp2_with (go_at_call 22; refine (there_c _ _ _ _ _ H.out).mono ?_; rintro e w' ⟨rfl, rfl⟩)
      go_ret2
      exact ⟨rfl, rfl⟩
    · obtain ⟨rfl, rfl⟩ : 0 = x ∧ 2 = e := by simpa [nowF, k0, k1] using hx
      clear hx
      have b0 : (k != 0) = true := by simpa using k0
      have b1 : (k != 1) = true := by simpa using k1
      go_enter Try.func10, Try.ntmps10
      go_wp2_with (go_at_call 22; refine (there_c _ _ _ _ _ H.out).mono ?_; rintro e w' ⟨rfl, rfl⟩)
      go_ret2
      exact ⟨rfl, rfl⟩

/-! Tick. -/
theorem tick_gone (w : World) (v : Value) (h : Gone w v) : Calls Try.prog 14 #[v] w fun e w' => e = .returned (.int .i64 1) ∧ w = w' := by
  go_enter Try.func14, Try.ntmps14
  go_wp2_with (go_at_call 22; refine (there_gone _ _ h).mono ?_; rintro e w' ⟨rfl, rfl⟩)
  go_ret
  exact ⟨rfl, rfl⟩
def upF (x : Int) : Int := if 1099511627776 < x + 1 then 1099511627776 else x + 1
theorem tick_c (w : World) (b : Nat) (r o : Int) (h : w.heap[b]? = some (clkO true r o)) (hr : 0 ≤ r ∧ r ≤ 1099511627776) (ho : 0 ≤ o ∧ o ≤ 1099511627776) :
    Calls Try.prog 14 #[.pointer (some ⟨b, 0, none⟩)] w fun e w' => e = .returned (.int .i64 0) ∧ Upd w b (clkO true (upF r) (upF o)) w' := by
  have H := Lib.hid h
  have c1 := has_cell 1 h rfl
  have c2 := has_cell 2 h rfl
  have fz := has_free h
  clear h
  obtain ⟨hr0, hr1⟩ := hr
  obtain ⟨ho0, ho1⟩ := ho
  have wr : IntKind.i64.wrap (r + 1) = r + 1 := IntWalk.i64_in _ (by omega)
  have wo : IntKind.i64.wrap (o + 1) = o + 1 := IntWalk.i64_in _ (by omega)
  have ur : (if 1099511627776 < r + 1 then 1099511627776 else r + 1) = upF r := rfl
  have uo : (if 1099511627776 < o + 1 then 1099511627776 else o + 1) = upF o := rfl
  go_enter Try.func14, Try.ntmps14
  go_wp2_with (go_at_call 22; refine (there_c _ _ _ _ _ H.out).mono ?_; rintro e w' ⟨rfl, rfl⟩)
  refine wp_loop_rounds 3 ?_
  rw [rounds_succ]
  go_wp2_with fail
  refine still_tail 13 (by kernel_rfl) (by kernel_rfl) ?_
  simp only [List.take_succ_cons, List.take_zero, List.drop_succ_cons, List.drop_zero]
  repeat still_step
  refine wpStill_nil ?_
  go_wp2_with fail
  rw [rounds_succ]
  refine upd_wp (((Upd.refl H.out).setCell 1 (.int .i64 (upF r))).drew.to (by simp; rfl)) ?_
  intro W U
  have d2 := has_cell 2 U.1 rfl
  have dz := has_free U.1
  clear fz c1 c2
  have HU := Lib.hid U
  clear U
  go_wp2_with fail
  refine still_tail 13 (by kernel_rfl) (by kernel_rfl) ?_
  simp only [List.take_succ_cons, List.take_zero, List.drop_succ_cons, List.drop_zero]
  repeat still_step
  refine wpStill_nil ?_
  go_wp2_with fail
  rw [rounds_succ]
  go_wp2_with fail
  go_ret
  exact ⟨rfl, ((HU.out.setCell 2 (.int .i64 (upF o))).drew.to (by simp))⟩
end Go.Proofs.Ytodcbcbkllnfnaa
