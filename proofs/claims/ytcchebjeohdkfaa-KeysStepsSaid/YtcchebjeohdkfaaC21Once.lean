/- Controls of what is done once, the program's and the document's, over the translation of this seat. Conditions: the blocks that are named hold what is said. -/
import Derived.Test.YtcchebjeohdkfaaC21K2
import Derived.Deep.RegionLaw
namespace Go.Proofs.Ytcchebjeohdkfaa
open Go.RowKit

/-- A control: how it stands (0 free, 1 run, 2 done), by whom. -/
structure Oc where
  st : Int
  who : Int
def ocO (o : Oc) : Obj := .cells #[.int .i64 o.st, .int .i64 o.who] 70 (0, 0)
def ocR (o : Oc) : Obj := .cells #[.int .i64 o.st, .int .i64 o.who] 48 (0, 0)
def runF (o : Oc) (t : Int) : Bool := (o.st == 1) && (o.who == t)
def askE (o : Oc) (t : Int) : Int := if thF t = true then (if runF o t = true then 7 else 0) else 2
def askS (o : Oc) (t : Int) : Int := if askE o t = 0 then o.st else 0
def askO (o : Oc) (t : Int) : Oc := if askE o t = 0 ∧ o.st = 0 then ⟨1, t⟩ else o
def endE (o : Oc) (t : Int) : Int := if thF t = true then (if runF o t = true then 0 else 7) else 2
def endO (o : Oc) (t : Int) (d : Bool) : Oc := if endE o t = 0 then ⟨if d = true then 2 else 0, 0⟩ else o
theorem num_c (w : World) (x : Int) : Calls Try.prog 9 #[.int .i64 x] w fun e w' => e = .returned (.int .i64 x) ∧ w = w' := by
  go_enter Try.func9, Try.ntmps9
  go_wp2
  go_ret
  exact ⟨rfl, rfl⟩
theorem newo_c (w : World) : Calls Try.prog 15 #[] w fun e w' => e = .returned (.pointer (some ⟨w.heap.size, 0, none⟩)) ∧ w'.heap[w.heap.size]? = some (ocO ⟨0, 0⟩) ∧ Below w.heap.size w w' := by
  go_enter Try.func15, Try.ntmps15
  go_wp2
  go_ret
  exact ⟨rfl, heap_alloc_new _ _, (Below.refl _ _).alloc (Nat.le_refl _) _⟩
theorem runs_c (w : World) (b : Nat) (o : Oc) (t : Int) {y : Bool} (h : w.heap[b]? = some (ocO o)) (hy : runF o t = y) : Calls Try.prog 37 #[.pointer (some ⟨b, 0, none⟩), .int .i64 t] w fun e w' => e = .returned (.bool y) ∧ w = w' := by
  have c0 := has_cell 0 h rfl
  have c1 := has_cell 1 h rfl
  subst hy
  unfold runF
  clear h
  by_cases h1 : o.st = 1
  · rw [h1] at c0
    rw [h1]
    clear h1
    go_enter Try.func37, Try.ntmps37
    go_wp2
    go_ret
    exact ⟨by simp, rfl⟩
  · have hf : (o.st == 1) = false := by simpa using h1
    rw [hf]
    clear h1
    go_enter Try.func37, Try.ntmps37
    go_wp2
    go_ret
    exact ⟨by simp, rfl⟩
/-- The boxes of a control and a thread. -/
structure BoxW (W : World) (b x y : Nat) (o : Oc) (t : Int) : Prop where
  o : W.heap[b]? = some (ocO o)
  x : W.heap[x]? = some (.cells #[.pointer (some ⟨b, 0, none⟩)] 43 (0, 0))
  y : W.heap[y]? = some (.cells #[.int .i64 t] 3 (0, 0))
theorem wrong1_c (w : World) (b x y : Nat) (o : Oc) (t : Int) {z : Bool} (h : BoxW w b x y o t) (hz : runF o t = z) : Calls Try.prog 36 #[.pointer (some ⟨x, 0, none⟩), .pointer (some ⟨y, 0, none⟩)] w fun e w' => e = .returned (.bool z) ∧ w = w' := by
  have cx := has_cell 0 h.x rfl
  have cy := has_cell 0 h.y rfl
  go_enter Try.func36, Try.ntmps36
  go_wp2_with (go_at_call 37; refine (runs_c _ _ _ _ h.o hz).mono ?_; rintro e w' ⟨rfl, rfl⟩)
  go_ret
  exact ⟨rfl, rfl⟩
theorem wrong2_c (w : World) (b x y : Nat) (o : Oc) (t : Int) {z : Bool} (h : BoxW w b x y o t) (hz : runF o t = z) : Calls Try.prog 38 #[.pointer (some ⟨x, 0, none⟩), .pointer (some ⟨y, 0, none⟩)] w fun e w' => e = .returned (.bool !z) ∧ w = w' := by
  have cx := has_cell 0 h.x rfl
  have cy := has_cell 0 h.y rfl
  go_enter Try.func38, Try.ntmps38
  go_wp2_with (go_at_call 37; refine (runs_c _ _ _ _ h.o hz).mono ?_; rintro e w' ⟨rfl, rfl⟩)
  go_ret
  exact ⟨rfl, rfl⟩
theorem asko_c (w : World) (b x y : Nat) (o : Oc) (t : Int) (h : BoxW w b x y o t) : Calls Try.prog 35 #[.pointer (some ⟨b, 0, none⟩), .int .i64 t, .func (.func 36) #[] #[.pointer (some ⟨x, 0, none⟩), .pointer (some ⟨y, 0, none⟩)]] w fun e w' => e = .returned (.int .i64 (askE o t)) ∧ w = w' := by
  obtain ⟨p, hp⟩ : ∃ p, thF t = p := ⟨_, rfl⟩
  obtain ⟨q, hq⟩ : ∃ q, runF o t = q := ⟨_, rfl⟩
  unfold askE
  rw [hp, hq]
  cases p <;> cases q <;> (go_enter Try.func35, Try.ntmps35; go_wp2_with (first | (go_at_call 34; refine (thread_c _ _ hp).mono ?_; rintro e w' ⟨rfl, rfl⟩) | (go_at_call 36; refine (wrong1_c _ _ _ _ _ _ h hq).mono ?_; rintro e w' ⟨rfl, rfl⟩)); go_ret; exact ⟨rfl, rfl⟩)
theorem endo_c (w : World) (b x y : Nat) (o : Oc) (t : Int) (h : BoxW w b x y o t) : Calls Try.prog 35 #[.pointer (some ⟨b, 0, none⟩), .int .i64 t, .func (.func 38) #[] #[.pointer (some ⟨x, 0, none⟩), .pointer (some ⟨y, 0, none⟩)]] w fun e w' => e = .returned (.int .i64 (endE o t)) ∧ w = w' := by
  obtain ⟨p, hp⟩ : ∃ p, thF t = p := ⟨_, rfl⟩
  obtain ⟨q, hq⟩ : ∃ q, runF o t = q := ⟨_, rfl⟩
  unfold endE
  rw [hp, hq]
  cases p <;> cases q <;> (go_enter Try.func35, Try.ntmps35; go_wp2_with (first | (go_at_call 34; refine (thread_c _ _ hp).mono ?_; rintro e w' ⟨rfl, rfl⟩) | (go_at_call 38; refine (wrong2_c _ _ _ _ _ _ h hq).mono ?_; rintro e w' ⟨rfl, rfl⟩)); go_ret; exact ⟨rfl, rfl⟩)
theorem box_in {w : World} {b : Nat} {o : Oc} (h : w.heap[b]? = some (ocO o)) (t : Int) : BoxW ((w.alloc (.cells #[.pointer (some ⟨b, 0, none⟩)] 43)).alloc (.cells #[.int .i64 t] 3)) b w.heap.size (w.heap.size + 1) o t ∧ Below w.heap.size w ((w.alloc (.cells #[.pointer (some ⟨b, 0, none⟩)] 43)).alloc (.cells #[.int .i64 t] 3)) := by
  refine ⟨⟨below_alloc_has (below_alloc_has h), below_alloc_has (heap_alloc_new _ _), ?_⟩, ((Below.refl _ _).alloc (Nat.le_refl _) _).alloc (by simp) _⟩
  have := heap_alloc_new (w.alloc (.cells #[.pointer (some ⟨b, 0, none⟩)] 43)) (.cells #[.int .i64 t] 3)
  rwa [World.size_alloc] at this
theorem ask_c (w : World) (b : Nat) (o : Oc) (t : Int) (h : w.heap[b]? = some (ocO o)) :
    Calls Try.prog 16 #[.pointer (some ⟨b, 0, none⟩), .int .i64 t] w fun e w' => e = .returned (.tuple #[.int .i64 (askS o t), .int .i64 (askE o t)]) ∧ Upd w b (ocO (askO o t)) w' := by
  obtain ⟨hX, hB⟩ := box_in h t
  have hbl := has_lt h
  by_cases he : askE o t = 0
  · by_cases hs : o.st = 0
    · have e1 : askO o t = ⟨1, t⟩ := by unfold askO; rw [if_pos ⟨he, hs⟩]
      have e2 : askS o t = 0 := by unfold askS; rw [if_pos he, hs]
      rw [e1, e2, he]
      have HE := Lib.hid he
      have HS := Lib.hid hs
      clear e1 e2 he hs
      go_enter Try.func16, Try.ntmps16
      go_upto_region 1 with fail
      refine world_wp (fun W => BoxW W b w.heap.size (w.heap.size + 1) o t ∧ Below w.heap.size w W) ⟨hX, hB⟩ ?_
      clear hX hB
      rintro W ⟨hX, hB⟩
      have c0 := has_cell 0 hX.x rfl
      have c1 := has_cell 0 hX.y rfl
      have o0 := has_cell 0 hX.o rfl
      have o1 := has_cell 1 hX.o rfl
      have fz := has_free hX.o
      rw [HS.out] at o0
      go_wp2_with (go_at_call 35; refine (asko_c _ _ _ _ _ _ hX).mono ?_; rintro e w' ⟨rfl, rfl⟩; rw [HE.out])
      have u := fun m => (((Upd.refl hX.o).drewN m).setCell 0 (.int .i64 1)).setCell 1 (.int .i64 t)
      go_region_law (fail)
      all_goals
        go_wp2_with fail
        go_ret2
        exact ⟨rfl, Upd.after hB (u _)⟩
    · have e1 : askO o t = o := by unfold askO; rw [if_neg (fun e => hs e.2)]
      have e2 : askS o t = o.st := by unfold askS; rw [if_pos he]
      rw [e1, e2, he]
      have HE := Lib.hid he
      have hne : (o.st == 0) = false := by simpa using hs
      clear e1 e2 he hs
      go_enter Try.func16, Try.ntmps16
      go_upto_region 1 with fail
      refine world_wp (fun W => BoxW W b w.heap.size (w.heap.size + 1) o t ∧ Below w.heap.size w W) ⟨hX, hB⟩ ?_
      clear hX hB
      rintro W ⟨hX, hB⟩
      have c0 := has_cell 0 hX.x rfl
      have c1 := has_cell 0 hX.y rfl
      have o0 := has_cell 0 hX.o rfl
      go_wp2_with (go_at_call 35; refine (asko_c _ _ _ _ _ _ hX).mono ?_; rintro e w' ⟨rfl, rfl⟩; rw [HE.out])
      go_ret2
      exact ⟨rfl, Upd.after hB (Upd.refl hX.o)⟩
  · have e1 : askO o t = o := by unfold askO; rw [if_neg (fun e => he e.1)]
    have e2 : askS o t = 0 := by unfold askS; rw [if_neg he]
    rw [e1, e2]
    have hne : (askE o t != 0) = true := by simpa using he
    obtain ⟨z, hz⟩ : ∃ z, askE o t = z := ⟨_, rfl⟩
    rw [hz] at hne ⊢
    have HZ := Lib.hid hz
    clear he e1 e2 hz
    go_enter Try.func16, Try.ntmps16
    go_upto_region 1 with fail
    refine world_wp (fun W => BoxW W b w.heap.size (w.heap.size + 1) o t ∧ Below w.heap.size w W) ⟨hX, hB⟩ ?_
    clear hX hB
    rintro W ⟨hX, hB⟩
    have c0 := has_cell 0 hX.x rfl
    have c1 := has_cell 0 hX.y rfl
    go_wp2_with (go_at_call 35; refine (asko_c _ _ _ _ _ _ hX).mono ?_; rintro e w' ⟨rfl, rfl⟩; rw [HZ.out])
    go_ret2
    exact ⟨rfl, Upd.after hB (Upd.refl hX.o)⟩
theorem end_c (w : World) (b : Nat) (o : Oc) (t : Int) (d : Bool) (h : w.heap[b]? = some (ocO o)) :
    Calls Try.prog 18 #[.pointer (some ⟨b, 0, none⟩), .int .i64 t, .bool d] w fun e w' => e = .returned (.int .i64 (endE o t)) ∧ Upd w b (ocO (endO o t d)) w' := by
  have hbl := has_lt h
  obtain ⟨hX, hB⟩ := box_in h t
  by_cases he : endE o t = 0
  · have e1 : endO o t d = ⟨if d = true then 2 else 0, 0⟩ := by unfold endO; rw [if_pos he]
    rw [e1, he]
    have HE := Lib.hid he
    clear e1 he
    cases d with
    | false =>
      go_enter Try.func18, Try.ntmps18
      go_upto_region 1 with fail
      refine world_wp (fun W => BoxW W b w.heap.size (w.heap.size + 1) o t ∧ Below w.heap.size w W) ⟨hX, hB⟩ ?_
      clear hX hB
      rintro W ⟨hX, hB⟩
      have c0 := has_cell 0 hX.x rfl
      have c1 := has_cell 0 hX.y rfl
      have o0 := has_cell 0 hX.o rfl
      have o1 := has_cell 1 hX.o rfl
      have fz := has_free hX.o
      have u := ((Upd.refl hX.o).setCell 0 (.int .i64 0)).setCell 1 (.int .i64 0)
      go_wp2_with (go_at_call 35; refine (endo_c _ _ _ _ _ _ hX).mono ?_; rintro e w' ⟨rfl, rfl⟩; rw [HE.out])
      go_ret
      exact ⟨rfl, Upd.after hB u⟩
    | true =>
      go_enter Try.func18, Try.ntmps18
      go_upto_region 1 with fail
      refine world_wp (fun W => BoxW W b w.heap.size (w.heap.size + 1) o t ∧ Below w.heap.size w W) ⟨hX, hB⟩ ?_
      clear hX hB
      rintro W ⟨hX, hB⟩
      have c0 := has_cell 0 hX.x rfl
      have c1 := has_cell 0 hX.y rfl
      have o0 := has_cell 0 hX.o rfl
      have o1 := has_cell 1 hX.o rfl
      have fz := has_free hX.o
      have u := ((Upd.refl hX.o).setCell 0 (.int .i64 0)).setCell 1 (.int .i64 0)
      have HX := Lib.hid hX.x
      go_upto_region 5 with (go_at_call 35; refine (endo_c _ _ _ _ _ _ hX).mono ?_; rintro e w' ⟨rfl, rfl⟩; rw [HE.out])
      refine world_wp (fun W2 => Upd W b (ocO ⟨0, 0⟩) W2) u ?_
      clear c0 c1 o0 o1 fz u
      intro W2 u
      have c0 := has_cell 0 (u.other HX.out (by omega)) rfl
      have o0 := has_cell 0 u.1 rfl
      have fz := has_free u.1
      have u2 := u.trans ((Upd.refl u.1).setCell 0 (.int .i64 2))
      clear u
      go_wp2_with fail
      go_ret
      exact ⟨rfl, Upd.after hB u2⟩
  · have e1 : endO o t d = o := by unfold endO; rw [if_neg he]
    rw [e1]
    have hne : (endE o t == 0) = false := by simpa using he
    obtain ⟨z, hz⟩ : ∃ z, endE o t = z := ⟨_, rfl⟩
    rw [hz] at hne ⊢
    have HZ := Lib.hid hz
    clear he e1 hz
    go_enter Try.func18, Try.ntmps18
    go_upto_region 1 with fail
    refine world_wp (fun W => BoxW W b w.heap.size (w.heap.size + 1) o t ∧ Below w.heap.size w W) ⟨hX, hB⟩ ?_
    clear hX hB
    rintro W ⟨hX, hB⟩
    have c0 := has_cell 0 hX.x rfl
    have c1 := has_cell 0 hX.y rfl
    go_wp2_with (go_at_call 35; refine (endo_c _ _ _ _ _ _ hX).mono ?_; rintro e w' ⟨rfl, rfl⟩; rw [HZ.out])
    go_ret
    exact ⟨rfl, Upd.after hB (Upd.refl hX.o)⟩
theorem at_c (w : World) (b : Nat) (o : Oc) (h : w.heap[b]? = some (ocO o)) :
    Calls Try.prog 21 #[.pointer (some ⟨b, 0, none⟩)] w fun e w' => e = .returned (.tuple #[.int .i64 o.st, .int .i64 o.who]) ∧ Below w.heap.size w w' := by
  have c0 := has_cell 0 h rfl
  have c1 := has_cell 1 h rfl
  clear h
  go_enter Try.func21, Try.ntmps21
  go_wp2_with fail
  go_quiet (fail)
  go_wp2_with fail
  go_ret2
  exact ⟨rfl, below_drewN (Below.refl _ _) _⟩
theorem ocopy_c (w : World) (b : Nat) (o : Oc) (h : w.heap[b]? = some (ocO o)) :
    Calls Try.prog 20 #[.pointer (some ⟨b, 0, none⟩)] w fun e w' => ∃ b', e = .returned (.pointer (some ⟨b', 0, none⟩)) ∧ w.heap.size ≤ b' ∧ w'.heap[b']? = some (ocO o) ∧ Below w.heap.size w w' := by
  have c0 := has_cell 0 h rfl
  have c1 := has_cell 1 h rfl
  clear h
  go_enter Try.func20, Try.ntmps20
  go_wp2
  go_ret
  exact ⟨_, rfl, Nat.le_refl _, heap_alloc_new _ _, (Below.refl _ _).alloc (Nat.le_refl _) _⟩
/-! The document's. -/
theorem rask_c (w : World) (b : Nat) (o : Oc) (t : Int) (h : w.heap[b]? = some (ocR o)) :
    Calls Try.prog 17 #[.pointer (some ⟨b, 0, none⟩), .int .i64 t] w fun e w' => e = .returned (.tuple #[.int .i64 (askS o t), .int .i64 (askE o t)]) ∧ Upd w b (ocR (askO o t)) w' := by
  have c0 := has_cell 0 h rfl
  have c1 := has_cell 1 h rfl
  have fz := has_free h
  have u := ((Upd.refl h).setCell 0 (.int .i64 1)).setCell 1 (.int .i64 t)
  have H := Lib.hid h
  by_cases h0 : t < 0
  · have e : askE o t = 2 := by unfold askE thF; simp; omega
    have e1 : askO o t = o := by unfold askO; rw [e]; simp
    have e2 : askS o t = 0 := by unfold askS; rw [e]; simp
    rw [e, e1, e2]
    clear e e1 e2 h u
    go_enter Try.func17, Try.ntmps17
    go_wp2
    go_ret2
    exact ⟨rfl, Upd.refl H.out⟩
  by_cases h1 : 16 ≤ t
  · have e : askE o t = 2 := by unfold askE thF; simp; omega
    have e1 : askO o t = o := by unfold askO; rw [e]; simp
    have e2 : askS o t = 0 := by unfold askS; rw [e]; simp
    rw [e, e1, e2]
    clear e e1 e2 h u
    go_enter Try.func17, Try.ntmps17
    go_wp2
    go_ret2
    exact ⟨rfl, Upd.refl H.out⟩
  have hth : thF t = true := by simp [thF]; omega
  by_cases h2 : o.st = 1
  · by_cases h3 : o.who = t
    · have e : askE o t = 7 := by unfold askE runF; simp [hth, h2, h3]
      have e1 : askO o t = o := by unfold askO; rw [e]; simp
      have e2 : askS o t = 0 := by unfold askS; rw [e]; simp
      rw [e, e1, e2]
      rw [h2] at c0
      rw [h3] at c1
      clear e e1 e2 h u h2 h3 hth
      go_enter Try.func17, Try.ntmps17
      go_wp2
      go_ret2
      exact ⟨rfl, Upd.refl H.out⟩
    · have e : askE o t = 0 := by unfold askE runF; simp [hth, h3]
      have e1 : askO o t = o := by unfold askO; rw [e, h2]; simp
      have e2 : askS o t = 1 := by unfold askS; rw [e, h2]; simp
      have hne : (o.who == t) = false := by simpa using h3
      rw [e, e1, e2]
      rw [h2] at c0
      clear e e1 e2 h u h2 h3 hth
      go_enter Try.func17, Try.ntmps17
      go_wp2
      go_ret2
      exact ⟨rfl, Upd.refl H.out⟩
  · have e : askE o t = 0 := by unfold askE runF; simp [hth, h2]
    have hne1 : (o.st == 1) = false := by simpa using h2
    by_cases h3 : o.st = 0
    · have e1 : askO o t = ⟨1, t⟩ := by unfold askO; rw [if_pos ⟨e, h3⟩]
      have e2 : askS o t = 0 := by unfold askS; rw [e, h3]; simp
      rw [e, e1, e2]
      rw [h3] at c0
      clear e e1 e2 h h2 h3 hth hne1
      go_enter Try.func17, Try.ntmps17
      go_wp2
      go_ret2
      exact ⟨rfl, u⟩
    · have e1 : askO o t = o := by unfold askO; rw [if_neg (fun e => h3 e.2)]
      have e2 : askS o t = o.st := by unfold askS; rw [e]; simp
      have hne0 : (o.st == 0) = false := by simpa using h3
      rw [e, e1, e2]
      clear e e1 e2 h u h2 h3 hth
      go_enter Try.func17, Try.ntmps17
      go_wp2
      go_ret2
      exact ⟨rfl, Upd.refl H.out⟩
theorem rend_c (w : World) (b : Nat) (o : Oc) (t : Int) (d : Bool) (h : w.heap[b]? = some (ocR o)) :
    Calls Try.prog 19 #[.pointer (some ⟨b, 0, none⟩), .int .i64 t, .bool d] w fun e w' => e = .returned (.int .i64 (endE o t)) ∧ Upd w b (ocR (endO o t d)) w' := by
  have c0 := has_cell 0 h rfl
  have c1 := has_cell 1 h rfl
  have fz := has_free h
  have H := Lib.hid h
  by_cases h0 : t < 0
  · have e : endE o t = 2 := by unfold endE thF; simp; omega
    have e1 : endO o t d = o := by unfold endO; rw [e]; simp
    rw [e, e1]
    clear e e1 h
    go_enter Try.func19, Try.ntmps19
    go_wp2
    go_ret
    exact ⟨rfl, Upd.refl H.out⟩
  by_cases h1 : 16 ≤ t
  · have e : endE o t = 2 := by unfold endE thF; simp; omega
    have e1 : endO o t d = o := by unfold endO; rw [e]; simp
    rw [e, e1]
    clear e e1 h
    go_enter Try.func19, Try.ntmps19
    go_wp2
    go_ret
    exact ⟨rfl, Upd.refl H.out⟩
  have hth : thF t = true := by simp [thF]; omega
  by_cases h2 : o.st = 1
  · by_cases h3 : o.who = t
    · have e : endE o t = 0 := by unfold endE runF; simp [hth, h2, h3]
      have e1 : endO o t d = ⟨if d = true then 2 else 0, 0⟩ := by unfold endO; rw [if_pos e]
      rw [e, e1]
      rw [h2] at c0
      rw [h3] at c1
      have u := ((Upd.refl h).setCell 0 (.int .i64 0)).setCell 1 (.int .i64 0)
      have u2 := u.setCell 0 (.int .i64 2)
      clear e e1 h h2 h3 hth
      cases d with
      | false =>
        go_enter Try.func19, Try.ntmps19
        go_wp2
        go_ret
        exact ⟨rfl, u⟩
      | true =>
        go_enter Try.func19, Try.ntmps19
        go_wp2
        go_ret
        exact ⟨rfl, u2⟩
    · have e : endE o t = 7 := by unfold endE runF; simp [hth, h3]
      have e1 : endO o t d = o := by unfold endO; rw [e]; simp
      have hne : (o.who != t) = true := by simpa using h3
      rw [e, e1]
      rw [h2] at c0
      clear e e1 h h2 h3 hth
      go_enter Try.func19, Try.ntmps19
      go_wp2
      go_ret
      exact ⟨rfl, Upd.refl H.out⟩
  · have e : endE o t = 7 := by unfold endE runF; simp [hth, h2]
    have e1 : endO o t d = o := by unfold endO; rw [e]; simp
    have hne : (o.st != 1) = true := by simpa using h2
    rw [e, e1]
    clear e e1 h h2 hth
    go_enter Try.func19, Try.ntmps19
    go_wp2
    go_ret
    exact ⟨rfl, Upd.refl H.out⟩
end Go.Proofs.Ytcchebjeohdkfaa
