/- What the walk of stands wants: one contract for any thread, in or not; what stands between two turns. Conditions: the blocks that are named hold what is said. -/
import Derived.Test.YtkjcchepgpbiiaaC12Ref
namespace Go.Proofs.Ytkjcchepgpbiiaa
open Go.RowKit Go.Shelf
attribute [local go_sem] Oper.semAt_some wide_fn wide_round_fn

def ringL (s : Gs) (x : Int) : List Int := if inF s x = true then ringV (ringF s.n s.wt x.toNat) else []
theorem ringL_in {s : Gs} {t : Nat} (h : inF s (t : Int) = true) : ringL s t = ringV (ringF s.n s.wt t) := by
  unfold ringL
  rw [if_pos h]
  rfl
theorem ringL_out {s : Gs} {x : Int} (h : inF s x = false) : ringL s x = [] := by
  unfold ringL
  rw [h]
  rfl
theorem ringV_some (n : Nat) (wt : Nat → Int) (t : Nat) : decide (0 < (ringV (ringF n wt t)).length) = (ringF n wt t).isSome := by
  cases hr : ringF n wt t with
  | none => rfl
  | some l =>
    have := (ring_len _ _ _ _ hr).1
    simp only [ringV, Option.getD_some, nL_length, Option.isSome_some, decide_eq_true_eq]
    exact Nat.lt_of_le_of_lt (Nat.zero_le _) this
theorem ringL_length (s : Gs) (x : Int) : (ringL s x).length ≤ s.n := by
  unfold ringL
  split
  · cases hr : ringF s.n s.wt x.toNat with
    | none => simp [ringV, nL]
    | some l =>
      have := (ring_len _ _ _ _ hr).2
      simp only [ringV, Option.getD_some, nL_length]
      simpa using this
  · simp
theorem forL_length (s : Gs) (x : Int) : (forL s x).length ≤ s.n := by
  unfold forL
  split
  · exact forTo_length _ _ _
  · simp
theorem of_u (w : World) (b : Nat) (s : Gs) (x : Int) {q : Bool} (h : w.heap[b]? = some (gO s)) (ok : GOk s) (hq : inF s x = q) (out : Nat → Int) (hL : Least s.n s.own s.wt out) :
    Calls Try.prog 18 #[.pointer (some ⟨b, 0, none⟩), .int .i64 x] w fun e w' => ∃ z : Int, e = .returned (.tuple #[.int .i64 z, .bool q]) ∧ z = (if q = true then out x.toNat else 0) ∧ Below w.heap.size w w' := by
  cases q with
  | false =>
    refine (of_no w b s x h ok hq).mono ?_
    rintro e w' ⟨rfl, rfl⟩
    exact ⟨0, rfl, rfl, Below.refl _ _⟩
  | true =>
    obtain ⟨t, rfl, ht⟩ := inF_nat hq
    refine (of_c w b s t h ok ht).mono ?_
    rintro e w' ⟨out', rfl, hL', hb⟩
    exact ⟨out' t, rfl, by rw [if_pos rfl]; exact least_unique hL' hL t ht, hb⟩
theorem ring_u (w : World) (b : Nat) (s : Gs) (x : Int) {y : Bool} (h : w.heap[b]? = some (gO s)) (ok : GOk s) (hy : decide (0 < (ringL s x).length) = y) :
    Calls Try.prog 13 #[.pointer (some ⟨b, 0, none⟩), .int .i64 x] w fun e w' => ∃ v : Value, e = .returned (.tuple #[v, .bool y]) ∧ OwnL w' w.heap.size v (ringL s x) ∧ Below w.heap.size w w' := by
  subst hy
  cases hq : inF s x with
  | false =>
    rw [ringL_out hq]
    refine (ring_no w b s x h ok hq).mono ?_
    rintro e w' ⟨rfl, rfl⟩
    exact ⟨_, rfl, own_nil _ _, Below.refl _ _⟩
  | true =>
    obtain ⟨t, rfl, ht⟩ := inF_nat hq
    rw [ringL_in hq, ringV_some]
    exact ring_c w b s t h ok ht

/-- What stays while stands looks. -/
structure StW (w W : World) (gw : Nat) (cur : Array Value) (leave : Int) : Prop where
  below : Below w.heap.size w W
  bl : W.heap[w.heap.size]? = some (.cells #[.int .i64 leave] 3 (0, 0))
  bo : W.heap[w.heap.size + 1]? = some (.cells #[.bool false] 4 (0, 0))
  want : W.heap[gw]? = some (.cells cur 3 (0, 0))
theorem StW.reads {w W W' : World} {gw : Nat} {cur : Array Value} {leave : Int} (h : StW w W gw cur leave) (hb : Below W.heap.size W W') : StW w W' gw cur leave :=
  ⟨below_reads h.below hb h.below.size, below_has hb h.bl, below_has hb h.bo, below_has hb h.want⟩
theorem StW.upd {w W W' : World} {gw x : Nat} {cur : Array Value} {leave : Int} {o : Obj} (h : StW w W gw cur leave) (u : Upd W x o W') (h1 : w.heap.size + 1 < x) (h2 : gw ≠ x) : StW w W' gw cur leave :=
  ⟨h.below.trans (u.below (by omega) h.below.size), u.other h.bl (by omega), u.other h.bo (by omega), u.other h.want h2⟩
/-- With the marks of the loops that are over. -/
structure MkW (w W : World) (gw : Nat) (cur : Array Value) (leave : Int) (Ds : List Nat) : Prop where
  st : StW w W gw cur leave
  marks : ∀ D ∈ Ds, W.heap[D]? = some (.deferred (some []))
  lo : ∀ D ∈ Ds, w.heap.size + 1 < D
  nd : Ds.Nodup
theorem MkW.reads {w W W' : World} {gw : Nat} {cur : Array Value} {leave : Int} {Ds : List Nat} (h : MkW w W gw cur leave Ds) (hb : Below W.heap.size W W') : MkW w W' gw cur leave Ds :=
  ⟨h.st.reads hb, fun D hD => below_has hb (h.marks D hD), h.lo, h.nd⟩
theorem MkW.upd {w W W' : World} {gw x : Nat} {cur : Array Value} {leave : Int} {Ds : List Nat} {o : Obj} (h : MkW w W gw cur leave Ds) (u : Upd W x o W') (h1 : w.heap.size + 1 < x) (h2 : gw ≠ x) (h3 : ∀ D ∈ Ds, D ≠ x) : MkW w W' gw cur leave Ds :=
  ⟨h.st.upd u h1 h2, fun D hD => u.other (h.marks D hD) (h3 D hD), h.lo, h.nd⟩
/-- Between two turns. -/
structure TuW (w W : World) (gw : Nat) (cur : Array Value) (leave : Int) (Ds : List Nat) (c lb ct T : Nat) (v u : Value) (l : List Int) : Prop where
  mw : MkW w W gw cur leave Ds
  it : W.heap[c]? = some (.cells #[v] 33 (0, 0))
  itl : OwnL W (c + 1) v l
  li : W.heap[lb]? = some (.cells #[u] 33 (0, 0))
  lil : OwnL W (lb + 1) u l
  ct : W.heap[ct]? = some (.cells #[.int .i64 T] 3 (0, 0))
theorem TuW.reads {w W W' : World} {gw c lb ct T : Nat} {cur : Array Value} {leave : Int} {Ds : List Nat} {v u : Value} {l : List Int} (h : TuW w W gw cur leave Ds c lb ct T v u l) (hb : Below W.heap.size W W') : TuW w W' gw cur leave Ds c lb ct T v u l :=
  ⟨h.mw.reads hb, below_has hb h.it, own_below h.itl hb, below_has hb h.li, own_below h.lil hb, below_has hb h.ct⟩
/-- All its blocks lie below B. -/
structure Lim (gw : Nat) (Ds : List Nat) (c lb ct : Nat) (v u : Value) (B : Nat) : Prop where
  gw : gw < B
  ds : ∀ D ∈ Ds, D < B
  c : c < B
  lb : lb < B
  ct : ct < B
  v : ∀ k, v.ownBlock = some k → k < B
  u : ∀ k, u.ownBlock = some k → k < B
theorem own_block {w : World} {B : Nat} {v : Value} {l : List Int} (h : OwnL w B v l) {k : Nat} (e : v.ownBlock = some k) : B ≤ k ∧ k < w.heap.size := by
  rcases h.2 with ⟨rfl, _⟩ | ⟨g, cap, cur, rfl, hg, hh, _⟩
  · simp [Value.ownBlock] at e
  · simp [Value.ownBlock] at e; subst e; exact ⟨hg, has_lt hh⟩
theorem TuW.lim {w W : World} {gw c lb ct T : Nat} {cur : Array Value} {leave : Int} {Ds : List Nat} {v u : Value} {l : List Int} (h : TuW w W gw cur leave Ds c lb ct T v u l) : Lim gw Ds c lb ct v u W.heap.size :=
  ⟨has_lt h.mw.st.want, fun D hD => has_lt (h.mw.marks D hD), has_lt h.it, has_lt h.li, has_lt h.ct, fun _ e => (own_block h.itl e).2, fun _ e => (own_block h.lil e).2⟩
theorem own_other {W W' : World} {x B : Nat} {v : Value} {l : List Int} {o : Obj} (h : OwnL W B v l) (u : Upd W x o W') (hc : ∀ k, v.ownBlock = some k → k ≠ x) : OwnL W' B v l := World.ownsRow.kept h u.2 (by
  cases hv : v.ownBlock with
  | none => exact .inl rfl
  | some k => exact .inr (by have := hc k hv; simpa using this))
theorem TuW.upd {w W W' : World} {gw c lb ct T x B : Nat} {cur : Array Value} {leave : Int} {Ds : List Nat} {v u : Value} {l : List Int} {o : Obj} (h : TuW w W gw cur leave Ds c lb ct T v u l) (hl : Lim gw Ds c lb ct v u B) (k : Upd W x o W') (hB : B ≤ x) (h1 : w.heap.size + 1 < x) : TuW w W' gw cur leave Ds c lb ct T v u l :=
  ⟨h.mw.upd k h1 (by have := hl.gw; omega) (fun D hD => by have := hl.ds D hD; omega), k.other h.it (by have := hl.c; omega), own_other h.itl k (fun j e => by have := hl.v j e; omega), k.other h.li (by have := hl.lb; omega), own_other h.lil k (fun j e => by have := hl.u j e; omega), k.other h.ct (by have := hl.ct; omega)⟩
theorem own_at {B b : Nat} (hb : b < B) {o : Obj} {X Y : World} {row : Option Nat} (h : X.heap[b]? = some o) (hg : X.grownBy Y row) (hr : ∀ r, row = some r → B ≤ r ∧ ∃ o : Obj, X.heap[r]? = some o ∧ o.isCells = false) : Y.heap[b]? = some o :=
  own_has (β := Unit) hb (fun _ => o) () X Y row h hg hr
theorem ownL_at {B lo : Nat} {v : Value} {l : List Int} {X Y : World} {row : Option Nat} (h : OwnL X lo v l) (hg : X.grownBy Y row) (hr : ∀ r, row = some r → B ≤ r ∧ ∃ o : Obj, X.heap[r]? = some o ∧ o.isCells = false) : OwnL Y lo v l := by
  refine World.ownsRow.kept h hg ?_
  rcases h.2 with ⟨rfl, _⟩ | ⟨g, cap, cur, rfl, _, hgg, _⟩
  · exact .inl rfl
  · refine .inr ?_
    intro e
    obtain ⟨_, o, ho, hc⟩ := hr g e.symm
    rw [hgg] at ho
    cases ho
    cases hc
theorem tu_own {β : Type} {w : World} {gw c lb ct T B : Nat} {cur : Array Value} {leave : Int} {Ds : List Nat} {v u : Value} {l : List Int} (hl : Lim gw Ds c lb ct v u B) (h1 : w.heap.size + 1 < B) :
    OwnFrom B (fun (_ : β) W => TuW w W gw cur leave Ds c lb ct T v u l) := fun _ X Y row h hg hr =>
  ⟨⟨⟨ownFrom_below (β := Unit) (n₀ := w.heap.size) (B := B) (w₀ := w) (Nat.le_refl _) (by omega) () X Y row h.mw.st.below hg hr, own_at (by omega) h.mw.st.bl hg hr, own_at h1 h.mw.st.bo hg hr, own_at hl.gw h.mw.st.want hg hr⟩,
    fun D hD => own_at (hl.ds D hD) (h.mw.marks D hD) hg hr, h.mw.lo, h.mw.nd⟩, own_at hl.c h.it hg hr, ownL_at h.itl hg hr, own_at hl.lb h.li hg hr, ownL_at h.lil hg hr, own_at hl.ct h.ct hg hr⟩
theorem MkW.next {w W : World} {gw : Nat} {cur : Array Value} {leave : Int} {Ds : List Nat} {D : Nat} (h : MkW w W gw cur leave Ds) (hK : W.heap[D]? = some (.deferred (some []))) (hD : w.heap.size + 1 < D) (hn : ∀ D' ∈ Ds, D' ≠ D) : MkW w W gw cur leave (D :: Ds) := by
  refine ⟨h.st, fun D' hD' => ?_, fun D' hD' => ?_, ?_⟩
  · rcases List.mem_cons.1 hD' with rfl | h'
    · exact hK
    · exact h.marks D' h'
  · rcases List.mem_cons.1 hD' with rfl | h'
    · exact hD
    · exact h.lo D' h'
  · exact List.nodup_cons.2 ⟨fun h' => hn D h' rfl, h.nd⟩
theorem TuW.next {w W : World} {gw c lb ct T D : Nat} {cur : Array Value} {leave : Int} {Ds : List Nat} {v u : Value} {l : List Int} (h : TuW w W gw cur leave Ds c lb ct T v u l) (hK : W.heap[D]? = some (.deferred (some []))) (hD : w.heap.size + 1 < D) (hn : ∀ D' ∈ Ds, D' ≠ D) :
    TuW w (W.alloc (.cells #[.int .i64 (T + 1 : Nat)] 3)) gw cur leave (D :: Ds) c lb W.heap.size (T + 1) v u l := by
  have hb : Below W.heap.size W (W.alloc (.cells #[.int .i64 (T + 1 : Nat)] 3)) := (Below.refl _ _).alloc (Nat.le_refl _) _
  exact ⟨(h.mw.next hK hD hn).reads hb, below_has hb h.it, own_below h.itl hb, below_has hb h.li, own_below h.lil hb, heap_alloc_new _ _⟩
def mkM (D : Nat) : Deferred := { target := .collected D, args := #[] }
/-- The marks are taken, one by one. -/
theorem leaves_marks {n : Nat} {fn : Func} {tmps : Array Value} {R : Ending → World → Prop} {w : World} (u : FrameMode) (hu : u ≠ .run) : ∀ (Ds : List Nat) (W : World), (∀ D ∈ Ds, W.heap[D]? = some (.deferred (some []))) → Ds.Nodup → (∀ D ∈ Ds, w.heap.size ≤ D) → Below w.heap.size w W →
    (∀ W', Below w.heap.size w W' → (∀ k, k ∉ Ds → W'.heap[k]? = W.heap[k]?) → LeavesInM Fence.wide n Try.prog fn tmps R [] u W') → LeavesInM Fence.wide n Try.prog fn tmps R (Ds.map mkM) u W
  | [], W, _, _, _, hB, h => h W hB (fun _ _ => rfl)
  | D :: Ds, W, hm, hn, hl, hB, h => by
    have hD := hm D (List.mem_cons_self ..)
    obtain ⟨hn1, hn2⟩ := List.nodup_cons.1 hn
    refine ⟨hu, .inl ⟨_, _, rfl, run_takeDeferred hD, ?_⟩⟩
    refine leaves_marks u hu Ds _ (fun D' hD' => ?_) hn2 (fun D' hD' => hl D' (List.mem_cons_of_mem _ hD')) (below_mark hB (hl D (List.mem_cons_self ..)) hD _) ?_
    · rw [World.putObj_heap_other (by rintro rfl; exact hn1 hD')]
      exact hm D' (List.mem_cons_of_mem _ hD')
    · intro W' hB' hk
      refine h W' hB' fun k hk' => ?_
      rw [List.mem_cons, not_or] at hk'
      rw [hk k hk'.2, World.putObj_heap_other hk'.1]
end Go.Proofs.Ytkjcchepgpbiiaa
