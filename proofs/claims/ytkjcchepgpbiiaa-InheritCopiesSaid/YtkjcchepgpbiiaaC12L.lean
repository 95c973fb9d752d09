/- Lists of numbers that a walk has made or reads; 'same' tells whether two are alike; All, Of, Ring, over the translation of this seat. Conditions: the blocks that are named hold what is said. -/
import Derived.Test.YtkjcchepgpbiiaaC12All
import Derived.Laws.AppendOwn
namespace Go.Proofs.Ytkjcchepgpbiiaa
open Go.RowKit

/-- The walk's own list. -/
def OwnL (w : World) (B : Nat) (v : Value) (l : List Int) : Prop := w.ownsRow B 3 1 v l.length (l.map (.int .i64))
/-- A list that may be read. -/
def ReadsL (w : World) (v : Value) (l : List Int) : Prop := ∃ (a : Option Addr) (cap : Nat), v = .slice a l.length cap ∧ (0 < l.length → ∃ g, a = some ⟨g, 0, none⟩ ∧ ∀ k, k < l.length → w.cell? ⟨g, k, none⟩ = some (.int .i64 (l.getD k 0)))
theorem own_reads {w : World} {B : Nat} {v : Value} {l : List Int} (h : OwnL w B v l) : ReadsL w v l := by
  have hh := h
  rcases h.2 with ⟨rfl, h0⟩ | ⟨g, cap, cur, rfl, hb, hg, _⟩
  · exact ⟨none, 0, by rw [h0], fun h => by omega⟩
  · refine ⟨_, cap, rfl, fun _ => ⟨g, rfl, fun k hk => ?_⟩⟩
    rw [hh.cellAt k (by omega), List.getElem?_map, List.getElem?_eq_getElem hk, List.getD_eq_getElem?_getD, List.getElem?_eq_getElem hk]
    rfl
theorem own_frozen {w : World} {B : Nat} {v : Value} {l : List Int} (h : OwnL w B v l) (hl : 0 < l.length) : ∃ g cap, v = .slice (some ⟨g, 0, none⟩) l.length cap ∧ B ≤ g ∧ g < w.heap.size ∧ ∃ cur, w.heap[g]? = some (.cells cur 3 (0, 0)) ∧ cur.toList.take l.length = l.map (.int .i64) := by
  rcases h.2 with ⟨rfl, h0⟩ | ⟨g, cap, cur, rfl, hb, hg, _, _, _, ht⟩
  · omega
  · exact ⟨g, cap, rfl, hb, has_lt hg, cur, hg, by simpa using ht⟩
theorem reads_below {w w' : World} {v : Value} {l : List Int} (h : ReadsL w v l) (hb : Below w.heap.size w w') : ReadsL w' v l := by
  obtain ⟨a, cap, e, h⟩ := h
  refine ⟨a, cap, e, fun hl => ?_⟩
  obtain ⟨g, rfl, hc⟩ := h hl
  exact ⟨g, rfl, fun k hk => (hb.cell (p := ⟨g, k, none⟩) (World.block_lt_of_cell? w ⟨g, k, none⟩ (hc k hk))).trans (hc k hk)⟩
theorem own_nil (w : World) (B : Nat) : OwnL w B (.slice none 0 0) [] := World.ownsRow_nil _ _ _ _
theorem own_mono {w : World} {base B : Nat} {v : Value} {l : List Int} (h : OwnL w base v l) (hB : B ≤ base) : OwnL w B v l := by
  refine ⟨h.1, ?_⟩
  rcases h.2 with h | ⟨g, cap, cur, e, hb, r⟩
  · exact .inl h
  · exact .inr ⟨g, cap, cur, e, by omega, r⟩
theorem grown_of_below {w w' : World} (h : Below w.heap.size w w') (r : Option Nat) : w.grownBy w' r := ⟨h.os, h.tape, h.output, h.size, fun k hk _ => h.block k hk⟩
theorem own_below {w w' : World} {B : Nat} {v : Value} {l : List Int} (h : OwnL w B v l) (hb : Below w.heap.size w w') : OwnL w' B v l := World.ownsRow.kept h (grown_of_below hb none) (by cases v.ownBlock <;> simp)
theorem below_of_grown {w w' : World} {v : Value} {base B : Nat} {l : List Int} (hv : OwnL w base v l) (h : w.grownBy w' v.ownBlock) (hB : B ≤ base) (hs : B ≤ w.heap.size) : Below B w w' :=
  ⟨h.os, h.tape, h.output, h.size, fun k hk => h.block k (by omega) (fun e' => by
    rcases hv.2 with ⟨rfl, _⟩ | ⟨g, cap, cur, rfl, hg, _⟩
    · simp [Value.ownBlock] at e'
    · simp [Value.ownBlock] at e'; omega)⟩
theorem info_parts {P : Program} {t : TypeId} {z : Value} {s b : Nat} (h : (P.info? t).map (fun i => (i.zero, i.size, i.bytes)) = some (some z, s, b)) : ∃ i, P.info? t = some i ∧ i.zero = some z ∧ i.size = s ∧ i.bytes = b := by
  cases hi : P.info? t with
  | none => rw [hi] at h; cases h
  | some i =>
    rw [hi] at h
    simp only [Option.map_some, Option.some.injEq, Prod.mk.injEq] at h
    exact ⟨i, rfl, h.1, h.2.1, h.2.2⟩
theorem info3 : (Try.prog.info? 3).map (fun i => (i.zero, i.size, i.bytes)) = some (some (.int .i64 0), 1, 8) := by kernel_rfl
theorem app_int {ops : Array Oper} {rest : List Oper} {o : Oper} {a : Act} {Q : Exit → Act → World → Prop} {w : World} {base : Nat} (hgd : o.guard = none) (s x : Operand)
    (ho : o.op = .call { callee := .builtin .append, args := #[s, x], argTypes := #[33, 33] }) (v : Value) (l : List Int) (hs : a.eval s = v) (hown : OwnL w base v l)
    (g : Nat) (hx : a.eval x = .slice (some ⟨g, 0, none⟩) 1 1) (u : Int) (hu : w.cell? ⟨g, 0, none⟩ = some (.int .i64 u)) (hm : l.length ≤ 1000) (hbase : base ≤ w.heap.size)
    (h : ∀ v' w', OwnL w' base v' (l ++ [u]) → w.grownBy w' v.ownBlock → wpList Try.prog ops Q rest (a.put o.dst v') w') : wpList Try.prog ops Q (o :: rest) a w := by
  obtain ⟨i, hi, hz0, hz1, hz2⟩ := info_parts info3
  exact wpList_append_own w hgd s x 33 ho base 3 i (.int .i64 0) 1 8 Try.underlying33 hi hz0 hz1 hz2 rfl (by decide) v l.length _ hs hown ⟨g, 0, none⟩ 1 1 [.int .i64 u] hx rfl
    (fun j y hy => by
      match j with
      | 0 => simp at hy; subst hy; simpa [Addr.add] using hu
      | j + 1 => simp at hy) (by intro y hy; simp at hy; subst hy; rfl) (by unfold maxLen; omega) (by omega) hbase (fun v' w' h1 h2 _ => h v' w' (by unfold OwnL; rw [List.length_append, List.map_append]; exact h1) h2)
/-- A row's head, appended to nothing. -/
theorem app_head {ops : Array Oper} {rest : List Oper} {o : Oper} {a : Act} {Q : Exit → Act → World → Prop} {w : World} (hgd : o.guard = none) (s x : Operand)
    (ho : o.op = .call { callee := .builtin .append, args := #[s, x], argTypes := #[33, 33] }) (hs : a.eval s = .slice none 0 0)
    (g cap m : Nat) (l : List Int) (hlm : l.length = m) (hx : a.eval x = .slice (some ⟨g, 0, none⟩) m cap) (hc : ∀ k, k < l.length → w.cell? ⟨g, k, none⟩ = some (.int .i64 (l.getD k 0))) (hm : l.length ≤ 1000) (h1' : 0 < l.length)
    (h : ∀ v' w', OwnL w' w.heap.size v' l → Below w.heap.size w w' → wpList Try.prog ops Q rest (a.put o.dst v') w') : wpList Try.prog ops Q (o :: rest) a w := by
  subst hlm
  obtain ⟨i, hi, hz0, hz1, hz2⟩ := info_parts info3
  refine wpList_append_own w hgd s x 33 ho w.heap.size 3 i (.int .i64 0) 1 8 Try.underlying33 hi hz0 hz1 hz2 rfl (by decide) (.slice none 0 0) 0 [] hs (World.ownsRow_nil _ _ _ _) ⟨g, 0, none⟩ l.length cap (l.map (.int .i64)) hx (by simp)
    (fun j y hy => ?_) ?_ (by unfold maxLen; omega) (by omega) (Nat.le_refl _) ?_
  · rcases Nat.lt_or_ge j l.length with hj | hj
    · rw [List.getElem?_map, List.getElem?_eq_getElem hj] at hy
      simp only [Option.map_some, Option.some.injEq] at hy
      subst hy
      have := hc j hj
      rw [List.getD_eq_getElem?_getD, List.getElem?_eq_getElem hj] at this
      rw [Addr.add_mid, Nat.zero_add]
      exact this
    · rw [List.getElem?_eq_none (by simpa using hj)] at hy; cases hy
  · intro u hu
    simp only [List.mem_map] at hu
    obtain ⟨z, _, rfl⟩ := hu
    rfl
  · intro v' w' h1 h2 _
    rw [Nat.zero_add, List.nil_append] at h1
    exact h v' w' h1 ⟨h2.os, h2.tape, h2.output, h2.size, fun k hk => h2.block k hk (by simp [Value.ownBlock])⟩

/-! same. -/
theorem take_eq_next {l m : List Int} {k : Nat} (h : l.take k = m.take k) (hl : k < l.length) (hm : k < m.length) (e : l.getD k 0 = m.getD k 0) : l.take (k + 1) = m.take (k + 1) := by
  rw [List.take_add_one, List.take_add_one, h, List.getElem?_eq_getElem hl, List.getElem?_eq_getElem hm]
  rw [List.getD_eq_getElem?_getD, List.getElem?_eq_getElem hl, List.getD_eq_getElem?_getD, List.getElem?_eq_getElem hm] at e
  simp only [Option.getD_some] at e
  rw [e]
theorem same_c (w : World) (u v : Value) (l m : List Int) {z : Bool} (hl : ReadsL w u l) (hm : ReadsL w v m) (h1 : l.length ≤ 1000) (h2 : m.length ≤ 1000) (hz : decide (l = m) = z) :
    Calls Try.prog 22 #[u, v] w fun e w' => e = .returned (.bool z) ∧ Below w.heap.size w w' := by
  obtain ⟨a, ca, rfl, ha⟩ := hl
  obtain ⟨b, cb, rfl, hb⟩ := hm
  by_cases hlen : l.length = m.length
  · rw [hlen] at ha h1 ⊢
    obtain ⟨n, hn⟩ : ∃ n, n = m.length := ⟨_, rfl⟩
    rw [← hn] at ha hb h1 h2 ⊢
    have HL := Lib.hid hlen
    have HN := Lib.hid hn
    have HZ := Lib.hid hz
    clear hlen hn hz h2
    go_enter Try.func22, Try.ntmps22
    go_wp2
    go_loopw [5] (fun i wr => ∃ k : Nat, i = .int .i64 k ∧ k ≤ n ∧ l.take k = m.take k ∧ ∃ j, wr = w.drewN j) (fun i _ => n - (intOf i).toNat)
    case atStart => exact ⟨0, rfl, Nat.zero_le _, by simp, 0, rfl⟩
    case round =>
      obtain ⟨k, rfl, hk, hT, j, rfl⟩ := hrel
      have HT := Lib.hid hT
      clear hT
      by_cases hlt : k < n
      · obtain ⟨g, rfl, hg⟩ := ha (by omega)
        obtain ⟨g', rfl, hg'⟩ := hb (by omega)
        have c1 := hg k hlt
        have c2 := hg' k hlt
        clear ha hb hg hg'
        by_cases heq : l.getD k 0 = m.getD k 0
        · have hT' := take_eq_next HT.out (by rw [HL.out, ← HN.out]; exact hlt) (by rw [← HN.out]; exact hlt) heq
          rw [heq] at c1
          clear heq
          have HT' := Lib.hid hT'
          have HK := Lib.hid hlt
          clear hT'
          go_wp2_with fail
          go_quiet (fail)
          go_wp2_with fail
          go_roundw
          case rel => exact ⟨k + 1, by go_num, HK.out, HT'.out, _, rfl⟩
          case measure => have := HK.out; simp [intOf]; omega
        · have hz : z = false := by
            rw [← HZ.out, decide_eq_false_iff_not]
            rintro rfl
            exact heq rfl
          subst hz
          have hne : (l.getD k 0 != m.getD k 0) = true := by simpa using heq
          generalize l.getD k 0 = x at c1 hne heq
          generalize m.getD k 0 = y at c2 hne heq
          clear HT HL HN HZ
          go_wp2_with fail
          go_quiet (fail)
          go_wp2_with fail
          go_ret
          exact ⟨rfl, below_drewN (below_drewN (Below.refl _ _) _) _⟩
      · obtain rfl : k = n := by omega
        have hz : z = true := by
          rw [← HZ.out, decide_eq_true_eq]
          have := HT.out
          rwa [List.take_of_length_le (by rw [HL.out, ← HN.out]; exact Nat.le_refl _), List.take_of_length_le (by rw [← HN.out]; exact Nat.le_refl _)] at this
        subst hz
        clear ha hb HT HL HN HZ
        go_wp2_with fail
        go_ret
        exact ⟨rfl, below_drewN (Below.refl _ _) _⟩
  · have hz' : z = false := by
      rw [← hz, decide_eq_false_iff_not]
      rintro rfl
      exact hlen rfl
    subst hz'
    have hne : ((l.length : Int) != (m.length : Int)) = true := by rw [bne_iff_ne]; omega
    generalize l.length = x at hne h1 hlen
    generalize m.length = y at hne h2 hlen
    clear hz ha hb
    go_enter Try.func22, Try.ntmps22
    go_wp2
    go_ret
    exact ⟨rfl, Below.refl _ _⟩

/-! All, Of. -/
def outL (out : Nat → Int) (n : Nat) : List Int := (List.range n).map out
theorem outL_length (out : Nat → Int) (n : Nat) : (outL out n).length = n := by simp [outL]
theorem outL_get (out : Nat → Int) {n k : Nat} (hk : k < n) : (outL out n).getD k 0 = out k := by
  rw [List.getD_eq_getElem?_getD, outL, List.getElem?_map, List.getElem?_range hk]
  rfl
theorem outL_congr {f g : Nat → Int} {n : Nat} (h : ∀ k, k < n → f k = g k) : outL f n = outL g n := List.map_congr_left (fun k hk => h k (List.mem_range.1 hk))
theorem store_has {W : World} {p : Nat} {out : Nat → Int} (ops : Array Oper) (rest : List Oper) (Q : Exit → Act → World → Prop) (a : Act) (x y : Operand) {o : Oper} (h1 : o.guard = none) (h2 : o.op = .store 50 x y) (h3 : a.eval x = .pointer (some ⟨p, 0, none⟩)) (h4 : a.eval y = .agg (rowI out 16).toArray) (h5 : W.heap[p]? = some (hasO (fun _ => 0))) (h6 : wpList Try.prog ops Q rest (a.put o.dst undef) (W.setCells p 0 (rowI out 16))) : wpList Try.prog ops Q (o :: rest) a W := by
  refine wpList_store_mid h1 50 x y h2 p 0 (rowI out 16).toArray h3 h4 ?ht ?hi ?ho ?_
  case ht => exact has_there h5 0 _ (by simp [rowI_length])
  case hi => rw [List.size_toArray, rowI_length]; kernel_rfl
  case ho => exact all_oneCell_toArray (rowI_one _ _)
  exact h6
theorem has_new (w : World) : (w.alloc (.cells #[.int .i64 0, .int .i64 0, .int .i64 0, .int .i64 0, .int .i64 0, .int .i64 0, .int .i64 0, .int .i64 0, .int .i64 0, .int .i64 0, .int .i64 0, .int .i64 0, .int .i64 0, .int .i64 0, .int .i64 0, .int .i64 0] 50)).heap[w.heap.size]? = some (hasO (fun _ => 0)) := by
  rw [heap_alloc_new, hasO, rowI_zero]
  rfl
set_option maxHeartbeats 400000 in
theorem gall_c (w : World) (b : Nat) (s : Gs) (h : w.heap[b]? = some (gO s)) (ok : GOk s) : Calls Try.prog 12 #[.pointer (some ⟨b, 0, none⟩)] w fun e w' => ∃ (v : Value) (out : Nat → Int), e = .returned v ∧ OwnL w' w.heap.size v (outL out s.n) ∧ Least s.n s.own s.wt out ∧ Below w.heap.size w w' := by
  have n2 := ok.n2
  go_enter Try.func12, Try.ntmps12
  go_upto_region 3 with (go_at_call 24; refine (is_c _ _ _ h ok).mono ?_; rintro e w' ⟨rfl, rfl⟩)
  go_upto_region 4 with (first | (go_at_call 25; refine (all_c _ _ _ h ok).mono ?_; rintro e w1 ⟨out, rfl, hL, hz, hB⟩) | (refine store_has _ _ _ _ _ _ rfl rfl rfl rfl (has_new _) ?_))
  refine world_wp (fun W => W.heap[w1.heap.size]? = some (hasO out) ∧ Below w.heap.size w W) ?_ ?_
  · have C := copied w1 (List.replicate 16 (.int .i64 0)).toArray 50 (rowI out 16) (by rw [rowI_length]; simp)
    exact ⟨C.1, hB.trans (C.2.mono hB.size)⟩
  rintro W ⟨hA, hW⟩
  have c0 := (g_cells (below_has hW h)).1
  have hca := fun k (hk : k < s.n) => has_cells hA k (by omega)
  have n2i : (s.n : Int) ≤ 16 := by omega
  have n1 := ok.n1
  have n1i : (1 : Int) ≤ s.n := by omega
  go_wp2_with (refine app_head rfl (.const (.slice none 0 0)) (.tmp 13) rfl rfl w1.heap.size _ s.n (outL out s.n) (outL_length _ _) rfl (fun k hk => by rw [outL_length] at hk; rw [outL_get _ hk]; exact hca k hk) (by rw [outL_length]; omega) (by rw [outL_length]; omega) ?_; intro v W2 hO hB2)
  go_ret
  exact ⟨v, out, rfl, own_mono hO hW.size, hL, hW.trans (hB2.mono hW.size)⟩
theorem run_index_has (out : Nat → Int) (t : Nat) (ht : t < 16) (w : World) : (Instr.index 50 (.agg (rowI out 16).toArray) (.int .i64 t)).run Try.prog w = .ok (.int .i64 (out t)) w := by
  have h1 : (0 : Int) ≤ t ∧ (t : Int) < 16 := by omega
  obtain ⟨i, hi, hz0, hz1, hz2⟩ := info_parts info3
  have hx' := rowI_get out ht
  simp [Instr.index, run_underlying Try.underlying50, asIntOf, h1, go_sem, sizeOf, typeInfo, hi, hz1, ht, hx']
theorem of_c (w : World) (b : Nat) (s : Gs) (t : Nat) (h : w.heap[b]? = some (gO s)) (ok : GOk s) (ht : t < s.n) : Calls Try.prog 18 #[.pointer (some ⟨b, 0, none⟩), .int .i64 t] w fun e w' => ∃ out : Nat → Int, e = .returned (.tuple #[.int .i64 (out t), .bool true]) ∧ Least s.n s.own s.wt out ∧ Below w.heap.size w w' := by
  have n2 := ok.n2
  have hi : inF s t = true := by simp [inF, ht]
  have hti : (t : Int) < 16 := by omega
  have hx := fun out => run_index_has out t (by omega)
  go_enter Try.func18, Try.ntmps18
  go_upto_region 3 with (first | (go_at_call 24; refine (is_c _ _ _ h ok).mono ?_; rintro e w' ⟨rfl, rfl⟩) | (go_at_call 26; refine (in_c _ _ _ _ h hi).mono ?_; rintro e w' ⟨rfl, rfl⟩))
  go_wp2_with (go_at_call 25; refine (all_c _ _ _ h ok).mono ?_; rintro e w1 ⟨out, rfl, hL, hz, hB⟩)
  go_ret2
  exact ⟨out, rfl, hL, hB⟩
theorem of_no (w : World) (b : Nat) (s : Gs) (t : Int) (h : w.heap[b]? = some (gO s)) (ok : GOk s) (ht : inF s t = false) : Calls Try.prog 18 #[.pointer (some ⟨b, 0, none⟩), .int .i64 t] w fun e w' => e = .returned (.tuple #[.int .i64 0, .bool false]) ∧ w = w' := by
  go_enter Try.func18, Try.ntmps18
  go_wp2_with (first | (go_at_call 24; refine (is_c _ _ _ h ok).mono ?_; rintro e w' ⟨rfl, rfl⟩) | (go_at_call 26; refine (in_c _ _ _ _ h ht).mono ?_; rintro e w' ⟨rfl, rfl⟩))
  go_ret2
  exact ⟨rfl, rfl⟩

/-! Ring. -/
def nL (l : List Nat) : List Int := l.map Int.ofNat
def lenV : Value → Nat
  | .slice _ n _ => n
  | _ => 0
theorem nL_length (l : List Nat) : (nL l).length = l.length := by simp [nL]
theorem nL_one (l : List Nat) (a : Nat) : nL (l ++ [a]) = nL l ++ [(a : Int)] := by simp [nL]
theorem nL_len (l : List Nat) (a : Nat) : ((nL l ++ [(a : Int)]).length : Int) = l.length + 1 := by simp [nL]
theorem ringGo_step (wt : Nat → Int) (t f a : Nat) (acc : List Nat) : ringGo wt t (f + 1) a acc = match nxt wt a with
    | none => none
    | some w => if w = t then some (acc ++ [a]) else ringGo wt t f w (acc ++ [a]) := rfl
def ringV (r : Option (List Nat)) : List Int := nL (r.getD [])
theorem nxt_some {wt : Nat → Int} {a v : Nat} (h : wt a = (v : Int)) : nxt wt a = some v := by
  unfold nxt
  rw [if_pos (by omega), h]
  rfl
theorem nxt_none {wt : Nat → Int} {a : Nat} (h : wt a < 0) : nxt wt a = none := by
  unfold nxt
  rw [if_neg (by omega)]
theorem ring_no (w : World) (b : Nat) (s : Gs) (t : Int) (h : w.heap[b]? = some (gO s)) (ok : GOk s) (ht : inF s t = false) : Calls Try.prog 13 #[.pointer (some ⟨b, 0, none⟩), .int .i64 t] w fun e w' => e = .returned (.tuple #[.slice none 0 0, .bool false]) ∧ w = w' := by
  go_enter Try.func13, Try.ntmps13
  go_wp2_with (first | (go_at_call 24; refine (is_c _ _ _ h ok).mono ?_; rintro e w' ⟨rfl, rfl⟩) | (go_at_call 26; refine (in_c _ _ _ _ h ht).mono ?_; rintro e w' ⟨rfl, rfl⟩))
  go_ret2
  exact ⟨rfl, rfl⟩
theorem ring_c (w : World) (b : Nat) (s : Gs) (t : Nat) (h : w.heap[b]? = some (gO s)) (ok : GOk s) (ht : t < s.n) : Calls Try.prog 13 #[.pointer (some ⟨b, 0, none⟩), .int .i64 t] w fun e w' => ∃ v : Value, e = .returned (.tuple #[v, .bool (ringF s.n s.wt t).isSome]) ∧ OwnL w' w.heap.size v (ringV (ringF s.n s.wt t)) ∧ Below w.heap.size w w' := by
  have n2 := ok.n2
  have hi : inF s t = true := by simp [inF, ht]
  obtain ⟨r, hr⟩ : ∃ r, r = ringF s.n s.wt t := ⟨_, rfl⟩
  rw [← hr]
  go_enter Try.func13, Try.ntmps13
  go_upto_region 3 with (first | (go_at_call 24; refine (is_c _ _ _ h ok).mono ?_; rintro e w' ⟨rfl, rfl⟩) | (go_at_call 26; refine (in_c _ _ _ _ h hi).mono ?_; rintro e w' ⟨rfl, rfl⟩))
  clear hi
  go_wp2_with fail
  have HT := Lib.hid ht
  clear ht
  go_loopw [6, 7] (fun v i wr => ∃ (acc : List Nat) (a : Nat), i = .int .i64 a ∧ a < s.n ∧ acc.length ≤ s.n ∧ OwnL wr w.heap.size v (nL acc) ∧ r = ringGo s.wt t (s.n - acc.length) a acc ∧ Below w.heap.size w wr) (fun v _ _ => s.n - lenV v)
  case atStart => exact ⟨[], t, rfl, HT.out, Nat.zero_le _, own_nil _ _, hr, Below.refl _ _⟩
  case round =>
    have hRR := Lib.hid hr
    clear hr
    obtain ⟨acc, a, rfl, ha, hacc, hO, hR, hB⟩ := hrel
    have hG := below_has hB h
    have c0 := (g_cells hG).1
    obtain ⟨ad, cap, rfl, _⟩ := own_reads hO
    have hlen := nL_length acc
    rw [hlen] at hO ⊢
    by_cases hlt : acc.length < s.n
    · obtain ⟨f, hf⟩ : ∃ f, s.n - acc.length = f + 1 := ⟨s.n - acc.length - 1, by omega⟩
      rw [hf, ringGo_step] at hR
      have hO1 := own_below hO ((Below.refl wr.heap.size wr).alloc (Nat.le_refl _) (.cells #[.int .i64 a] 3))
      have hl16 : acc.length ≤ 15 := by omega
      have HL := Lib.hid hlen
      have HF := Lib.hid hf
      have HLT := Lib.hid hlt
      have HA := Lib.hid ha
      clear hf hlen ha
      go_upto_region 7 with (refine app_int (base := w.heap.size) rfl (.tmp 25) (.tmp 27) rfl _ (nL acc) rfl hO1 wr.heap.size rfl (a : Int) (has_cell 0 (heap_alloc_new _ _) rfl) (by rw [HL.out]; omega) (by have := hB.size; simp; omega) ?_; intro v2 W2 hO2 hG2)
      have hB2 := hB.trans ((((Below.refl wr.heap.size wr).alloc (Nat.le_refl _) (.cells #[.int .i64 a] 3)).mono hB.size).trans (below_of_grown hO1 hG2 (Nat.le_refl _) (by have := hB.size; simp; omega)))
      rw [← nL_one] at hO2
      clear c0 hG hO hO1 hG2 hB
      have hGk := below_has hB2 h
      have ha16 : a < 16 := by have := HA.out; omega
      have cw := ((g_cells hGk).2 a ha16).2.2
      have hai : (a : Int) < 16 := by omega
      have hwb := ok.wt a ha16
      clear hGk
      by_cases hneg : s.wt a < 0
      · rw [show s.wt a + 1 = 0 by omega] at cw
        rw [nxt_none hneg] at hR
        replace hR : r = none := hR
        subst hR
        have hne : ((-1 : Int) == (t : Int)) = false := by rw [beq_eq_false_iff_ne]; omega
        clear hneg hwb
        go_wp2_with fail
        go_ret2
        exact ⟨_, rfl, own_nil _ _, hB2⟩
      · obtain ⟨v, hv⟩ : ∃ v : Nat, s.wt a = v := ⟨(s.wt a).toNat, by omega⟩
        rw [nxt_some hv] at hR
        have hvn : v < s.n := by omega
        have hvi : (v : Int) < 16 := by omega
        rw [hv] at cw
        have HV := Lib.hid hvn
        clear hneg hwb hv hvn
        by_cases hvt : v = t
        · subst hvt
          replace hR : r = some (acc ++ [a]) := by simpa using hR
          subst hR
          go_wp2_with fail
          go_ret2
          exact ⟨_, rfl, hO2, hB2⟩
        · have hR' : r = ringGo s.wt t f v (acc ++ [a]) := by simpa [hvt] using hR
          have hne : ((v : Int) == (t : Int)) = false := by rw [beq_eq_false_iff_ne]; omega
          have hv0 : ¬ (v : Int) < 0 := by omega
          have HR := Lib.hid hR'
          have HO := Lib.hid hO2
          clear hR hR' hvt hO2
          go_wp2_with fail
          go_roundw
          case rel => exact ⟨acc ++ [a], v, rfl, HV.out, by rw [List.length_append]; exact HLT.out, HO.out, by rw [HR.out]; congr 1; have := HF.out; simp; omega, hB2⟩
          case measure =>
            obtain ⟨ad', cap', rfl, _⟩ := own_reads HO.out
            have := HLT.out
            simp [lenV, nL_length]
            omega
    · replace hR : r = none := by rw [hR, show s.n - acc.length = 0 by omega]; rfl
      subst hR
      clear hO
      go_wp2_with fail
      go_ret2
      exact ⟨_, rfl, own_nil _ _, hB⟩
end Go.Proofs.Ytkjcchepgpbiiaa
