/- Two values of a type of plain numbers and bools, structs and arrays of them: '==' tells whether all their cells are alike. Conditions: the type is such a one, the values fit it. -/
import Derived.Test.YtcchebjeohdkfaaBase
namespace Go.Proofs.Ytcchebjeohdkfaa
open Go.RowKit

/-- A cell's kind: a number, or a bool. -/
inductive Sc | i (k : IntKind) | b
def Sc.fits : Sc → Value → Prop
  | .i k, v => ∃ n, v = .int k n
  | .b, v => ∃ x, v = .bool x
def Fit : List Sc → List Value → Prop
  | [], [] => True
  | s :: ss, v :: vs => s.fits v ∧ Fit ss vs
  | _, _ => False
def eqv : Value → Value → Bool
  | .int _ a, .int _ b => a == b
  | .bool a, .bool b => a == b
  | _, _ => false
def eqs : List Value → List Value → Bool
  | [], [] => true
  | a :: as, b :: bs => eqv a b && eqs as bs
  | _, _ => false
theorem eqv_iff {s : Sc} {a b : Value} (ha : s.fits a) (hb : s.fits b) : eqv a b = true ↔ a = b := by
  cases s with
  | i k => obtain ⟨n, rfl⟩ := ha; obtain ⟨m, rfl⟩ := hb; simp [eqv]
  | b => obtain ⟨n, rfl⟩ := ha; obtain ⟨m, rfl⟩ := hb; simp [eqv]
theorem eqs_iff : ∀ {ss : List Sc} {as bs : List Value}, Fit ss as → Fit ss bs → (eqs as bs = true ↔ as = bs)
  | [], [], [], _, _ => by simp [eqs]
  | s :: ss, a :: as, b :: bs, ha, hb => by
    have h1 := eqv_iff ha.1 hb.1
    have h2 := eqs_iff ha.2 hb.2
    simp [eqs, h1, h2]
  | [], _ :: _, _, ha, _ => ha.elim
  | [], [], _ :: _, _, hb => hb.elim
  | _ :: _, [], _, ha, _ => ha.elim
  | _ :: _, _ :: _, [], _, hb => hb.elim
theorem Fit.len : ∀ {ss : List Sc} {as : List Value}, Fit ss as → as.length = ss.length
  | [], [], _ => rfl
  | _ :: _, _ :: _, h => by simp [Fit.len h.2]
  | [], _ :: _, h => h.elim
  | _ :: _, [], h => h.elim
theorem fit_append : ∀ {s1 s2 : List Sc} {as : List Value}, Fit (s1 ++ s2) as ↔ (Fit s1 (as.take s1.length) ∧ Fit s2 (as.drop s1.length))
  | [], s2, as => by simp [Fit]
  | s :: s1, s2, [] => by simp [Fit]
  | s :: s1, s2, a :: as => by simp [Fit, fit_append (s1 := s1) (s2 := s2) (as := as), and_assoc]
theorem eqs_append : ∀ {n : Nat} {as bs : List Value}, n ≤ as.length → n ≤ bs.length → eqs as bs = (eqs (as.take n) (bs.take n) && eqs (as.drop n) (bs.drop n))
  | 0, as, bs, _, _ => by simp [eqs]
  | n + 1, a :: as, b :: bs, h, h' => by
    simp only [eqs, List.take_succ_cons, List.drop_succ_cons]
    rw [eqs_append (n := n) (by simpa using h) (by simpa using h'), Bool.and_assoc]

/-- The cells of a flat type. -/
def flatFields (P : Program) (fl : TypeId → Option (List Sc)) : List Sc → List Field → Option (List Sc)
  | acc, [] => some acc
  | acc, f :: fs =>
    if f.name = "_" then none else
    match fl f.type, P.info? f.type with
    | some s, some i => if f.offset = acc.length ∧ i.size = s.length then flatFields P fl (acc ++ s) fs else none
    | _, _ => none
def flatAt (P : Program) : Nat → TypeId → Option (List Sc)
  | 0, _ => none
  | d + 1, t =>
    match P.underlying t with
    | some .bool => some [.b]
    | some (.int k) => some [.i k]
    | some (.struct fs) => if P.stoodInHeld t then none else flatFields P (flatAt P d) [] fs.toList
    | some (.array n e) =>
      (match flatAt P d e, P.info? e with
       | some s, some i => if i.size = s.length then some (List.replicate n s).flatten else none
       | _, _ => none)
    | _ => none
def aggT (P : Program) (t : TypeId) : Bool :=
  match P.underlying t with
  | some (.struct _) => true
  | some (.array _ _) => true
  | _ => false
/-- A value has the form of its type. -/
def aggV : Value → Bool
  | .agg _ => true
  | _ => false
def FormV (P : Program) (t : TypeId) (v : Value) : Prop := aggV v = aggT P t

section
variable {P : Program} (w : World)
theorem run_part_flat {d : Nat} {t : TypeId} {s : List Sc} {i : TypeInfo} (hs : flatAt P d t = some s) (hi : P.info? t = some i) (hz : i.size = s.length) (xs : Array Value) (off : Nat) (hf : Fit s ((xs.toList.drop off).take s.length)) :
    ∃ v, (part t xs off).run P w = .ok v w ∧ v.cells.toList = (xs.toList.drop off).take s.length ∧ FormV P t v := by
  cases d with
  | zero => cases hs
  | succ d =>
    unfold flatAt at hs
    cases hu : P.underlying t with
    | none => rw [hu] at hs; cases hs
    | some u =>
      rw [hu] at hs
      have one : ∀ sc : Sc, s = [sc] → aggT P t = false → (isAgg t).run P w = .ok false w → ∃ v, (part t xs off).run P w = .ok v w ∧ v.cells.toList = (xs.toList.drop off).take s.length ∧ FormV P t v := by
        intro sc e hg ha
        subst e
        have hl := hf.len
        have hlt : off < xs.size := by
          simp at hl; omega
        have e1 : (xs.toList.drop off).take 1 = [xs[off]] := by
          rw [List.drop_eq_getElem_cons (by simpa using hlt)]; rfl
        have hf1 : Fit [sc] [xs[off]] := by
          have h1 := hf
          rwa [show ([sc] : List Sc).length = 1 from rfl, e1] at h1
        refine ⟨xs[off], ?_, ?_, ?_⟩
        · simp only [part, Sem.run_bind, ha, Result.andThen_ok, Bool.false_eq_true, if_false, Array.getElem?_eq_getElem hlt, Sem.run_pure]
        rotate_left
        · unfold FormV
          rw [hg]
          cases sc with
          | i k => obtain ⟨⟨n, hn⟩, _⟩ := hf1; rw [hn]; rfl
          | b => obtain ⟨⟨n, hn⟩, _⟩ := hf1; rw [hn]; rfl
        · rw [show ([sc] : List Sc).length = 1 from rfl, e1]
          cases sc with
          | i k => obtain ⟨⟨n, hn⟩, _⟩ := hf1; rw [hn]; rfl
          | b => obtain ⟨⟨n, hn⟩, _⟩ := hf1; rw [hn]; rfl
      have many : aggT P t = true → (isAgg t).run P w = .ok true w → ∃ v, (part t xs off).run P w = .ok v w ∧ v.cells.toList = (xs.toList.drop off).take s.length ∧ FormV P t v := by
        intro hg ha
        refine ⟨.agg (xs.extract off (off + s.length)), ?_, ?_, by rw [FormV, hg]; rfl⟩
        · simp only [part, Sem.run_bind, ha, Result.andThen_ok, if_true, sizeOf, typeInfo, run_program, hi, Sem.run_pure, hz]
        · simp [Value.cells, Array.toList_extract, List.extract_eq_take_drop]
      cases u <;> first
        | (cases hs; done)
        | (exact one _ (by simpa using hs.symm) (by simp [aggT, hu]) (by simp [isAgg, run_underlying hu]))
        | (exact many (by simp [aggT, hu]) (by simp [isAgg, run_underlying hu]))

theorem eq_fields {D : Nat} {fl : TypeId → Option (List Sc)} (xs ys : Array Value)
    (ih : ∀ (t : TypeId) (s : List Sc) (i : TypeInfo) (off : Nat), fl t = some s → P.info? t = some i → i.size = s.length → Fit s ((xs.toList.drop off).take s.length) → Fit s ((ys.toList.drop off).take s.length) →
      ∃ u v, (part t xs off).run P w = .ok u w ∧ (part t ys off).run P w = .ok v w ∧ (Op.equalIn D t u v).run P w = .ok (eqs ((xs.toList.drop off).take s.length) ((ys.toList.drop off).take s.length)) w) :
    ∀ (fs : List Field) (acc s : List Sc), flatFields P fl acc fs = some s → Fit s xs.toList → Fit s ys.toList → eqs (xs.toList.take acc.length) (ys.toList.take acc.length) = true →
      (Op.eqFields D xs ys fs).run P w = .ok (eqs xs.toList ys.toList) w
  | [], acc, s, h, hx, hy, he => by
    simp only [flatFields, Option.some.injEq] at h
    subst h
    have lx : xs.toList.length ≤ acc.length := Nat.le_of_eq hx.len
    have ly : ys.toList.length ≤ acc.length := Nat.le_of_eq hy.len
    rw [List.take_of_length_le lx, List.take_of_length_le ly] at he
    simp [Op.eqFields, he]
  | f :: fs, acc, s, h, hx, hy, he => by
    unfold flatFields at h
    split at h
    · cases h
    rename_i hn
    split at h
    case h_2 => cases h
    rename_i sf i hfl hi
    split at h
    case isFalse => cases h
    rename_i hoff
    obtain ⟨ho, hz⟩ := hoff
    -- the rest's cells are behind
    have hpre : ∃ rest, s = (acc ++ sf) ++ rest := by
      clear he hx hy
      have gen : ∀ (fs : List Field) (acc s : List Sc), flatFields P fl acc fs = some s → ∃ rest, s = acc ++ rest := by
        intro fs
        induction fs with
        | nil => intro acc s h; simp [flatFields] at h; exact ⟨[], by simp [h]⟩
        | cons g gs ihg =>
          intro acc s h
          unfold flatFields at h
          split at h
          · cases h
          split at h
          case h_2 => cases h
          split at h
          case isFalse => cases h
          obtain ⟨r, hr⟩ := ihg _ _ h
          exact ⟨_, hr.trans (List.append_assoc _ _ _)⟩
      exact gen _ _ _ h
    obtain ⟨rest, hs⟩ := hpre
    have fx : Fit sf ((xs.toList.drop acc.length).take sf.length) := by
      have h1 := hx
      rw [hs, List.append_assoc] at h1
      exact (fit_append.1 (fit_append.1 h1).2).1
    have fy : Fit sf ((ys.toList.drop acc.length).take sf.length) := by
      have h1 := hy
      rw [hs, List.append_assoc] at h1
      exact (fit_append.1 (fit_append.1 h1).2).1
    obtain ⟨u, v, hu, hv, hr⟩ := ih f.type sf i acc.length hfl hi hz fx fy
    have lx : acc.length + sf.length ≤ xs.toList.length := by rw [hx.len, hs]; simp
    have ly : acc.length + sf.length ≤ ys.toList.length := by rw [hy.len, hs]; simp
    simp only [Op.eqFields, ne_eq, hn, not_false_eq_true, if_true, Sem.run_bind, ho, hu, hv, hr, Result.andThen_ok]
    cases hb : eqs ((xs.toList.drop acc.length).take sf.length) ((ys.toList.drop acc.length).take sf.length) with
    | true =>
      simp only [Bool.not_true, Bool.false_eq_true, if_false]
      refine eq_fields xs ys ih fs (acc ++ sf) s h hx hy ?_
      rw [List.length_append, eqs_append (n := acc.length) (by rw [List.length_take]; omega) (by rw [List.length_take]; omega)]
      rw [List.take_take, List.take_take, Nat.min_eq_left (by omega), he, Bool.true_and, List.drop_take, List.drop_take, Nat.add_sub_cancel_left]
      exact hb
    | false =>
      simp only [Bool.not_false, if_true, Sem.run_pure]
      congr 1
      rw [eqs_append (n := acc.length) (as := xs.toList) (bs := ys.toList) (by omega) (by omega)]
      rw [eqs_append (n := sf.length) (as := xs.toList.drop acc.length) (bs := ys.toList.drop acc.length) (by simp at lx ⊢; omega) (by simp at ly ⊢; omega), hb]
      simp

/-- The rounds of '==' over an array, as a recursion. -/
def eqRow (D : Nat) (e : TypeId) (n : Nat) (xs ys : Array Value) : List Nat → Sem Bool
  | [] => pure true
  | i :: l => do
    let a ← part e xs (i * n)
    let b ← part e ys (i * n)
    let r ← Op.equalIn D e a b
    if (!r) = true then pure false else eqRow D e n xs ys l

theorem run_equalIn_array (D : Nat) (t e : TypeId) (len : Nat) (i : TypeInfo) (xs ys : Array Value) (ht : P.underlying t = some (.array len e)) (hi : P.info? e = some i) :
    (Op.equalIn (D + 1) t (.agg xs) (.agg ys)).run P w = (eqRow D e i.size xs ys (List.range' 0 len)).run P w := by
  simp only [Op.equalIn, Sem.run_bind, run_underlying ht, Result.andThen_ok, sizeOf, typeInfo, run_program, hi, Sem.run_pure]
  rw [Std.Legacy.Range.forIn_eq_forIn_range']
  simp only [Std.Legacy.Range.size, Nat.sub_zero, Nat.add_sub_cancel, Nat.div_one]
  generalize List.range' 0 len 1 = l
  induction l generalizing w with
  | nil => simp [eqRow]
  | cons x l ih =>
    simp only [List.forIn_cons, eqRow, Sem.run_bind]
    generalize (part e xs (x * i.size)).run P w = r1
    cases r1 with
    | halt h w1 => simp [Result.andThen]
    | ok a w1 =>
      simp only [Result.andThen_ok]
      generalize (part e ys (x * i.size)).run P w1 = r2
      cases r2 with
      | halt h w2 => simp [Result.andThen]
      | ok b w2 =>
        simp only [Result.andThen_ok]
        generalize (Op.equalIn D e a b).run P w2 = r3
        cases r3 with
        | halt h w3 => simp [Result.andThen]
        | ok r w3 =>
          cases r
          · simp only [Result.andThen_ok, Bool.not_false, if_true, Sem.run_pure]
          · simp only [Result.andThen_ok, Bool.not_true, Bool.false_eq_true, if_false, Sem.run_pure]
            exact ih w3

theorem eq_row {D : Nat} {e : TypeId} {n : Nat} (s : List Sc) (xs ys : Array Value) (hn : n = s.length)
    (ih : ∀ (off : Nat), Fit s ((xs.toList.drop off).take s.length) → Fit s ((ys.toList.drop off).take s.length) →
      ∃ u v, (part e xs off).run P w = .ok u w ∧ (part e ys off).run P w = .ok v w ∧ (Op.equalIn D e u v).run P w = .ok (eqs ((xs.toList.drop off).take s.length) ((ys.toList.drop off).take s.length)) w) :
    ∀ (k j : Nat), Fit (List.replicate k s).flatten (xs.toList.drop (j * n)) → Fit (List.replicate k s).flatten (ys.toList.drop (j * n)) →
      (eqRow D e n xs ys (List.range' j k)).run P w = .ok (eqs (xs.toList.drop (j * n)) (ys.toList.drop (j * n))) w
  | 0, j, hx, hy => by
    have lx := hx.len
    have ly := hy.len
    simp only [List.replicate_zero, List.flatten_nil, List.length_nil, List.length_eq_zero_iff] at lx ly
    simp [List.range', eqRow, lx, ly, eqs]
  | k + 1, j, hx, hy => by
    rw [List.replicate_succ, List.flatten_cons] at hx hy
    have hx1 := fit_append.1 hx
    have hy1 := fit_append.1 hy
    obtain ⟨u, v, hu, hv, hr⟩ := ih (j * n) hx1.1 hy1.1
    have lx : s.length ≤ (xs.toList.drop (j * n)).length := by rw [hx.len]; simp
    have ly : s.length ≤ (ys.toList.drop (j * n)).length := by rw [hy.len]; simp
    have ex : j * n + s.length = (j + 1) * n := by rw [Nat.succ_mul, hn]
    rw [List.drop_drop, ex] at hx1 hy1
    have rec' := eq_row s xs ys hn ih k (j + 1) hx1.2 hy1.2
    simp only [List.range'_succ, eqRow, Sem.run_bind, hu, hv, hr, Result.andThen_ok]
    rw [eqs_append (n := s.length) lx ly, List.drop_drop, List.drop_drop, ex]
    cases hb : eqs ((xs.toList.drop (j * n)).take s.length) ((ys.toList.drop (j * n)).take s.length) with
    | true => simpa using rec'
    | false => simp

/-- '==' over two values of a flat type. -/
theorem run_equalIn_flat : ∀ (d D : Nat) (t : TypeId) (s : List Sc) (u v : Value), d ≤ D → flatAt P d t = some s → Fit s u.cells.toList → Fit s v.cells.toList → FormV P t u → FormV P t v →
    (Op.equalIn D t u v).run P w = .ok (eqs u.cells.toList v.cells.toList) w
  | 0, _, _, _, _, _, _, h, _, _, _, _ => by cases h
  | d + 1, 0, _, _, _, _, hD, _, _, _, _, _ => by omega
  | d + 1, D + 1, t, s, u, v, hD, h, hu, hv, gu, gv => by
    have ihp : ∀ (xs ys : Array Value) (t : TypeId) (s : List Sc) (i : TypeInfo) (off : Nat), flatAt P d t = some s → P.info? t = some i → i.size = s.length → Fit s ((xs.toList.drop off).take s.length) → Fit s ((ys.toList.drop off).take s.length) →
        ∃ u v, (part t xs off).run P w = .ok u w ∧ (part t ys off).run P w = .ok v w ∧ (Op.equalIn D t u v).run P w = .ok (eqs ((xs.toList.drop off).take s.length) ((ys.toList.drop off).take s.length)) w := by
      intro xs ys t s i off hs hi hz hx hy
      obtain ⟨a, ha, ca, fa⟩ := run_part_flat w hs hi hz xs off hx
      obtain ⟨b, hb, cb, fb⟩ := run_part_flat w hs hi hz ys off hy
      refine ⟨a, b, ha, hb, ?_⟩
      rw [run_equalIn_flat d D t s a b (by omega) hs (by rw [ca]; exact hx) (by rw [cb]; exact hy) fa fb, ca, cb]
    unfold flatAt at h
    cases hut : P.underlying t with
    | none => rw [hut] at h; cases h
    | some k =>
      rw [hut] at h
      have notagg : ∀ v : Value, aggT P t = false → FormV P t v → ∀ cs, v ≠ .agg cs := by
        intro v hg hv cs e
        subst e
        rw [FormV, hg] at hv
        cases hv
      have isagg : ∀ v : Value, aggT P t = true → FormV P t v → ∃ cs, v = .agg cs := by
        intro v hg hv
        rw [FormV, hg] at hv
        cases v <;> first | (cases hv; done) | exact ⟨_, rfl⟩
      cases k with
      | bool =>
        obtain rfl : [Sc.b] = s := by simpa using h
        have e : ∀ v : Value, Fit [Sc.b] v.cells.toList → FormV P t v → ∃ x, v = .bool x := by
          intro v hv hg
          cases v with
          | agg cs => exact absurd rfl (notagg _ (by simp [aggT, hut]) hg cs)
          | bool x => exact ⟨x, rfl⟩
          | _ => obtain ⟨⟨n, hn⟩, _⟩ := hv; cases hn
        obtain ⟨x, rfl⟩ := e u hu gu
        obtain ⟨y, rfl⟩ := e v hv gv
        simp [Op.equalIn, run_underlying hut, eqs, eqv, Value.cells]
      | int k =>
        obtain rfl : [Sc.i k] = s := by simpa using h
        have e : ∀ v : Value, Fit [Sc.i k] v.cells.toList → FormV P t v → ∃ x, v = .int k x := by
          intro v hv hg
          cases v with
          | agg cs => exact absurd rfl (notagg _ (by simp [aggT, hut]) hg cs)
          | int k' x => obtain ⟨⟨n, hn⟩, _⟩ := hv; exact ⟨n, hn⟩
          | _ => obtain ⟨⟨n, hn⟩, _⟩ := hv; cases hn
        obtain ⟨x, rfl⟩ := e u hu gu
        obtain ⟨y, rfl⟩ := e v hv gv
        simp [Op.equalIn, run_underlying hut, eqs, eqv, Value.cells]
      | struct fs =>
        obtain ⟨xs, rfl⟩ := isagg u (by simp [aggT, hut]) gu
        obtain ⟨ys, rfl⟩ := isagg v (by simp [aggT, hut]) gv
        dsimp only at h
        split at h
        · cases h
        rename_i hs
        have hfo : P.fieldsOf t = fs := by simp [Program.fieldsOf, hut]
        rw [run_equalIn_struct w D t xs ys (by rw [hfo]; exact hut) (by simpa using hs), hfo]
        exact eq_fields w xs ys (ihp xs ys) fs.toList [] s h hu hv (by simp [eqs])
      | array n e =>
        obtain ⟨xs, rfl⟩ := isagg u (by simp [aggT, hut]) gu
        obtain ⟨ys, rfl⟩ := isagg v (by simp [aggT, hut]) gv
        dsimp only at h
        split at h
        case h_2 => cases h
        rename_i s1 i1 hs1 hi1
        split at h
        case isFalse => cases h
        rename_i hz
        obtain rfl : (List.replicate n s1).flatten = s := by simpa using h
        rw [run_equalIn_array w D t e n i1 xs ys hut hi1]
        have r := eq_row w s1 xs ys hz (fun off hx hy => ihp xs ys e s1 i1 off hs1 hi1 hz hx hy) n 0 (by simpa [Value.cells] using hu) (by simpa [Value.cells] using hv)
        simpa [Value.cells] using r
      | _ => cases h

/-- 'x == y', 'x != y' of a flat type, as the walk meets them. -/
theorem run_eql_flat (d : Nat) {t : TypeId} {s : List Sc} {xs ys : Array Value} (h : flatAt P d t = some s) (hd : d ≤ 10000) (hg : aggT P t = true) (hu : Fit s xs.toList) (hv : Fit s ys.toList) :
    (binOp .eql t (.agg xs) (.agg ys)).run P w = .ok (.bool (eqs xs.toList ys.toList)) w := by
  simp only [binOp]
  simp [Op.equal, Op.maxDepth, run_equalIn_flat w d 10000 t s (.agg xs) (.agg ys) hd h hu hv (by rw [FormV, hg]; rfl) (by rw [FormV, hg]; rfl), Value.cells]
theorem run_neq_flat (d : Nat) {t : TypeId} {s : List Sc} {xs ys : Array Value} (h : flatAt P d t = some s) (hd : d ≤ 10000) (hg : aggT P t = true) (hu : Fit s xs.toList) (hv : Fit s ys.toList) :
    (binOp .neq t (.agg xs) (.agg ys)).run P w = .ok (.bool (!eqs xs.toList ys.toList)) w := by
  simp only [binOp]
  simp [Op.equal, Op.maxDepth, run_equalIn_flat w d 10000 t s (.agg xs) (.agg ys) hd h hu hv (by rw [FormV, hg]; rfl) (by rw [FormV, hg]; rfl), Value.cells]
end

end Go.Proofs.Ytcchebjeohdkfaa
