/- The walk of TableNever: it returns true, and turns nothing that was there. Conditions: the script is a slice of steps. -/
import Derived.Test.YtabbioclcjnjjaaC04NeverParts
import Derived.Test.YtabbioclcjnjjaaLift
namespace Go.Proofs.Ytabbioclcjnjjaa
open Go.RowKit

abbrev stepSc : List Sc := [.i .i64, .i .i64, .b, .i .i64]
theorem step_fit {cs : List Value} (h : FitW stepSc cs) : ∃ (kd n : Int) (odd : Bool) (hh : Int), cs = [.int .i64 kd, .int .i64 n, .bool odd, .int .i64 hh] ∧ (-9223372036854775808 ≤ n ∧ n ≤ 9223372036854775807) := by
  have hl : cs.length = 4 := h.len
  match cs, hl with
  | [x, y, z, u], _ =>
    obtain ⟨⟨a, ha, _⟩, ⟨b, hb, wb⟩, ⟨c, hc⟩, ⟨d, hd, _⟩, _⟩ := h
    refine ⟨a, b, c, d, by rw [ha, hb, hc, hd], ?_⟩
    exact bounds_i64 wb
theorem rows_cells {w : World} {a : Option Addr} {len j : Nat} (hs : IsRows w stepSc a len) (hj : j < len) : ∃ (b off : Nat) (kd n : Int) (odd : Bool) (hh : Int), a = some ⟨b, off, none⟩ ∧ (-9223372036854775808 ≤ n ∧ n ≤ 9223372036854775807) ∧
    ∀ W, Below w.heap.size w W → W.cell? ⟨b, off + j * 4, none⟩ = some (.int .i64 kd) ∧ W.cell? ⟨b, off + j * 4 + 1, none⟩ = some (.int .i64 n) ∧ W.cell? ⟨b, off + j * 4 + 2, none⟩ = some (.bool odd) ∧ W.cell? ⟨b, off + j * 4 + 3, none⟩ = some (.int .i64 hh) := by
  rcases hs with hs | ⟨b, off, rfl, _, hb, hs⟩
  · omega
  · obtain ⟨cs, hf, hc⟩ := hs j hj
    obtain ⟨kd, n, odd, hh, rfl, hn⟩ := step_fit hf
    have hbb : b < w.heap.size := hb (by omega)
    exact ⟨b, off, kd, n, odd, hh, rfl, hn, fun W hW => ⟨(hW.cell (p := ⟨b, _, none⟩) hbb).trans (hc 0 (by decide)), (hW.cell (p := ⟨b, _, none⟩) hbb).trans (hc 1 (by decide)), (hW.cell (p := ⟨b, _, none⟩) hbb).trans (hc 2 (by decide)), (hW.cell (p := ⟨b, _, none⟩) hbb).trans (hc 3 (by decide))⟩⟩

theorem never_bad (w : World) (x : Int) (a : Option Addr) (len cap : Nat) (h : x < 1 ∨ 16 < x) :
    Calls Try.prog 3 #[.int .i64 x, .slice a len cap] w fun e w' => e = .returned (.bool true) ∧ Below w.heap.size w w' := by
  go_enter Try.func3, Try.ntmps3
  go_wp2_with fail
  refine (known_c _).mono ?_; rintro e w1 ⟨rfl, hB⟩
  go_wp2_with fail
  refine (new_bad _ _ h).mono ?_; rintro e w' ⟨rfl, rfl⟩
  clear h
  go_wp2_with (go_at_call 8; refine (num_c _ _).mono ?_; rintro e w' ⟨rfl, rfl⟩)
  go_ret
  exact ⟨rfl, hB⟩

set_option maxRecDepth 100000 in
set_option maxHeartbeats 2000000 in
theorem never_walk (w : World) (n : Nat) (a : Option Addr) (len cap : Nat) (hs : IsRows w stepSc a len) (n1 : 1 ≤ n) (n2 : n ≤ 16) :
    Calls Try.prog 3 #[.int .i64 n, .slice a len cap] w fun e w' => e = .returned (.bool true) ∧ Below w.heap.size w w' := by
  have hm := hs.max
  unfold maxLen at hm
  have HS := Lib.hid hs
  clear hs
  go_enter Try.func3, Try.ntmps3
  go_wp2_with fail
  refine (known_c _).mono ?_; rintro e w1 ⟨rfl, hB⟩
  go_wp2_with fail
  refine (new_c _ n n1 n2).mono ?_; rintro e w2 ⟨rfl, hC, hB2, _⟩
  have hst : NSt w w1.heap.size n 0 (List.replicate n (false, 0)) [] [] (.slice none 0 0) (.slice none 0 0) w2 :=
    ⟨hC, by simp, fun i => by
      unfold gn
      simp only [List.getD_eq_getElem?_getD, List.getElem?_replicate]
      split <;> simp, NInv.start n2, World.ownsRow_nil _ _ _ _, World.ownsRow_nil _ _ _ _, Nat.le_refl _, hB.size, below_reads hB hB2 hB.size⟩
  generalize w1.heap.size = tb at *
  clear hB hB2 hC
  go_wp2_with (go_at_call 8; refine (num_c _ _).mono ?_; rintro e w' ⟨rfl, rfl⟩)
  go_loopw [7, 8, 9] (fun v7 v8 i wr => ∃ (j : Nat) (L : List (Bool × Int)) (given : List Int) (gone : List Bool), i = .int .i64 j ∧ j ≤ len ∧ j ≤ 300 ∧ NSt w tb n j L given gone v7 v8 wr) (fun _ _ i _ => len - (intOf i).toNat)
  case atStart => exact ⟨0, _, _, _, rfl, by omega, by omega, hst⟩
  case round =>
    clear hst
    obtain ⟨j, L, given, gone, rfl, hj, hj3, hst⟩ := hrel
    by_cases hgo : j < len ∧ j < 300
    · obtain ⟨g1, g2⟩ := hgo
      obtain ⟨b, off, kd, nn, odd, hh, rfl, hnn, hq⟩ := rows_cells HS.out g1
      obtain ⟨e0, e1, e2, e3⟩ := hq wr hst.below
      clear e2 e3
      have Q := Lib.hid hq
      clear hq
      obtain ⟨a7, cap7, e7, k7⟩ := own_shape hst.o7
      obtain ⟨a8, cap8, e8, k8⟩ := own_shape hst.o8
      subst e7
      subst e8
      have K7 := Lib.hid k7
      have K8 := Lib.hid k8
      clear k7 k8
      go_upto_if 43 with fail
      go_cut [7, 8] (fun s7 s8 wx => ∃ (L : List (Bool × Int)) (given : List Int) (gone : List Bool), NSt w tb n (j + 1) L given gone s7 s8 wx)
      case first =>
        have hl1 : 1 ≤ L.length := by rw [hst.num]; exact n1
        have hl2 : L.length ≤ 16 := by rw [hst.num]; exact n2
        have hg9 : genOk L 900 := fun i => by have := hst.gen i; omega
        have HG := Lib.hid hg9
        clear hg9
        by_cases hk : kd = 1
        · have hkb : (kd == 1) = true := by simpa using hk
          clear hk
          cases hf : freeF L with
          | none =>
            have HF := Lib.hid hf
            clear hf
            go_wp2_with fail
            refine (add_full _ _ _ hst.tab hl1 hl2 HF.out).mono ?_; rintro e w' ⟨rfl, rfl⟩
            go_wp2_with (go_at_call 8; refine (num_c _ _).mono ?_; rintro e w' ⟨rfl, rfl⟩)
            go_meet
            exact ⟨L, given, gone, hst.up⟩
          | some i =>
            obtain ⟨hi, hti, hlo⟩ := free_some hf
            clear hlo
            have HF := Lib.hid hf
            have HT := Lib.hid hti
            clear hf hti
            go_wp2_with fail
            refine (add_c _ _ L i hst.tab hl1 hl2 HG.out HF.out).mono ?_; rintro e w3 ⟨rfl, hU⟩
            have o7 := hst.o7.kept hU.2 (own_not hst.o7 (by omega))
            have o8 := hst.o8.kept hU.2 (own_not hst.o8 (by omega))
            go_wp2_with (go_at_call 8; refine (num_c _ _).mono ?_; rintro e w' ⟨rfl, rfl⟩)
            go_loop [12] (fun i' => ∃ q : Nat, i' = .int .i64 q ∧ q ≤ given.length) (fun i' => given.length - (intOf i').toNat)
            case atStart => exact ⟨0, rfl, by omega⟩
            case round =>
              obtain ⟨q, rfl, hq⟩ := hrel
              by_cases hlt : q < given.length
              · have hL2 : given.length ≤ 1000 := by have := hst.few; omega
                have HL := Lib.hid hlt
                obtain ⟨g, rfl, gc, gz⟩ := own_int o7 hlt
                have hne : (given.getD q 0 == (i : Int) + 16 * (gn L i + 1)) = false := beq_eq_false_iff_ne.2 (hst.inv.fresh hi hlt)
                obtain ⟨z, hz⟩ : ∃ z, z = given.getD q 0 := ⟨_, rfl⟩
                rw [← hz] at gc hne
                clear hz
                go_wp2
                go_round
                case rel => exact ⟨q + 1, by go_num, HL.out⟩
                case measure => have := HL.out; simp [intOf]; omega
              · have hL2 : given.length ≤ 1000 := by have := hst.few; omega
                have hbs : tb + 1 ≤ w3.heap.size := by have := has_lt hU.1; omega
                obtain ⟨x, hx⟩ : ∃ x, x = (i : Int) + 16 * (gn L i + 1) := ⟨_, rfl⟩
                have Y := Lib.hid hx
                rw [← hx]
                clear hx
                go_wp2_with (first
                  | (refine app_int rfl (.tmp 64) (.tmp 66) rfl _ _ _ rfl (o7.alloc _) _ rfl x (has_cell 0 (heap_alloc_new _ _) rfl) hL2 (by simp; omega) ?_; intro v7 W7 p7 q7)
                  | (refine app_bool (base := tb + 1) rfl (.tmp 68) (.tmp 69) rfl (.slice a8 given.length cap8) given.length (gone.map .bool) ?hs ?own W7.heap.size ?hx false ?hu hL2 ?hb ?h))
                case hb =>
                  have q8 := q7.size
                  simp at q8 ⊢
                  omega
                case own =>
                  have o8' : W7.ownsRow (tb + 1) 4 1 (.slice a8 given.length cap8) given.length (gone.map .bool) := (o8.alloc _).kept q7 (own_apart o8 o7 (by decide))
                  exact o8'.alloc _
                case h =>
                  intro v8 W8 p8 q8
                  have e := Y.out
                  subst e
                  have hfin := hst.add hi HT.out hU p7 q7 _ p8 q8
                  clear hst p7 p8 q7 q8 o7 o8
                  go_wp2_with fail
                  go_meet
                  exact ⟨_, _, _, hfin⟩
        · have hkb : (kd == 1) = false := by simpa using hk
          clear hk
          by_cases hgo : 0 < given.length ∧ 0 ≤ nn
          · obtain ⟨q1, q2⟩ := hgo
            have ql : given.length ≤ 1000 := by have := hst.few; omega
            obtain ⟨k, hk, hkl⟩ : ∃ k : Nat, nn % (given.length : Int) = k ∧ k < given.length := ⟨(nn % (given.length : Int)).toNat, by have := Int.emod_nonneg nn (b := (given.length : Int)) (by omega); omega, by have := Int.emod_nonneg nn (b := (given.length : Int)) (by omega); have := Int.emod_lt_of_pos nn (b := (given.length : Int)) (by omega); omega⟩
            obtain ⟨g7, rfl, gc7, gz7⟩ := own_int hst.o7 hkl
            obtain ⟨g8, rfl, gc8, gz8⟩ := own_bool hst.o8 (k := k) (by rw [← hst.inv.len]; exact hkl)
            have hg10 : genOk L 1000 := fun i => by have := hst.gen i; omega
            have HG10 := Lib.hid hg10
            clear hg10
            have hn7 := own_not hst.o7 (b := tb) (by omega)
            have hn8 := own_not hst.o8 (b := tb) (by omega)
            simp only [Value.ownBlock, reduceCtorEq, false_or, ne_eq, Option.some.injEq] at hn7 hn8
            have hl7 := (hst.o7.lt g7 rfl).2
            have hl8 := (hst.o8.lt g8 rfl).2
            go_upto_region 22 with fail
            simp only [hk]
            rcases hst.inv.at hkl with ⟨ag, af⟩ | ⟨ag, p, ap, af, at1, _, _, ae⟩
            · have AF := Lib.hid af
              rw [ag] at gc8
              have AG := Lib.hid ag
              clear af ag
              obtain ⟨z, hz⟩ : ∃ z, z = given.getD k 0 := ⟨_, rfl⟩
              rw [← hz] at gc7 AF
              have HZ := Lib.hid hz
              clear hz
              go_region_held3 (fun W' => W'.cell? ⟨g7, k, none⟩ = some (.int .i64 z) ∧ W'.cell? ⟨g8, k, none⟩ = some (.bool true)) (first | exact ⟨gc7, gc8⟩ | exact ⟨by assumption, by assumption⟩)
                (first
                  | (go_at_call 8; refine (num_c _ _).mono ?_; rintro e w' ⟨rfl, rfl⟩)
                  | (go_at_call 10; refine (drop_none _ _ _ _ (by exact hst.tab) hl1 hl2 HG10.out AF.out).mono ?_; rintro e w4 ⟨rfl, hb⟩; have y1 : w4.cell? ⟨g7, k, none⟩ = some (.int .i64 z) := (hb.cell (p := ⟨g7, k, none⟩) (by exact hl7)).trans gc7; have y2 : w4.cell? ⟨g8, k, none⟩ = some (.bool true) := (hb.cell (p := ⟨g8, k, none⟩) (by exact hl8)).trans gc8))
              have y3 : w4.frozen? ⟨g8, k, none⟩ = false := (hb.frozen (p := ⟨g8, k, none⟩) (by exact hl8)).trans gz8
              go_wp2_with fail
              go_meet
              exact ⟨L, given, gone, hst.gone hkl AG.out (below_undrew hb)⟩
            · have AF := Lib.hid af
              rw [ag] at gc8
              have AG := Lib.hid ag
              have AT := Lib.hid at1
              have AE := Lib.hid ae
              clear af ag at1 ae
              obtain ⟨z, hz⟩ : ∃ z, z = given.getD k 0 := ⟨_, rfl⟩
              rw [← hz] at gc7 AF
              have HZ := Lib.hid hz
              clear hz
              go_region_held3 (fun W' => W'.cell? ⟨g7, k, none⟩ = some (.int .i64 z) ∧ W'.cell? ⟨g8, k, none⟩ = some (.bool false)) (first | exact ⟨gc7, gc8⟩ | exact ⟨by assumption, by assumption⟩)
                (first
                  | (go_at_call 8; refine (num_c _ _).mono ?_; rintro e w' ⟨rfl, rfl⟩)
                  | (go_at_call 10; refine (drop_c _ _ _ _ p (by exact hst.tab) hl1 hl2 HG10.out AF.out).mono ?_; rintro e w4 ⟨rfl, hb⟩; have y1 : w4.cell? ⟨g7, k, none⟩ = some (.int .i64 z) := upd_cell hb (by exact hl7) hn7 gc7; have y2 : w4.cell? ⟨g8, k, none⟩ = some (.bool false) := upd_cell hb (by exact hl8) hn8 gc8))
              have y3 : w4.frozen? ⟨g8, k, none⟩ = false := upd_free hb (by exact hl8) hn8 gz8
              go_wp2_with fail
              go_meet
              exact ⟨_, given, _, hst.drop hkl AG.out ap AT.out AE.out (upd_undrew hb)⟩
          · by_cases h0 : 0 < given.length
            · have h1 : nn < 0 := by omega
              clear hgo
              go_wp2_with fail
              go_meet
              exact ⟨L, given, gone, hst.up⟩
            · clear hgo
              go_wp2_with fail
              go_meet
              exact ⟨L, given, gone, hst.up⟩
      case rest =>
        clear hst K7 K8 e0 e1
        obtain ⟨L, given, gone, hst⟩ := hcut
        obtain ⟨a7, cap7, e7, k7⟩ := own_shape hst.o7
        obtain ⟨a8, cap8, e8, k8⟩ := own_shape hst.o8
        subst e7
        subst e8
        clear k7 k8
        have hl1 : 1 ≤ L.length := by rw [hst.num]; exact n1
        have hl2 : L.length ≤ 16 := by rw [hst.num]; exact n2
        have hln := hst.num
        have ql : given.length ≤ 1000 := by have := hst.few; omega
        have hg10 : genOk L 1000 := fun i => by have := hst.gen i; omega
        have HG := Lib.hid hg10
        clear hg10
        go_wp2_with fail
        go_loopw [14, 15] (fun c i wx => ∃ q : Nat, c = .int .i64 ((gone.take q).count false : Nat) ∧ i = .int .i64 q ∧ q ≤ given.length ∧ NSt w tb n (j + 1) L given gone (.slice a7 given.length cap7) (.slice a8 given.length cap8) wx) (fun _ i _ => given.length - (intOf i).toNat)
        case atStart => exact ⟨0, rfl, rfl, by omega, hst⟩
        case round =>
          clear hst
          obtain ⟨q, rfl, rfl, hq, hst⟩ := hrel
          by_cases hlt : q < given.length
          · have HL := Lib.hid hlt
            obtain ⟨g7, rfl, gc7, gz7⟩ := own_int hst.o7 hlt
            obtain ⟨g8, rfl, gc8, gz8⟩ := own_bool hst.o8 (k := q) (by rw [← hst.inv.len]; exact hlt)
            have hl7 := (hst.o7.lt g7 rfl).2
            have hl8 := (hst.o8.lt g8 rfl).2
            have hc : (gone.take q).count false ≤ 1000 := by have := List.count_le_length (a := false) (l := gone.take q); simp at this; omega
            have hlg : q < gone.length := by rw [← hst.inv.len]; exact hlt
            have hstep : (gone.take (q + 1)).count false = (gone.take q).count false + (if gone.getD q false = false then 1 else 0) := by
              rw [List.take_add_one, List.count_append, List.getD_eq_getElem?_getD, List.getElem?_eq_getElem (by omega)]
              simp
              cases gone[q] <;> simp
            clear hlg
            rcases hst.inv.at hlt with ⟨ag, af⟩ | ⟨ag, p, ap, af, _, at2, at0, _⟩
            · have C := at_c _ tb L (given.getD q 0) hst.tab hl1 hl2 HG.out
              rw [af] at C
              rw [ag] at gc8 hstep
              clear af ag
              obtain ⟨z, hz⟩ : ∃ z, z = given.getD q 0 := ⟨_, rfl⟩
              rw [← hz] at gc7 C
              clear hz
              obtain ⟨cn, hcn⟩ : ∃ cn : Nat, cn = (gone.take q).count false := ⟨_, rfl⟩
              rw [← hcn] at hc hstep
              have HS2 := Lib.hid hstep
              have HC := Lib.hid C
              clear C hstep
              rw [← hcn]
              clear hcn
              go_wp2_with fail
              refine HC.out.mono ?_; rintro e w4 ⟨rfl, hb⟩
              have y1 := (hb.cell (p := ⟨g7, q, none⟩) hl7).trans gc7
              have y2 := (hb.cell (p := ⟨g8, q, none⟩) hl8).trans gc8
              simp only [atV, Option.getD_none, Option.isSome_none]
              go_wp2_with fail
              go_roundw
              case rel => exact ⟨q + 1, by rw [HS2.out]; simp, by go_num, HL.out, hst.reads hb⟩
              case measure => have := HL.out; simp [intOf]; omega
            · have C := at_c _ tb L (given.getD q 0) hst.tab hl1 hl2 HG.out
              rw [af] at C
              rw [ag] at gc8 hstep
              have hpn : p < n := by omega
              clear af ag
              obtain ⟨z, hz⟩ : ∃ z, z = given.getD q 0 := ⟨_, rfl⟩
              rw [← hz] at gc7 C at2 at0
              clear hz
              obtain ⟨cn, hcn⟩ : ∃ cn : Nat, cn = (gone.take q).count false := ⟨_, rfl⟩
              rw [← hcn] at hc hstep
              have HS2 := Lib.hid hstep
              have HC := Lib.hid C
              clear C hstep
              rw [← hcn]
              clear hcn
              have hne : (z % 16 != (p : Int)) = false := by simp [at2]
              go_wp2_with fail
              refine HC.out.mono ?_; rintro e w4 ⟨rfl, hb⟩
              have y1 := (hb.cell (p := ⟨g7, q, none⟩) hl7).trans gc7
              have y2 := (hb.cell (p := ⟨g8, q, none⟩) hl8).trans gc8
              simp only [atV, Option.getD_some, Option.isSome_some]
              go_wp2_with fail
              go_roundw
              case rel => exact ⟨q + 1, by rw [HS2.out]; go_num, by go_num, HL.out, hst.reads hb⟩
              case measure => have := HL.out; simp [intOf]; omega
          · obtain rfl : q = given.length := by omega
            have hcn : (gone.take given.length).count false = (rowsTo L L.length).length := by rw [hst.inv.cnt, hst.inv.len, List.take_length]
            rw [hcn]
            have C := len_c _ tb L hst.tab hl1 hl2 HG.out
            obtain ⟨cn, hcn2⟩ : ∃ cn : Nat, cn = (rowsTo L L.length).length := ⟨_, rfl⟩
            rw [← hcn2] at C ⊢
            have HC := Lib.hid C
            clear C hcn hcn2
            go_wp2_with fail
            refine HC.out.mono ?_; rintro e w4 ⟨rfl, hb⟩
            go_wp2_with fail
            go_roundw
            case rel => exact ⟨j + 1, L, given, gone, by go_num, by omega, by omega, hst.reads hb⟩
            case measure => simp [intOf]; omega
    · by_cases g1 : j < len
      · have g2 : ¬ j < 300 := by omega
        clear hgo
        go_wp2_with fail
        go_ret
        exact ⟨rfl, hst.below⟩
      · clear hgo
        go_wp2_with fail
        go_ret
        exact ⟨rfl, hst.below⟩

theorem never_claim (w : World) (x : Int) (_ : (Lit.int .i64 x).wf = true) (a : Option Addr) (len cap : Nat) (hs : IsRows w stepSc a len) :
    Calls Try.prog 3 #[.int .i64 x, .slice a len cap] w fun e w' => e = .returned (.bool true) ∧ Below w.heap.size w w' := by
  by_cases h : x < 1 ∨ 16 < x
  · exact never_bad w x a len cap h
  · obtain ⟨n, rfl⟩ : ∃ n : Nat, x = n := ⟨x.toNat, by omega⟩
    exact never_walk w n a len cap hs (by omega) (by omega)
end Go.Proofs.Ytabbioclcjnjjaa
