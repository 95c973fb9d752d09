/- The frames of stands: which slots the loops hold. -/
import Derived.Test.YtkjcchepgpbiiaaC12St0
namespace Go.Proofs.Ytkjcchepgpbiiaa
open Go.RowKit
theorem lit_of (A : Array Value) (n : Nat) (h : A.size = n) : A = ((List.range n).map (fun k => A.toList.getD k undef)).toArray := by
  apply Array.ext
  · simp [h]
  · intro i h1 h2
    simp [List.getD_eq_getElem?_getD, h1]
theorem lit_at {A : Array Value} {k : Nat} {v : Value} (h : A[k]? = some v) : A.toList.getD k undef = v := by
  rw [List.getD_eq_getElem?_getD, Array.getElem?_toList, h]
  rfl
structure Fr1 (A : Array Value) (w : World) (b r gw n capw : Nat) (x : Int) : Prop where
  sz : A.size = 170
  h0 : A[0]? = some (.pointer (some ⟨b, 0, none⟩))
  h1 : A[1]? = some (.pointer (some ⟨r, 0, none⟩))
  h5 : A[5]? = some (.pointer (some ⟨w.heap.size, 0, none⟩))
  h6 : A[6]? = some (.pointer (some ⟨w.heap.size + 1, 0, none⟩))
  h7 : A[7]? = some (.slice (some ⟨gw, 0, none⟩) n capw)
  h10 : A[10]? = some (.int .i64 x)
set_option maxRecDepth 100000 in
theorem Fr1.lit {A : Array Value} {w : World} {b r gw n capw : Nat} {x : Int} (h : Fr1 A w b r gw n capw x) : ∃ vs : Nat → Value, A = #[(.pointer (some ⟨b, 0, none⟩)), (.pointer (some ⟨r, 0, none⟩)), vs 2, vs 3, vs 4, (.pointer (some ⟨w.heap.size, 0, none⟩)), (.pointer (some ⟨w.heap.size + 1, 0, none⟩)), (.slice (some ⟨gw, 0, none⟩) n capw), vs 8, vs 9, (.int .i64 x), vs 11, vs 12, vs 13, vs 14, vs 15, vs 16, vs 17, vs 18, vs 19, vs 20, vs 21, vs 22, vs 23, vs 24, vs 25, vs 26, vs 27, vs 28, vs 29, vs 30, vs 31, vs 32, vs 33, vs 34, vs 35, vs 36, vs 37, vs 38, vs 39, vs 40, vs 41, vs 42, vs 43, vs 44, vs 45, vs 46, vs 47, vs 48, vs 49, vs 50, vs 51, vs 52, vs 53, vs 54, vs 55, vs 56, vs 57, vs 58, vs 59, vs 60, vs 61, vs 62, vs 63, vs 64, vs 65, vs 66, vs 67, vs 68, vs 69, vs 70, vs 71, vs 72, vs 73, vs 74, vs 75, vs 76, vs 77, vs 78, vs 79, vs 80, vs 81, vs 82, vs 83, vs 84, vs 85, vs 86, vs 87, vs 88, vs 89, vs 90, vs 91, vs 92, vs 93, vs 94, vs 95, vs 96, vs 97, vs 98, vs 99, vs 100, vs 101, vs 102, vs 103, vs 104, vs 105, vs 106, vs 107, vs 108, vs 109, vs 110, vs 111, vs 112, vs 113, vs 114, vs 115, vs 116, vs 117, vs 118, vs 119, vs 120, vs 121, vs 122, vs 123, vs 124, vs 125, vs 126, vs 127, vs 128, vs 129, vs 130, vs 131, vs 132, vs 133, vs 134, vs 135, vs 136, vs 137, vs 138, vs 139, vs 140, vs 141, vs 142, vs 143, vs 144, vs 145, vs 146, vs 147, vs 148, vs 149, vs 150, vs 151, vs 152, vs 153, vs 154, vs 155, vs 156, vs 157, vs 158, vs 159, vs 160, vs 161, vs 162, vs 163, vs 164, vs 165, vs 166, vs 167, vs 168, vs 169] := by
  have e := lit_of A 170 h.sz
  obtain ⟨f, hf⟩ : ∃ f : Nat → Value, f = fun k => A.toList.getD k undef := ⟨_, rfl⟩
  rw [← hf] at e
  have e2 : ((List.range 170).map f).toArray = #[f 0, f 1, f 2, f 3, f 4, f 5, f 6, f 7, f 8, f 9, f 10, f 11, f 12, f 13, f 14, f 15, f 16, f 17, f 18, f 19, f 20, f 21, f 22, f 23, f 24, f 25, f 26, f 27, f 28, f 29, f 30, f 31, f 32, f 33, f 34, f 35, f 36, f 37, f 38, f 39, f 40, f 41, f 42, f 43, f 44, f 45, f 46, f 47, f 48, f 49, f 50, f 51, f 52, f 53, f 54, f 55, f 56, f 57, f 58, f 59, f 60, f 61, f 62, f 63, f 64, f 65, f 66, f 67, f 68, f 69, f 70, f 71, f 72, f 73, f 74, f 75, f 76, f 77, f 78, f 79, f 80, f 81, f 82, f 83, f 84, f 85, f 86, f 87, f 88, f 89, f 90, f 91, f 92, f 93, f 94, f 95, f 96, f 97, f 98, f 99, f 100, f 101, f 102, f 103, f 104, f 105, f 106, f 107, f 108, f 109, f 110, f 111, f 112, f 113, f 114, f 115, f 116, f 117, f 118, f 119, f 120, f 121, f 122, f 123, f 124, f 125, f 126, f 127, f 128, f 129, f 130, f 131, f 132, f 133, f 134, f 135, f 136, f 137, f 138, f 139, f 140, f 141, f 142, f 143, f 144, f 145, f 146, f 147, f 148, f 149, f 150, f 151, f 152, f 153, f 154, f 155, f 156, f 157, f 158, f 159, f 160, f 161, f 162, f 163, f 164, f 165, f 166, f 167, f 168, f 169] := by rfl
  have g0 : f 0 = .pointer (some ⟨b, 0, none⟩) := by rw [hf]; exact lit_at h.h0
  have g1 : f 1 = .pointer (some ⟨r, 0, none⟩) := by rw [hf]; exact lit_at h.h1
  have g5 : f 5 = .pointer (some ⟨w.heap.size, 0, none⟩) := by rw [hf]; exact lit_at h.h5
  have g6 : f 6 = .pointer (some ⟨w.heap.size + 1, 0, none⟩) := by rw [hf]; exact lit_at h.h6
  have g7 : f 7 = .slice (some ⟨gw, 0, none⟩) n capw := by rw [hf]; exact lit_at h.h7
  have g10 : f 10 = .int .i64 x := by rw [hf]; exact lit_at h.h10
  rw [e2, g0, g1, g5, g6, g7, g10] at e
  exact ⟨f, e⟩
structure Fr2 (A : Array Value) (w : World) (b r gw n capw : Nat) (x : Int) (c lb ct : Nat) : Prop where
  sz : A.size = 170
  h0 : A[0]? = some (.pointer (some ⟨b, 0, none⟩))
  h1 : A[1]? = some (.pointer (some ⟨r, 0, none⟩))
  h5 : A[5]? = some (.pointer (some ⟨w.heap.size, 0, none⟩))
  h6 : A[6]? = some (.pointer (some ⟨w.heap.size + 1, 0, none⟩))
  h7 : A[7]? = some (.slice (some ⟨gw, 0, none⟩) n capw)
  h10 : A[10]? = some (.int .i64 x)
  h16 : A[16]? = some (.func (.func 31) #[] #[.pointer (some ⟨c, 0, none⟩)])
  h17 : A[17]? = some (.pointer (some ⟨lb, 0, none⟩))
  h19 : A[19]? = some (.pointer (some ⟨ct, 0, none⟩))
set_option maxRecDepth 100000 in
theorem Fr2.lit {A : Array Value} {w : World} {b r gw n capw : Nat} {x : Int} {c lb ct : Nat} (h : Fr2 A w b r gw n capw x c lb ct) : ∃ vs : Nat → Value, A = #[(.pointer (some ⟨b, 0, none⟩)), (.pointer (some ⟨r, 0, none⟩)), vs 2, vs 3, vs 4, (.pointer (some ⟨w.heap.size, 0, none⟩)), (.pointer (some ⟨w.heap.size + 1, 0, none⟩)), (.slice (some ⟨gw, 0, none⟩) n capw), vs 8, vs 9, (.int .i64 x), vs 11, vs 12, vs 13, vs 14, vs 15, (.func (.func 31) #[] #[.pointer (some ⟨c, 0, none⟩)]), (.pointer (some ⟨lb, 0, none⟩)), vs 18, (.pointer (some ⟨ct, 0, none⟩)), vs 20, vs 21, vs 22, vs 23, vs 24, vs 25, vs 26, vs 27, vs 28, vs 29, vs 30, vs 31, vs 32, vs 33, vs 34, vs 35, vs 36, vs 37, vs 38, vs 39, vs 40, vs 41, vs 42, vs 43, vs 44, vs 45, vs 46, vs 47, vs 48, vs 49, vs 50, vs 51, vs 52, vs 53, vs 54, vs 55, vs 56, vs 57, vs 58, vs 59, vs 60, vs 61, vs 62, vs 63, vs 64, vs 65, vs 66, vs 67, vs 68, vs 69, vs 70, vs 71, vs 72, vs 73, vs 74, vs 75, vs 76, vs 77, vs 78, vs 79, vs 80, vs 81, vs 82, vs 83, vs 84, vs 85, vs 86, vs 87, vs 88, vs 89, vs 90, vs 91, vs 92, vs 93, vs 94, vs 95, vs 96, vs 97, vs 98, vs 99, vs 100, vs 101, vs 102, vs 103, vs 104, vs 105, vs 106, vs 107, vs 108, vs 109, vs 110, vs 111, vs 112, vs 113, vs 114, vs 115, vs 116, vs 117, vs 118, vs 119, vs 120, vs 121, vs 122, vs 123, vs 124, vs 125, vs 126, vs 127, vs 128, vs 129, vs 130, vs 131, vs 132, vs 133, vs 134, vs 135, vs 136, vs 137, vs 138, vs 139, vs 140, vs 141, vs 142, vs 143, vs 144, vs 145, vs 146, vs 147, vs 148, vs 149, vs 150, vs 151, vs 152, vs 153, vs 154, vs 155, vs 156, vs 157, vs 158, vs 159, vs 160, vs 161, vs 162, vs 163, vs 164, vs 165, vs 166, vs 167, vs 168, vs 169] := by
  have e := lit_of A 170 h.sz
  obtain ⟨f, hf⟩ : ∃ f : Nat → Value, f = fun k => A.toList.getD k undef := ⟨_, rfl⟩
  rw [← hf] at e
  have e2 : ((List.range 170).map f).toArray = #[f 0, f 1, f 2, f 3, f 4, f 5, f 6, f 7, f 8, f 9, f 10, f 11, f 12, f 13, f 14, f 15, f 16, f 17, f 18, f 19, f 20, f 21, f 22, f 23, f 24, f 25, f 26, f 27, f 28, f 29, f 30, f 31, f 32, f 33, f 34, f 35, f 36, f 37, f 38, f 39, f 40, f 41, f 42, f 43, f 44, f 45, f 46, f 47, f 48, f 49, f 50, f 51, f 52, f 53, f 54, f 55, f 56, f 57, f 58, f 59, f 60, f 61, f 62, f 63, f 64, f 65, f 66, f 67, f 68, f 69, f 70, f 71, f 72, f 73, f 74, f 75, f 76, f 77, f 78, f 79, f 80, f 81, f 82, f 83, f 84, f 85, f 86, f 87, f 88, f 89, f 90, f 91, f 92, f 93, f 94, f 95, f 96, f 97, f 98, f 99, f 100, f 101, f 102, f 103, f 104, f 105, f 106, f 107, f 108, f 109, f 110, f 111, f 112, f 113, f 114, f 115, f 116, f 117, f 118, f 119, f 120, f 121, f 122, f 123, f 124, f 125, f 126, f 127, f 128, f 129, f 130, f 131, f 132, f 133, f 134, f 135, f 136, f 137, f 138, f 139, f 140, f 141, f 142, f 143, f 144, f 145, f 146, f 147, f 148, f 149, f 150, f 151, f 152, f 153, f 154, f 155, f 156, f 157, f 158, f 159, f 160, f 161, f 162, f 163, f 164, f 165, f 166, f 167, f 168, f 169] := by rfl
  have g0 : f 0 = .pointer (some ⟨b, 0, none⟩) := by rw [hf]; exact lit_at h.h0
  have g1 : f 1 = .pointer (some ⟨r, 0, none⟩) := by rw [hf]; exact lit_at h.h1
  have g5 : f 5 = .pointer (some ⟨w.heap.size, 0, none⟩) := by rw [hf]; exact lit_at h.h5
  have g6 : f 6 = .pointer (some ⟨w.heap.size + 1, 0, none⟩) := by rw [hf]; exact lit_at h.h6
  have g7 : f 7 = .slice (some ⟨gw, 0, none⟩) n capw := by rw [hf]; exact lit_at h.h7
  have g10 : f 10 = .int .i64 x := by rw [hf]; exact lit_at h.h10
  have g16 : f 16 = .func (.func 31) #[] #[.pointer (some ⟨c, 0, none⟩)] := by rw [hf]; exact lit_at h.h16
  have g17 : f 17 = .pointer (some ⟨lb, 0, none⟩) := by rw [hf]; exact lit_at h.h17
  have g19 : f 19 = .pointer (some ⟨ct, 0, none⟩) := by rw [hf]; exact lit_at h.h19
  rw [e2, g0, g1, g5, g6, g7, g10, g16, g17, g19] at e
  exact ⟨f, e⟩
end Go.Proofs.Ytkjcchepgpbiiaa
