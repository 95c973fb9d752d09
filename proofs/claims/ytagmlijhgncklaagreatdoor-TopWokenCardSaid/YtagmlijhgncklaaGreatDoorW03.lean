/-
  What each function of the program names, as numbers: names, variables, go statements; closures over numbers. There are no conditions.
-/
import Derived.Test.YtagmlijhgncklaaGreatDoorW02
set_option linter.unusedVariables false
namespace Go.Proofs.YtagmlijhgncklaaGreatDoor.Reach
open Go
def ntT0 : List (Option String) := [(some "main.main"), (some "gosem.cut"), none, none, none, none, none, none, none, none, none, none, none, none, none, none, none, none, none, none, none, none, none, none, none, none, none, none, none, none, none, none, none, none, none, none, none, none, none, none, none, none, none, none, none, none, none, none, none, none]
theorem nt0 : ((List.range 50).map fun i => nm (i + 0)) = ntT0 := by kernel_rfl
def ntT1 : List (Option String) := [none, none, none, none, none, none, none, none, none, none, none, none, none, none, none, none, none, none, none, none, none, none, none, none, none, none, none, none, none, none, none, none, none, none, none, none, none, none, none, none, none, none, none, none, none, none, none, none, none, none]
theorem nt1 : ((List.range 50).map fun i => nm (i + 50)) = ntT1 := by kernel_rfl
def ntT2 : List (Option String) := [none, none, none, none, none, none, none, none, none, none, none, none, none, none, none, none, none, none, none, none, none, none, none, none, none, none, none, none, none, none, none, none, none, none, none, none, none, none, none, none, none, none, none, none, none, none, none, none, none, none]
theorem nt2 : ((List.range 50).map fun i => nm (i + 100)) = ntT2 := by kernel_rfl
def ntT3 : List (Option String) := [none, none, none, none, none, none, none, none, none, none, none, none, none, none, none, none, none, none, none, none, none, none, none, none, none, none, none, none, none, none, none, none, none, none, none, none, none, none, none, none, none, none, none, none, none, none, none, none, none, none]
theorem nt3 : ((List.range 50).map fun i => nm (i + 150)) = ntT3 := by kernel_rfl
def ntT4 : List (Option String) := [none, none, none, none, none, none, none, none, none, none, none, none, none, none, none, none, none, none, none, none, none, none, none, none, none, none, none, none, none, none, none, none, none, none, none, none, none, none, none, none, none, none, none, none, none, none, none, none, none, none]
theorem nt4 : ((List.range 50).map fun i => nm (i + 200)) = ntT4 := by kernel_rfl
def ntT5 : List (Option String) := [none, none, none, none, none, none, none, none, none, none, none, none, none, none, none, none, none, none, none, none, none, none, none, none, none, none, none, none, none, none, none, none, none, none, none, none, none, none, none, none, none, none, none, none, none, none, none, none, none, none]
theorem nt5 : ((List.range 50).map fun i => nm (i + 250)) = ntT5 := by kernel_rfl
def ntT6 : List (Option String) := [none, none, none, none, none, none, none, none, none, none, none, none, none, none, none, none, none, none, none, none, none, none, none, none, none, none, none, none, none, none, none, none, none, none, none, none, none, none, none, none, none, none, none, none, none, none, none, none, none, none]
theorem nt6 : ((List.range 50).map fun i => nm (i + 300)) = ntT6 := by kernel_rfl
def ntT7 : List (Option String) := [none, none, none, none, none, none, none, none, none, none, none, none, none, none, none, none, none, none, none, none, none, none, none, none, none, none, none, none, none, none, none, none, none, none, none, none, none, none, none, none, none, none, none, none, none, none, none, none, none, none]
theorem nt7 : ((List.range 50).map fun i => nm (i + 350)) = ntT7 := by kernel_rfl
def ntT8 : List (Option String) := [none, none, none, none, none, none, none, none, none, none, none, none, none, none, none, none, none, none, none, none, none, none, none, none, none, none, none, none, none, none, none, none, none, none, none, none, none, none, none, none, none, none, none, none, none, none, none, none, none, none]
theorem nt8 : ((List.range 50).map fun i => nm (i + 400)) = ntT8 := by kernel_rfl
def ntT9 : List (Option String) := [none, none, none, none, none, none, none, none, none, none, none, none, none, none, none, none, none, none, none, none, none, none, none, none, none, none, none, none, none, none, none, none, none, none, none, none, none, none, none, none, none, none, none, none, none, none, none, none, none, none]
theorem nt9 : ((List.range 50).map fun i => nm (i + 450)) = ntT9 := by kernel_rfl
def ntT10 : List (Option String) := [none, none, none, none, none, none, none, none, none, none, none, none, none, none, none, none, none, none, none, none, none, none, none, none, none, none, none, none, none, none, none, none, none, none, none, none, none, none, none, none, none, none, none, none, none, none, none, none, none, none]
theorem nt10 : ((List.range 50).map fun i => nm (i + 500)) = ntT10 := by kernel_rfl
def ntT11 : List (Option String) := [none, none, none, none, none, none, none, none, none, none, none, none, none, none, none, none, none, none, none, none, none, none, none, none, none, none, none, none, none, none, none, none, none, none, none, none, none, none, none, none, none, none, none, none, none, none, none, none, none, none]
theorem nt11 : ((List.range 50).map fun i => nm (i + 550)) = ntT11 := by kernel_rfl
def ntT12 : List (Option String) := [none, none, none, none, none, none, none, none, none, none, none, none, none, none, none, none, none, none, none, none, none, none, none, none, (some "slices.overlaps[metronome/api.Message]"), none, none, none, none, none, none, none, none, none, none, none, none, none, none, none, none, none, none, none, (some "internal/bytealg.IndexString"), none, none, none, (some "internal/bytealg.IndexByteString"), none]
theorem nt12 : ((List.range 50).map fun i => nm (i + 600)) = ntT12 := by kernel_rfl
def ntT13 : List (Option String) := [(some "(runtime.boundsError).Error"), (some "(runtime.boundsError).RuntimeError"), (some "(runtime.errorString).Error"), (some "(runtime.errorString).RuntimeError"), (some "(runtime.plainError).Error"), (some "(runtime.plainError).RuntimeError"), (some "(runtime.errorAddressString).Error"), (some "(runtime.errorAddressString).RuntimeError"), (some "(*runtime.TypeAssertionError).Error"), (some "(*runtime.TypeAssertionError).RuntimeError"), (some "(*runtime.PanicNilError).Error"), (some "(*runtime.PanicNilError).RuntimeError"), (some "(*internal/abi.Type).Align"), (some "(internal/runtime/maps.unhashableTypeError).Error"), (some "(internal/runtime/maps.unhashableTypeError).RuntimeError"), (some "(metronome/api.Errno).Error"), (some "(*metronome/table.Table).Len"), (some "(*metronome/turns.Turns).Len"), (some "(*metronome/wheel.Wheel).Len"), (some "(*metronome/signals.Signals).Used"), (some "(*metronome/ptimer.Timers).Len"), (some "(*metronome/keys.Keys).Len"), (some "(*metronome/tlsf.Heap).Check"), (some "(*metronome/sem.Barrier).Count"), (some "(*metronome/arena.Arena).Cost"), (some "(*metronome/ready.Ready).Len"), (some "(internal/abi.Kind).String"), (some "var's door: gosem.cut.vars holds initialisers alone; see the manifest's row cutvarsword (look 11, test files too)"), (some "var's door: math/bits.deBruijn32tab is laid by its own initialiser, plain data (look 11)"), (some "var's door: the look of gosem.cut.vars went over the folder that the caller named as the repository's root (look 11)"), (some "var's door: unicode/utf8.acceptRanges is laid by its own initialiser, plain data (look 11)"), (some "var's door: unicode/utf8.first is laid by its text alone (pinned 1)"), none]
theorem nt13 : ((List.range 33).map fun i => nm (i + 650)) = ntT13 := by kernel_rfl
def ntF (g : Nat) : Option String := match g / 50 with
  | 0 => ntT0.getD (g - 0) none
  | 1 => ntT1.getD (g - 50) none
  | 2 => ntT2.getD (g - 100) none
  | 3 => ntT3.getD (g - 150) none
  | 4 => ntT4.getD (g - 200) none
  | 5 => ntT5.getD (g - 250) none
  | 6 => ntT6.getD (g - 300) none
  | 7 => ntT7.getD (g - 350) none
  | 8 => ntT8.getD (g - 400) none
  | 9 => ntT9.getD (g - 450) none
  | 10 => ntT10.getD (g - 500) none
  | 11 => ntT11.getD (g - 550) none
  | 12 => ntT12.getD (g - 600) none
  | 13 => ntT13.getD (g - 650) none
  | _ => none
set_option maxRecDepth 100000 in
theorem nt_eq (g : Nat) : nm g = ntF g := by
  by_cases h0 : g < 50
  · have e : g / 50 = 0 := by omega
    unfold ntF
    rw [e]
    exact chunk nt0 g (by omega) (by omega)
  by_cases h1 : g < 100
  · have e : g / 50 = 1 := by omega
    unfold ntF
    rw [e]
    exact chunk nt1 g (by omega) (by omega)
  by_cases h2 : g < 150
  · have e : g / 50 = 2 := by omega
    unfold ntF
    rw [e]
    exact chunk nt2 g (by omega) (by omega)
  by_cases h3 : g < 200
  · have e : g / 50 = 3 := by omega
    unfold ntF
    rw [e]
    exact chunk nt3 g (by omega) (by omega)
  by_cases h4 : g < 250
  · have e : g / 50 = 4 := by omega
    unfold ntF
    rw [e]
    exact chunk nt4 g (by omega) (by omega)
  by_cases h5 : g < 300
  · have e : g / 50 = 5 := by omega
    unfold ntF
    rw [e]
    exact chunk nt5 g (by omega) (by omega)
  by_cases h6 : g < 350
  · have e : g / 50 = 6 := by omega
    unfold ntF
    rw [e]
    exact chunk nt6 g (by omega) (by omega)
  by_cases h7 : g < 400
  · have e : g / 50 = 7 := by omega
    unfold ntF
    rw [e]
    exact chunk nt7 g (by omega) (by omega)
  by_cases h8 : g < 450
  · have e : g / 50 = 8 := by omega
    unfold ntF
    rw [e]
    exact chunk nt8 g (by omega) (by omega)
  by_cases h9 : g < 500
  · have e : g / 50 = 9 := by omega
    unfold ntF
    rw [e]
    exact chunk nt9 g (by omega) (by omega)
  by_cases h10 : g < 550
  · have e : g / 50 = 10 := by omega
    unfold ntF
    rw [e]
    exact chunk nt10 g (by omega) (by omega)
  by_cases h11 : g < 600
  · have e : g / 50 = 11 := by omega
    unfold ntF
    rw [e]
    exact chunk nt11 g (by omega) (by omega)
  by_cases h12 : g < 650
  · have e : g / 50 = 12 := by omega
    unfold ntF
    rw [e]
    exact chunk nt12 g (by omega) (by omega)
  by_cases h13 : g < 683
  · have e : g / 50 = 13 := by omega
    unfold ntF
    rw [e]
    exact chunk nt13 g (by omega) (by omega)
  have hz : nm g = none := by unfold nm; rw [noF g (by omega)]; rfl
  rw [hz]
  unfold ntF
  by_cases hl : g / 50 = 13
  · rw [hl]
    show _ = ntT13.getD (g - 650) none
    rw [List.getD_eq_getElem?_getD, List.getElem?_eq_none (by show 33 ≤ _; omega)]
    rfl
  · split <;> first | rfl | (exfalso; omega)
def etT0 : List (Option String) := [none, none, none, none, none, none, none, none, none, none, none, none, none, none, none, none, none, none, none, none, none, none, none, none, none, none, none, none, none, none, none, none, none, none, none, none, none, none, none, none, none, none, none, none, none, none, none, none, none, none]
theorem et0 : ((List.range 50).map fun i => er (i + 0)) = etT0 := by kernel_rfl
def etT1 : List (Option String) := [none, none, none, none, none, none, none, none, none, none, none, none, none, none, none, none, none, none, none, none, none, none, none, none, none, none, none, none, none, none, none, none, none, none, none, none, none, none, none, none, none, none, none, none, none, none, none, none, none, none]
theorem et1 : ((List.range 50).map fun i => er (i + 50)) = etT1 := by kernel_rfl
def etT2 : List (Option String) := [none, none, none, none, none, none, none, none, none, none, none, none, none, none, none, none, none, none, none, none, none, none, none, none, none, none, none, none, none, none, none, none, none, none, none, none, none, none, none, none, none, none, none, none, none, none, none, none, none, none]
theorem et2 : ((List.range 50).map fun i => er (i + 100)) = etT2 := by kernel_rfl
def etT3 : List (Option String) := [none, none, none, none, none, none, none, none, none, none, none, none, none, none, none, none, none, none, none, none, none, none, none, none, none, none, none, none, none, none, none, none, none, none, none, none, none, none, none, none, none, none, none, none, none, none, none, none, none, none]
theorem et3 : ((List.range 50).map fun i => er (i + 150)) = etT3 := by kernel_rfl
def etT4 : List (Option String) := [none, none, none, none, none, none, none, none, none, none, none, none, none, none, none, none, none, none, none, none, none, none, none, none, none, none, none, none, none, none, none, none, none, none, none, none, none, none, none, none, none, none, none, none, none, none, none, none, none, none]
theorem et4 : ((List.range 50).map fun i => er (i + 200)) = etT4 := by kernel_rfl
def etT5 : List (Option String) := [none, none, none, none, none, none, none, none, none, none, none, none, none, none, none, none, none, none, none, none, none, none, none, none, none, none, none, none, none, none, none, none, none, none, none, none, none, none, none, none, none, none, none, none, none, none, none, none, none, none]
theorem et5 : ((List.range 50).map fun i => er (i + 250)) = etT5 := by kernel_rfl
def etT6 : List (Option String) := [none, none, none, none, none, none, none, none, none, none, none, none, none, none, none, none, none, none, none, none, none, none, none, none, none, none, none, none, none, none, none, none, none, none, none, none, none, none, none, none, none, none, none, none, none, none, none, none, none, none]
theorem et6 : ((List.range 50).map fun i => er (i + 300)) = etT6 := by kernel_rfl
def etT7 : List (Option String) := [none, none, none, none, none, none, none, none, none, none, none, none, none, none, none, none, none, none, none, none, none, none, none, none, none, none, none, none, none, none, none, none, none, none, none, none, none, none, none, none, none, none, none, none, none, none, none, none, none, none]
theorem et7 : ((List.range 50).map fun i => er (i + 350)) = etT7 := by kernel_rfl
def etT8 : List (Option String) := [none, none, none, none, none, none, none, none, none, none, none, none, none, none, none, none, none, none, none, none, none, none, none, none, none, none, none, none, none, none, none, none, none, none, none, none, none, none, none, none, none, none, none, none, none, none, none, none, none, none]
theorem et8 : ((List.range 50).map fun i => er (i + 400)) = etT8 := by kernel_rfl
def etT9 : List (Option String) := [none, none, none, none, none, none, none, none, none, none, none, none, none, none, none, none, none, none, none, none, none, none, none, none, none, none, none, none, none, none, none, none, none, none, none, none, none, none, none, none, none, none, none, none, none, none, none, none, none, none]
theorem et9 : ((List.range 50).map fun i => er (i + 450)) = etT9 := by kernel_rfl
def etT10 : List (Option String) := [none, none, none, none, none, none, none, none, none, none, none, none, none, none, none, none, none, none, none, none, none, none, none, none, none, none, none, none, none, none, none, none, none, none, none, none, none, none, none, none, none, none, none, none, none, none, none, none, none, none]
theorem et10 : ((List.range 50).map fun i => er (i + 500)) = etT10 := by kernel_rfl
def etT11 : List (Option String) := [none, none, none, none, none, none, none, none, none, none, none, none, none, none, none, none, none, none, none, none, none, none, none, none, none, none, none, none, none, none, none, none, none, none, none, none, none, none, none, none, none, none, none, none, none, none, none, none, none, none]
theorem et11 : ((List.range 50).map fun i => er (i + 550)) = etT11 := by kernel_rfl
def etT12 : List (Option String) := [none, none, none, none, none, none, none, none, none, none, none, none, none, none, none, none, none, none, none, none, none, none, none, none, none, none, none, none, none, none, none, none, none, none, none, none, none, none, none, none, none, none, none, none, (some "internal/bytealg.MaxLen"), none, none, none, none, none]
theorem et12 : ((List.range 50).map fun i => er (i + 600)) = etT12 := by kernel_rfl
def etT13 : List (Option String) := [none, none, none, none, none, none, none, none, none, none, none, none, none, none, none, none, none, none, none, none, none, none, none, none, none, none, none, none, none, none, none, none, none]
theorem et13 : ((List.range 33).map fun i => er (i + 650)) = etT13 := by kernel_rfl
def etF (g : Nat) : Option String := match g / 50 with
  | 0 => etT0.getD (g - 0) none
  | 1 => etT1.getD (g - 50) none
  | 2 => etT2.getD (g - 100) none
  | 3 => etT3.getD (g - 150) none
  | 4 => etT4.getD (g - 200) none
  | 5 => etT5.getD (g - 250) none
  | 6 => etT6.getD (g - 300) none
  | 7 => etT7.getD (g - 350) none
  | 8 => etT8.getD (g - 400) none
  | 9 => etT9.getD (g - 450) none
  | 10 => etT10.getD (g - 500) none
  | 11 => etT11.getD (g - 550) none
  | 12 => etT12.getD (g - 600) none
  | 13 => etT13.getD (g - 650) none
  | _ => none
set_option maxRecDepth 100000 in
theorem et_eq (g : Nat) : er g = etF g := by
  by_cases h0 : g < 50
  · have e : g / 50 = 0 := by omega
    unfold etF
    rw [e]
    exact chunk et0 g (by omega) (by omega)
  by_cases h1 : g < 100
  · have e : g / 50 = 1 := by omega
    unfold etF
    rw [e]
    exact chunk et1 g (by omega) (by omega)
  by_cases h2 : g < 150
  · have e : g / 50 = 2 := by omega
    unfold etF
    rw [e]
    exact chunk et2 g (by omega) (by omega)
  by_cases h3 : g < 200
  · have e : g / 50 = 3 := by omega
    unfold etF
    rw [e]
    exact chunk et3 g (by omega) (by omega)
  by_cases h4 : g < 250
  · have e : g / 50 = 4 := by omega
    unfold etF
    rw [e]
    exact chunk et4 g (by omega) (by omega)
  by_cases h5 : g < 300
  · have e : g / 50 = 5 := by omega
    unfold etF
    rw [e]
    exact chunk et5 g (by omega) (by omega)
  by_cases h6 : g < 350
  · have e : g / 50 = 6 := by omega
    unfold etF
    rw [e]
    exact chunk et6 g (by omega) (by omega)
  by_cases h7 : g < 400
  · have e : g / 50 = 7 := by omega
    unfold etF
    rw [e]
    exact chunk et7 g (by omega) (by omega)
  by_cases h8 : g < 450
  · have e : g / 50 = 8 := by omega
    unfold etF
    rw [e]
    exact chunk et8 g (by omega) (by omega)
  by_cases h9 : g < 500
  · have e : g / 50 = 9 := by omega
    unfold etF
    rw [e]
    exact chunk et9 g (by omega) (by omega)
  by_cases h10 : g < 550
  · have e : g / 50 = 10 := by omega
    unfold etF
    rw [e]
    exact chunk et10 g (by omega) (by omega)
  by_cases h11 : g < 600
  · have e : g / 50 = 11 := by omega
    unfold etF
    rw [e]
    exact chunk et11 g (by omega) (by omega)
  by_cases h12 : g < 650
  · have e : g / 50 = 12 := by omega
    unfold etF
    rw [e]
    exact chunk et12 g (by omega) (by omega)
  by_cases h13 : g < 683
  · have e : g / 50 = 13 := by omega
    unfold etF
    rw [e]
    exact chunk et13 g (by omega) (by omega)
  have hz : er g = none := by unfold er; rw [noF g (by omega)]; rfl
  rw [hz]
  unfold etF
  by_cases hl : g / 50 = 13
  · rw [hl]
    show _ = etT13.getD (g - 650) none
    rw [List.getD_eq_getElem?_getD, List.getElem?_eq_none (by show 33 ≤ _; omega)]
    rfl
  · split <;> first | rfl | (exfalso; omega)
def gtT0 : List (List Nat) := [[], [], [], [], [], [], [], [], [], [], [], [], [], [], [], [], [], [], [], [], [], [], [], [], [], [], [], [], [], [], [], [], [], [], [], [], [], [], [], [], [], [], [], [], [], [], [], [], [], []]
theorem gt0 : ((List.range 50).map fun i => gv (i + 0)) = gtT0 := by kernel_rfl
def gtT1 : List (List Nat) := [[], [], [], [], [], [], [], [], [], [], [], [], [], [], [], [], [], [], [], [], [], [], [], [], [], [], [], [], [], [], [], [], [], [], [], [], [], [], [], [], [], [], [], [], [], [], [], [], [], []]
theorem gt1 : ((List.range 50).map fun i => gv (i + 50)) = gtT1 := by kernel_rfl
def gtT2 : List (List Nat) := [[], [], [], [], [], [], [], [], [], [], [], [], [], [], [], [], [], [], [], [], [], [], [], [], [], [], [], [], [], [], [], [], [], [], [], [], [], [], [], [], [], [], [], [], [], [], [], [], [], []]
theorem gt2 : ((List.range 50).map fun i => gv (i + 100)) = gtT2 := by kernel_rfl
def gtT3 : List (List Nat) := [[], [], [], [], [], [], [], [], [], [], [], [], [], [], [], [], [], [], [], [], [], [], [], [], [], [], [], [], [], [], [], [], [], [], [], [], [], [], [], [], [], [], [], [], [], [], [], [], [], []]
theorem gt3 : ((List.range 50).map fun i => gv (i + 150)) = gtT3 := by kernel_rfl
def gtT4 : List (List Nat) := [[], [], [], [], [], [], [], [], [], [], [], [], [], [], [], [], [], [], [], [], [], [], [], [], [], [], [], [], [], [], [], [], [], [], [], [], [], [], [], [], [], [], [], [], [], [], [], [], [], []]
theorem gt4 : ((List.range 50).map fun i => gv (i + 200)) = gtT4 := by kernel_rfl
def gtT5 : List (List Nat) := [[], [], [], [], [], [], [], [], [], [], [], [], [], [], [], [], [], [], [], [], [], [], [], [], [], [], [], [], [], [], [], [], [], [], [], [], [], [], [], [], [], [], [], [], [], [], [], [], [], []]
theorem gt5 : ((List.range 50).map fun i => gv (i + 250)) = gtT5 := by kernel_rfl
def gtT6 : List (List Nat) := [[], [], [], [], [], [], [], [], [], [], [], [], [], [], [], [], [], [], [], [], [], [], [], [], [], [], [], [], [], [], [], [], [], [], [], [], [], [], [], [], [], [], [], [], [], [], [], [], [], []]
theorem gt6 : ((List.range 50).map fun i => gv (i + 300)) = gtT6 := by kernel_rfl
def gtT7 : List (List Nat) := [[], [], [], [], [], [], [], [], [], [], [], [], [], [], [], [], [], [], [], [], [], [], [], [], [], [], [], [], [], [], [], [], [], [], [], [], [], [], [], [], [], [], [], [], [], [], [], [], [], []]
theorem gt7 : ((List.range 50).map fun i => gv (i + 350)) = gtT7 := by kernel_rfl
def gtT8 : List (List Nat) := [[], [], [], [], [], [], [], [], [], [], [], [], [], [], [], [], [], [], [], [], [], [], [], [], [], [], [], [], [], [], [], [], [], [], [], [], [], [], [], [], [], [], [], [], [], [], [], [], [], []]
theorem gt8 : ((List.range 50).map fun i => gv (i + 400)) = gtT8 := by kernel_rfl
def gtT9 : List (List Nat) := [[], [], [], [], [], [], [], [], [], [], [], [], [], [], [], [], [], [], [], [], [], [], [], [], [], [], [], [], [], [], [], [], [], [], [], [], [], [], [], [], [], [], [], [], [], [], [], [], [], []]
theorem gt9 : ((List.range 50).map fun i => gv (i + 450)) = gtT9 := by kernel_rfl
def gtT10 : List (List Nat) := [[], [], [], [], [], [], [], [], [], [], [], [], [], [], [], [], [], [], [], [], [], [], [], [], [], [], [], [], [], [], [], [], [], [], [], [], [], [], [], [], [], [], [], [], [], [], [], [], [], []]
theorem gt10 : ((List.range 50).map fun i => gv (i + 500)) = gtT10 := by kernel_rfl
def gtT11 : List (List Nat) := [[], [], [], [], [], [], [], [], [], [], [], [], [], [], [], [], [], [], [], [], [], [], [], [], [], [], [], [], [], [], [], [], [], [], [], [0], [], [], [], [], [1, 2], [], [], [], [], [], [], [], [], []]
theorem gt11 : ((List.range 50).map fun i => gv (i + 550)) = gtT11 := by kernel_rfl
def gtT12 : List (List Nat) := [[], [], [], [], [], [], [], [], [], [], [], [], [], [], [], [], [], [], [], [], [], [], [], [], [], [], [], [], [], [], [], [], [], [], [], [], [], [], [3, 3, 3], [], [], [], [], [], [], [], [], [], [], []]
theorem gt12 : ((List.range 50).map fun i => gv (i + 600)) = gtT12 := by kernel_rfl
def gtT13 : List (List Nat) := [[], [], [], [], [], [], [], [], [], [], [], [], [], [], [], [], [], [], [], [], [], [], [], [], [], [], [], [], [], [], [], [], [0, 2]]
theorem gt13 : ((List.range 33).map fun i => gv (i + 650)) = gtT13 := by kernel_rfl
def gtF (g : Nat) : List Nat := match g / 50 with
  | 0 => gtT0.getD (g - 0) []
  | 1 => gtT1.getD (g - 50) []
  | 2 => gtT2.getD (g - 100) []
  | 3 => gtT3.getD (g - 150) []
  | 4 => gtT4.getD (g - 200) []
  | 5 => gtT5.getD (g - 250) []
  | 6 => gtT6.getD (g - 300) []
  | 7 => gtT7.getD (g - 350) []
  | 8 => gtT8.getD (g - 400) []
  | 9 => gtT9.getD (g - 450) []
  | 10 => gtT10.getD (g - 500) []
  | 11 => gtT11.getD (g - 550) []
  | 12 => gtT12.getD (g - 600) []
  | 13 => gtT13.getD (g - 650) []
  | _ => []
set_option maxRecDepth 100000 in
theorem gt_eq (g : Nat) : gv g = gtF g := by
  by_cases h0 : g < 50
  · have e : g / 50 = 0 := by omega
    unfold gtF
    rw [e]
    exact chunk gt0 g (by omega) (by omega)
  by_cases h1 : g < 100
  · have e : g / 50 = 1 := by omega
    unfold gtF
    rw [e]
    exact chunk gt1 g (by omega) (by omega)
  by_cases h2 : g < 150
  · have e : g / 50 = 2 := by omega
    unfold gtF
    rw [e]
    exact chunk gt2 g (by omega) (by omega)
  by_cases h3 : g < 200
  · have e : g / 50 = 3 := by omega
    unfold gtF
    rw [e]
    exact chunk gt3 g (by omega) (by omega)
  by_cases h4 : g < 250
  · have e : g / 50 = 4 := by omega
    unfold gtF
    rw [e]
    exact chunk gt4 g (by omega) (by omega)
  by_cases h5 : g < 300
  · have e : g / 50 = 5 := by omega
    unfold gtF
    rw [e]
    exact chunk gt5 g (by omega) (by omega)
  by_cases h6 : g < 350
  · have e : g / 50 = 6 := by omega
    unfold gtF
    rw [e]
    exact chunk gt6 g (by omega) (by omega)
  by_cases h7 : g < 400
  · have e : g / 50 = 7 := by omega
    unfold gtF
    rw [e]
    exact chunk gt7 g (by omega) (by omega)
  by_cases h8 : g < 450
  · have e : g / 50 = 8 := by omega
    unfold gtF
    rw [e]
    exact chunk gt8 g (by omega) (by omega)
  by_cases h9 : g < 500
  · have e : g / 50 = 9 := by omega
    unfold gtF
    rw [e]
    exact chunk gt9 g (by omega) (by omega)
  by_cases h10 : g < 550
  · have e : g / 50 = 10 := by omega
    unfold gtF
    rw [e]
    exact chunk gt10 g (by omega) (by omega)
  by_cases h11 : g < 600
  · have e : g / 50 = 11 := by omega
    unfold gtF
    rw [e]
    exact chunk gt11 g (by omega) (by omega)
  by_cases h12 : g < 650
  · have e : g / 50 = 12 := by omega
    unfold gtF
    rw [e]
    exact chunk gt12 g (by omega) (by omega)
  by_cases h13 : g < 683
  · have e : g / 50 = 13 := by omega
    unfold gtF
    rw [e]
    exact chunk gt13 g (by omega) (by omega)
  have hz : gv g = [] := by unfold gv; rw [noF g (by omega)]; rfl
  rw [hz]
  unfold gtF
  by_cases hl : g / 50 = 13
  · rw [hl]
    show _ = gtT13.getD (g - 650) []
    rw [List.getD_eq_getElem?_getD, List.getElem?_eq_none (by show 33 ≤ _; omega)]
    rfl
  · split <;> first | rfl | (exfalso; omega)
theorem go0 : ((List.range 50).map fun i => gs (i + 0)) = List.replicate 50 false := by kernel_rfl
theorem go1 : ((List.range 50).map fun i => gs (i + 50)) = List.replicate 50 false := by kernel_rfl
theorem go2 : ((List.range 50).map fun i => gs (i + 100)) = List.replicate 50 false := by kernel_rfl
theorem go3 : ((List.range 50).map fun i => gs (i + 150)) = List.replicate 50 false := by kernel_rfl
theorem go4 : ((List.range 50).map fun i => gs (i + 200)) = List.replicate 50 false := by kernel_rfl
theorem go5 : ((List.range 50).map fun i => gs (i + 250)) = List.replicate 50 false := by kernel_rfl
theorem go6 : ((List.range 50).map fun i => gs (i + 300)) = List.replicate 50 false := by kernel_rfl
theorem go7 : ((List.range 50).map fun i => gs (i + 350)) = List.replicate 50 false := by kernel_rfl
theorem go8 : ((List.range 50).map fun i => gs (i + 400)) = List.replicate 50 false := by kernel_rfl
theorem go9 : ((List.range 50).map fun i => gs (i + 450)) = List.replicate 50 false := by kernel_rfl
theorem go10 : ((List.range 50).map fun i => gs (i + 500)) = List.replicate 50 false := by kernel_rfl
theorem go11 : ((List.range 50).map fun i => gs (i + 550)) = List.replicate 50 false := by kernel_rfl
theorem go12 : ((List.range 50).map fun i => gs (i + 600)) = List.replicate 50 false := by kernel_rfl
theorem go13 : ((List.range 33).map fun i => gs (i + 650)) = List.replicate 33 false := by kernel_rfl
theorem go_eq (g : Nat) : gs g = false := by
  by_cases h0 : g < 50
  · have q := chunk (d := false) go0 g (by omega) (by omega)
    rw [q, List.getD_eq_getElem?_getD, List.getElem?_replicate]
    split <;> rfl
  by_cases h1 : g < 100
  · have q := chunk (d := false) go1 g (by omega) (by omega)
    rw [q, List.getD_eq_getElem?_getD, List.getElem?_replicate]
    split <;> rfl
  by_cases h2 : g < 150
  · have q := chunk (d := false) go2 g (by omega) (by omega)
    rw [q, List.getD_eq_getElem?_getD, List.getElem?_replicate]
    split <;> rfl
  by_cases h3 : g < 200
  · have q := chunk (d := false) go3 g (by omega) (by omega)
    rw [q, List.getD_eq_getElem?_getD, List.getElem?_replicate]
    split <;> rfl
  by_cases h4 : g < 250
  · have q := chunk (d := false) go4 g (by omega) (by omega)
    rw [q, List.getD_eq_getElem?_getD, List.getElem?_replicate]
    split <;> rfl
  by_cases h5 : g < 300
  · have q := chunk (d := false) go5 g (by omega) (by omega)
    rw [q, List.getD_eq_getElem?_getD, List.getElem?_replicate]
    split <;> rfl
  by_cases h6 : g < 350
  · have q := chunk (d := false) go6 g (by omega) (by omega)
    rw [q, List.getD_eq_getElem?_getD, List.getElem?_replicate]
    split <;> rfl
  by_cases h7 : g < 400
  · have q := chunk (d := false) go7 g (by omega) (by omega)
    rw [q, List.getD_eq_getElem?_getD, List.getElem?_replicate]
    split <;> rfl
  by_cases h8 : g < 450
  · have q := chunk (d := false) go8 g (by omega) (by omega)
    rw [q, List.getD_eq_getElem?_getD, List.getElem?_replicate]
    split <;> rfl
  by_cases h9 : g < 500
  · have q := chunk (d := false) go9 g (by omega) (by omega)
    rw [q, List.getD_eq_getElem?_getD, List.getElem?_replicate]
    split <;> rfl
  by_cases h10 : g < 550
  · have q := chunk (d := false) go10 g (by omega) (by omega)
    rw [q, List.getD_eq_getElem?_getD, List.getElem?_replicate]
    split <;> rfl
  by_cases h11 : g < 600
  · have q := chunk (d := false) go11 g (by omega) (by omega)
    rw [q, List.getD_eq_getElem?_getD, List.getElem?_replicate]
    split <;> rfl
  by_cases h12 : g < 650
  · have q := chunk (d := false) go12 g (by omega) (by omega)
    rw [q, List.getD_eq_getElem?_getD, List.getElem?_replicate]
    split <;> rfl
  by_cases h13 : g < 683
  · have q := chunk (d := false) go13 g (by omega) (by omega)
    rw [q, List.getD_eq_getElem?_getD, List.getElem?_replicate]
    split <;> rfl
  unfold gs; rw [noF g (by omega)]; rfl
end Go.Proofs.YtagmlijhgncklaaGreatDoor.Reach
