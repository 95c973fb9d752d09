/-
  Plain: who is ready, as it lies in memory (heads, tails, links, priorities), and what the program does with it. There are no conditions.
-/
import Derived.Test.YtagmlijhgncklaaGreatDoorW08
import Derived.Lib.BitFns
set_option linter.unusedVariables false
namespace Go.Proofs.YtagmlijhgncklaaGreatDoor
open Go.RowKit

/-- Who is ready: a bit for each sequence, heads and tails, links, priorities. -/
structure Rd where
  sm : Nat
  hd : List Int
  tl : List Int
  nx : List Int
  pv : List Int
  pr : List Int
deriving DecidableEq
def Rd.joinF (R : Rd) (p : Nat) (a b : Int) : Rd :=
  let R1 := if a = -1 then { R with hd := R.hd.set p b } else { R with nx := R.nx.set a.toNat b }
  if b = -1 then { R1 with tl := R1.tl.set p a } else { R1 with pv := R1.pv.set b.toNat a }
def Rd.putF (R : Rd) (p t : Nat) (a b : Int) : Rd :=
  (({ R with pr := R.pr.set t p, sm := R.sm ||| (1 <<< p) } : Rd).joinF p a t).joinF p t b
def Rd.tailF (R : Rd) (p t : Nat) : Rd := R.putF p t (R.tl.getD p 0) (-1)
def Rd.headF (R : Rd) (p t : Nat) : Rd := R.putF p t (-1) (R.hd.getD p 0)
def Rd.remF (R : Rd) (t : Nat) : Rd :=
  let p := (R.pr.getD t 0).toNat
  let R1 := R.joinF p (R.pv.getD t 0) (R.nx.getD t 0)
  let R2 := { R1 with pr := R1.pr.set t 0 }
  if R2.hd.getD p 0 = -1 then { R2 with sm := R2.sm &&& (4294967295 - (1 <<< p)) } else R2
def Rd.new : Rd := ⟨0, List.replicate 32 (-1), List.replicate 32 (-1), List.replicate 16 0, List.replicate 16 0, List.replicate 16 0⟩
def Rd.firstF (R : Rd) : Int := R.hd.getD (Lib.bitLen R.sm - 1) 0

/-- n robins of priority 9, the i-th one ahead. -/
def ring (n i : Nat) : Rd :=
  { sm := 512
    hd := (List.replicate 32 (-1)).set 9 (i + 1 : Nat)
    tl := (List.replicate 32 (-1)).set 9 (if i = 0 then n else i : Nat)
    nx := (List.range 16).map fun t => if t = 0 then -1 else if n < t then 0 else if t = (if i = 0 then n else i) then -1 else ((t % n + 1 : Nat) : Int)
    pv := (List.range 16).map fun t => if t = 0 then -1 else if n < t then 0 else if t = i + 1 then -1 else if t = 1 then (n : Int) else ((t - 1 : Nat) : Int)
    pr := (List.range 16).map fun t => if t = 0 then 0 else if n < t then 0 else 9 }
def robins : Nat → Rd
  | 0 => Rd.new.tailF 31 0
  | n + 1 => (robins n).tailF 9 (n + 1)
theorem ring_first : ∀ n, n < 7 → ∀ i, i < n → (ring n i).firstF = (i + 1 : Nat) := by decide +kernel
end Go.Proofs.YtagmlijhgncklaaGreatDoor
