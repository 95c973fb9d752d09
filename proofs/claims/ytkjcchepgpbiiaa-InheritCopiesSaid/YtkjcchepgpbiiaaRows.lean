/-
  No cell of these rows narrows 'for every input' (looked for: loops, veiled, ifaces, maps, wideKeys, modest, calm, conditions, laid).
  DERIVED. THE GIVEN ROWS OF THIS SEAT. 5 by the template 'for every input the law returns true; each argument reads behind the call as it read before'; 0 by the template 'total and deterministic' (their statements: YtkjcchepgpbiiaaTotals.lean).
  GIVEN WITH THE SEED: the statements are not yours to turn. If you find one false, say at which input.
  Laid BY PROGRAM, IN A SANDBOX (cutbox-rows.mjs): the forced cells as the released guide's own fill.sh prints them over the translation 0d2928d80520b807… (all of the seat's roots in one cut). By AI agents, Wed Nov 11 2026. No macro, syntax, notation, axiom, sorry.
-/
import Derived.Test.YtkjcchepgpbiiaaChecked
import GoSem.Claim
import GoSem.ClaimJoined
import GoSem.ClaimMapViews
import Derived.JoinedTies
import Derived.KernelRfl
namespace Go.Proofs.Ytkjcchepgpbiiaa
/- THE CELL 'sum', in the pinned program and in every row, IS THE sha256 OF THE DUMP (.gsa) THAT YtkjcchepgpbiiaaProg.lean LOADS. Nothing in Lean hashes anything: it is a label: what it is worth is what the hold of that sum in a sandbox is worth. -/
noncomputable def Try.pinned : Pinned := { name := "ytkjcchepgpbiiaa", sum := "0d2928d80520b807a54960ff4533e857d38fa11b23738e9ee66b3bdb23739763", checked := Try.checked }
namespace Rows
def none {H : Type} : Left H := { results := [], args := [] }

/-- 'metronomelaw12.InheritLeast': WHATEVER THE INPUT: true; the input reads as it did. -/
def inheritLeastSpec : ChangeSpec := { name := "inheritLeast", fn := fun _ => fun
  | [d1, d2] => { results := [.lit (.bool true)], args := [d1, d2] }
  | _ => none }
def inheritLeastRow : OpenClaim := { program := "ytkjcchepgpbiiaa", sum := "0d2928d80520b807a54960ff4533e857d38fa11b23738e9ee66b3bdb23739763", func := "metronome/metronomelaw12.InheritLeast", spec := "inheritLeast", unfollowed := true, recurses := true, apart := false }
def InheritLeastSaid : Prop := inheritLeastRow.holds Try.pinned (OpenSpec.ofChange inheritLeastSpec)

/-- ITS FALSE NEIGHBOUR: 'it returns false'. Refute it at one input. -/
def inheritLeastWrong : ChangeSpec := { name := "inheritLeast", fn := fun _ => fun
  | [d1, d2] => { results := [.lit (.bool false)], args := [d1, d2] }
  | _ => none }
def InheritLeastWrongFalsely : Prop := inheritLeastRow.holds Try.pinned (OpenSpec.ofChange inheritLeastWrong)

/-- 'metronomelaw12.InheritPlays': WHATEVER THE INPUT: true; the input reads as it did. -/
def inheritPlaysSpec : ChangeSpec := { name := "inheritPlays", fn := fun _ => fun
  | [d1, d2, d3] => { results := [.lit (.bool true)], args := [d1, d2, d3] }
  | _ => none }
def inheritPlaysRow : OpenClaim := { program := "ytkjcchepgpbiiaa", sum := "0d2928d80520b807a54960ff4533e857d38fa11b23738e9ee66b3bdb23739763", func := "metronome/metronomelaw12.InheritPlays", spec := "inheritPlays", unfollowed := true, recurses := true, apart := false }
def InheritPlaysSaid : Prop := inheritPlaysRow.holds Try.pinned (OpenSpec.ofChange inheritPlaysSpec)

/-- ITS FALSE NEIGHBOUR: 'it returns false'. Refute it at one input. -/
def inheritPlaysWrong : ChangeSpec := { name := "inheritPlays", fn := fun _ => fun
  | [d1, d2, d3] => { results := [.lit (.bool false)], args := [d1, d2, d3] }
  | _ => none }
def InheritPlaysWrongFalsely : Prop := inheritPlaysRow.holds Try.pinned (OpenSpec.ofChange inheritPlaysWrong)

/-- 'metronomelaw12.InheritRaises': WHATEVER THE INPUT: true; the input reads as it did. -/
def inheritRaisesSpec : ChangeSpec := { name := "inheritRaises", fn := fun _ => fun
  | [d1, d2, d3] => { results := [.lit (.bool true)], args := [d1, d2, d3] }
  | _ => none }
def inheritRaisesRow : OpenClaim := { program := "ytkjcchepgpbiiaa", sum := "0d2928d80520b807a54960ff4533e857d38fa11b23738e9ee66b3bdb23739763", func := "metronome/metronomelaw12.InheritRaises", spec := "inheritRaises", unfollowed := true, recurses := true, apart := false }
def InheritRaisesSaid : Prop := inheritRaisesRow.holds Try.pinned (OpenSpec.ofChange inheritRaisesSpec)

/-- ITS FALSE NEIGHBOUR: 'it returns false'. Refute it at one input. -/
def inheritRaisesWrong : ChangeSpec := { name := "inheritRaises", fn := fun _ => fun
  | [d1, d2, d3] => { results := [.lit (.bool false)], args := [d1, d2, d3] }
  | _ => none }
def InheritRaisesWrongFalsely : Prop := inheritRaisesRow.holds Try.pinned (OpenSpec.ofChange inheritRaisesWrong)

/-- 'metronomelaw12.InheritCopies': WHATEVER THE INPUT: true; the input reads as it did. -/
def inheritCopiesSpec : ChangeSpec := { name := "inheritCopies", fn := fun _ => fun
  | [d1, d2, d3] => { results := [.lit (.bool true)], args := [d1, d2, d3] }
  | _ => none }
def inheritCopiesRow : OpenClaim := { program := "ytkjcchepgpbiiaa", sum := "0d2928d80520b807a54960ff4533e857d38fa11b23738e9ee66b3bdb23739763", func := "metronome/metronomelaw12.InheritCopies", spec := "inheritCopies", unfollowed := true, recurses := true, apart := false }
def InheritCopiesSaid : Prop := inheritCopiesRow.holds Try.pinned (OpenSpec.ofChange inheritCopiesSpec)

/-- ITS FALSE NEIGHBOUR: 'it returns false'. Refute it at one input. -/
def inheritCopiesWrong : ChangeSpec := { name := "inheritCopies", fn := fun _ => fun
  | [d1, d2, d3] => { results := [.lit (.bool false)], args := [d1, d2, d3] }
  | _ => none }
def InheritCopiesWrongFalsely : Prop := inheritCopiesRow.holds Try.pinned (OpenSpec.ofChange inheritCopiesWrong)

/-- 'metronomelaw12.InheritNil': WHATEVER THE INPUT: true; the input reads as it did. -/
def inheritNilSpec : ChangeSpec := { name := "inheritNil", fn := fun _ => fun
  | [] => { results := [.lit (.bool true)], args := [] }
  | _ => none }
def inheritNilRow : OpenClaim := { program := "ytkjcchepgpbiiaa", sum := "0d2928d80520b807a54960ff4533e857d38fa11b23738e9ee66b3bdb23739763", func := "metronome/metronomelaw12.InheritNil", spec := "inheritNil", unfollowed := true, recurses := true, apart := false }
def InheritNilSaid : Prop := inheritNilRow.holds Try.pinned (OpenSpec.ofChange inheritNilSpec)

/-- ITS FALSE NEIGHBOUR: 'it returns false'. Refute it at one input. -/
def inheritNilWrong : ChangeSpec := { name := "inheritNil", fn := fun _ => fun
  | [] => { results := [.lit (.bool false)], args := [] }
  | _ => none }
def InheritNilWrongFalsely : Prop := inheritNilRow.holds Try.pinned (OpenSpec.ofChange inheritNilWrong)

/- THE SECOND FORM. 'bulk': how many values and letters a reading holds, each counted each time it is reached (what is shared counts as often as it is met; a slice's spare places count too). A statement '..UptoSaid' is the law's where the arguments, and the package variables that the reading takes, are together of bulk at most 1048576: NARROWER than '..Said'. Prove '..Said' where nothing that the law and all that it calls make is longer than what came in: it says more and counts as full. Else prove '..UptoSaid'. A law counts once. -/
mutual
def uptoBulk {H : Type} : DataW H → Nat
  | .lit (.string bytes) => bytes.length + 1
  | .lit _ => 1
  | .nil => 1
  | .ptr d => uptoBulk d + 1
  | .slice elems spare => uptoBulkAll elems + uptoBulkAll spare + 1
  | .agg parts => uptoBulkAll parts + 1
  | .iface _ d => uptoBulk d + 1
  | .map entries => uptoBulkEntries entries + 1
  | .held _ => 1
def uptoBulkAll {H : Type} : List (DataW H) → Nat
  | [] => 0
  | d :: r => uptoBulk d + uptoBulkAll r
def uptoBulkEntries {H : Type} : List (Lit × DataW H) → Nat
  | [] => 0
  | x :: r => uptoBulkEntry x + uptoBulkEntries r
def uptoBulkEntry {H : Type} : Lit × DataW H → Nat
  | (.string bytes, d) => bytes.length + uptoBulk d + 1
  | (_, d) => uptoBulk d + 1
 end
def uptoSmall : (H : Type) → List (DataW H) → Bool := fun _ ds => decide (uptoBulkAll ds ≤ 1048576)
def OpenSpec.upto (s : _root_.Go.ChangeSpec) : _root_.Go.OpenSpec := { _root_.Go.OpenSpec.ofChange s with cond := some uptoSmall }

/-- 'metronomelaw12.InheritLeast', WHERE WHAT IT READS IS OF BULK AT MOST 1048576: true; the input reads as it did. -/
def inheritLeastUptoRow : OpenClaim := { program := "ytkjcchepgpbiiaa", sum := "0d2928d80520b807a54960ff4533e857d38fa11b23738e9ee66b3bdb23739763", func := "metronome/metronomelaw12.InheritLeast", spec := "inheritLeast", unfollowed := true, recurses := true, apart := false, narrowed := true }
def InheritLeastUptoSaid : Prop := inheritLeastUptoRow.holds Try.pinned (OpenSpec.upto inheritLeastSpec)

/-- 'metronomelaw12.InheritPlays', WHERE WHAT IT READS IS OF BULK AT MOST 1048576: true; the input reads as it did. -/
def inheritPlaysUptoRow : OpenClaim := { program := "ytkjcchepgpbiiaa", sum := "0d2928d80520b807a54960ff4533e857d38fa11b23738e9ee66b3bdb23739763", func := "metronome/metronomelaw12.InheritPlays", spec := "inheritPlays", unfollowed := true, recurses := true, apart := false, narrowed := true }
def InheritPlaysUptoSaid : Prop := inheritPlaysUptoRow.holds Try.pinned (OpenSpec.upto inheritPlaysSpec)

/-- 'metronomelaw12.InheritRaises', WHERE WHAT IT READS IS OF BULK AT MOST 1048576: true; the input reads as it did. -/
def inheritRaisesUptoRow : OpenClaim := { program := "ytkjcchepgpbiiaa", sum := "0d2928d80520b807a54960ff4533e857d38fa11b23738e9ee66b3bdb23739763", func := "metronome/metronomelaw12.InheritRaises", spec := "inheritRaises", unfollowed := true, recurses := true, apart := false, narrowed := true }
def InheritRaisesUptoSaid : Prop := inheritRaisesUptoRow.holds Try.pinned (OpenSpec.upto inheritRaisesSpec)

/-- 'metronomelaw12.InheritCopies', WHERE WHAT IT READS IS OF BULK AT MOST 1048576: true; the input reads as it did. -/
def inheritCopiesUptoRow : OpenClaim := { program := "ytkjcchepgpbiiaa", sum := "0d2928d80520b807a54960ff4533e857d38fa11b23738e9ee66b3bdb23739763", func := "metronome/metronomelaw12.InheritCopies", spec := "inheritCopies", unfollowed := true, recurses := true, apart := false, narrowed := true }
def InheritCopiesUptoSaid : Prop := inheritCopiesUptoRow.holds Try.pinned (OpenSpec.upto inheritCopiesSpec)

/-- 'metronomelaw12.InheritNil', WHERE WHAT IT READS IS OF BULK AT MOST 1048576: true; the input reads as it did. -/
def inheritNilUptoRow : OpenClaim := { program := "ytkjcchepgpbiiaa", sum := "0d2928d80520b807a54960ff4533e857d38fa11b23738e9ee66b3bdb23739763", func := "metronome/metronomelaw12.InheritNil", spec := "inheritNil", unfollowed := true, recurses := true, apart := false, narrowed := true }
def InheritNilUptoSaid : Prop := inheritNilUptoRow.holds Try.pinned (OpenSpec.upto inheritNilSpec)

end Rows
end Go.Proofs.Ytkjcchepgpbiiaa
