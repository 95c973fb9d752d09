/-
  NARROWER THAN 'FOR EVERY INPUT', by the rows' own cells (each row's printed sentence says how): TopWoken: laid · TopRobins: laid · TopDead: laid · TopSporadic: laid.
  DERIVED. THE GIVEN ROWS OF THIS SEAT. 4 by the template 'for every input the law returns true; each argument reads behind the call as it read before'; 0 by the template 'total and deterministic' (their statements: YtagmlijhgncklaaGreatDoorTotals.lean).
  GIVEN WITH THE SEED: the statements are not yours to turn. If you find one false, say at which input.
  Laid BY PROGRAM, IN A SANDBOX (cutbox-rows.mjs): the forced cells as the released guide's own fill.sh prints them over the translation 56c5ffd0f1bc6922… (all of the seat's roots in one cut). By AI agents, Wed Nov 11 2026. No macro, syntax, notation, axiom, sorry.
-/
import Derived.Test.YtagmlijhgncklaaGreatDoorChecked
import GoSem.PinnedTables
import GoSem.Claim
import GoSem.ClaimJoined
import GoSem.ClaimMapViews
import Derived.JoinedTies
import Derived.KernelRfl
namespace Go.Proofs.YtagmlijhgncklaaGreatDoor
/- THE CELL 'sum', in the pinned program and in every row, IS THE sha256 OF THE DUMP (.gsa) THAT YtagmlijhgncklaaGreatDoorProg.lean LOADS. Nothing in Lean hashes anything: it is a label: what it is worth is what the hold of that sum in a sandbox is worth. -/
noncomputable def Tryz.pinned : Pinned := { name := "ytagmlijhgncklaagreatdoor", sum := "56c5ffd0f1bc6922c59cbdd729900f07437cef5def5b4310c31e1de90c9dd384", checked := Tryz.checked }
namespace Rows
def none {H : Type} : Left H := { results := [], args := [] }

/- WHAT THE LISTED PACKAGE-LEVEL VARIABLES READ AS WHEN THE CALL BEGINS. Each datum BY PROGRAM (the guide's laid-datum.mjs) off the statement by which the dump's own 'gosem.cut.vars' lays the variable. In a bare row this is a premise. The card (YtagmlijhgncklaaGreatDoorCards.lean) ties it to the program's text. -/
def laid_math_bits_deBruijn32tab {H : Type} : DataW H := .agg [.lit (.int .u8 0), .lit (.int .u8 1), .lit (.int .u8 28), .lit (.int .u8 2), .lit (.int .u8 29), .lit (.int .u8 14), .lit (.int .u8 24), .lit (.int .u8 3), .lit (.int .u8 30), .lit (.int .u8 22), .lit (.int .u8 20), .lit (.int .u8 15), .lit (.int .u8 25), .lit (.int .u8 17), .lit (.int .u8 4), .lit (.int .u8 8), .lit (.int .u8 31), .lit (.int .u8 27), .lit (.int .u8 13), .lit (.int .u8 23), .lit (.int .u8 21), .lit (.int .u8 19), .lit (.int .u8 16), .lit (.int .u8 7), .lit (.int .u8 26), .lit (.int .u8 12), .lit (.int .u8 18), .lit (.int .u8 6), .lit (.int .u8 11), .lit (.int .u8 5), .lit (.int .u8 10), .lit (.int .u8 9)]
/-- One of Go's own tables, pinned by name: the form's constant. -/
def laid_unicode_utf8_first : DataW Unit := Go.Pinned.utf8First
def laid_unicode_utf8_acceptRanges {H : Type} : DataW H := .agg [.agg [.lit (.int .u8 128), .lit (.int .u8 191)], .agg [.lit (.int .u8 160), .lit (.int .u8 191)], .agg [.lit (.int .u8 128), .lit (.int .u8 159)], .agg [.lit (.int .u8 144), .lit (.int .u8 191)], .agg [.lit (.int .u8 128), .lit (.int .u8 143)], .agg [.lit (.int .u8 0), .lit (.int .u8 0)], .agg [.lit (.int .u8 0), .lit (.int .u8 0)], .agg [.lit (.int .u8 0), .lit (.int .u8 0)], .agg [.lit (.int .u8 0), .lit (.int .u8 0)], .agg [.lit (.int .u8 0), .lit (.int .u8 0)], .agg [.lit (.int .u8 0), .lit (.int .u8 0)], .agg [.lit (.int .u8 0), .lit (.int .u8 0)], .agg [.lit (.int .u8 0), .lit (.int .u8 0)], .agg [.lit (.int .u8 0), .lit (.int .u8 0)], .agg [.lit (.int .u8 0), .lit (.int .u8 0)], .agg [.lit (.int .u8 0), .lit (.int .u8 0)]]

/-- 'metronometop.TopWoken': WHATEVER THE INPUT: true; the input reads as it did. -/
def topWokenSpec : ChangeSpec := { name := "topWoken", fn := fun _ => fun
  | [d] => { results := [.lit (.bool true)], args := [d] }
  | _ => none }
def topWokenRow : OpenClaim := { program := "ytagmlijhgncklaagreatdoor", sum := "56c5ffd0f1bc6922c59cbdd729900f07437cef5def5b4310c31e1de90c9dd384", func := "metronome/metronometop.TopWoken", spec := "topWoken", inPlace := ["slices.overlaps[metronome/api.Message]", "internal/bytealg.IndexByteString", "internal/bytealg.IndexString"], unfollowed := true, recurses := true, named := ["math/bits.deBruijn32tab", "unicode/utf8.first", "unicode/utf8.acceptRanges", "internal/bytealg.MaxLen"], plainKeys := false, apart := false, laid := [("math/bits.deBruijn32tab", laid_math_bits_deBruijn32tab), ("unicode/utf8.first", laid_unicode_utf8_first), ("unicode/utf8.acceptRanges", laid_unicode_utf8_acceptRanges)] }
def TopWokenSaid : Prop := topWokenRow.holds Tryz.pinned (OpenSpec.ofChange topWokenSpec)

/-- ITS FALSE NEIGHBOUR: 'it returns false'. Refute it at one input. -/
def topWokenWrong : ChangeSpec := { name := "topWoken", fn := fun _ => fun
  | [d] => { results := [.lit (.bool false)], args := [d] }
  | _ => none }
def TopWokenWrongFalsely : Prop := topWokenRow.holds Tryz.pinned (OpenSpec.ofChange topWokenWrong)

/-- 'metronometop.TopRobins': WHATEVER THE INPUT: true; the input reads as it did. -/
def topRobinsSpec : ChangeSpec := { name := "topRobins", fn := fun _ => fun
  | [d1, d2, d3] => { results := [.lit (.bool true)], args := [d1, d2, d3] }
  | _ => none }
def topRobinsRow : OpenClaim := { program := "ytagmlijhgncklaagreatdoor", sum := "56c5ffd0f1bc6922c59cbdd729900f07437cef5def5b4310c31e1de90c9dd384", func := "metronome/metronometop.TopRobins", spec := "topRobins", inPlace := ["slices.overlaps[metronome/api.Message]", "internal/bytealg.IndexByteString", "internal/bytealg.IndexString"], unfollowed := true, recurses := true, named := ["math/bits.deBruijn32tab", "unicode/utf8.first", "unicode/utf8.acceptRanges", "internal/bytealg.MaxLen"], plainKeys := false, apart := false, laid := [("math/bits.deBruijn32tab", laid_math_bits_deBruijn32tab), ("unicode/utf8.first", laid_unicode_utf8_first), ("unicode/utf8.acceptRanges", laid_unicode_utf8_acceptRanges)] }
def TopRobinsSaid : Prop := topRobinsRow.holds Tryz.pinned (OpenSpec.ofChange topRobinsSpec)

/-- ITS FALSE NEIGHBOUR: 'it returns false'. Refute it at one input. -/
def topRobinsWrong : ChangeSpec := { name := "topRobins", fn := fun _ => fun
  | [d1, d2, d3] => { results := [.lit (.bool false)], args := [d1, d2, d3] }
  | _ => none }
def TopRobinsWrongFalsely : Prop := topRobinsRow.holds Tryz.pinned (OpenSpec.ofChange topRobinsWrong)

/-- 'metronometop.TopDead': WHATEVER THE INPUT: true; the input reads as it did. -/
def topDeadSpec : ChangeSpec := { name := "topDead", fn := fun _ => fun
  | [d] => { results := [.lit (.bool true)], args := [d] }
  | _ => none }
def topDeadRow : OpenClaim := { program := "ytagmlijhgncklaagreatdoor", sum := "56c5ffd0f1bc6922c59cbdd729900f07437cef5def5b4310c31e1de90c9dd384", func := "metronome/metronometop.TopDead", spec := "topDead", inPlace := ["slices.overlaps[metronome/api.Message]", "internal/bytealg.IndexByteString", "internal/bytealg.IndexString"], unfollowed := true, recurses := true, named := ["math/bits.deBruijn32tab", "unicode/utf8.first", "unicode/utf8.acceptRanges", "internal/bytealg.MaxLen"], plainKeys := false, apart := false, laid := [("math/bits.deBruijn32tab", laid_math_bits_deBruijn32tab), ("unicode/utf8.first", laid_unicode_utf8_first), ("unicode/utf8.acceptRanges", laid_unicode_utf8_acceptRanges)] }
def TopDeadSaid : Prop := topDeadRow.holds Tryz.pinned (OpenSpec.ofChange topDeadSpec)

/-- ITS FALSE NEIGHBOUR: 'it returns false'. Refute it at one input. -/
def topDeadWrong : ChangeSpec := { name := "topDead", fn := fun _ => fun
  | [d] => { results := [.lit (.bool false)], args := [d] }
  | _ => none }
def TopDeadWrongFalsely : Prop := topDeadRow.holds Tryz.pinned (OpenSpec.ofChange topDeadWrong)

/-- 'metronometop.TopSporadic': WHATEVER THE INPUT: true; the input reads as it did. -/
def topSporadicSpec : ChangeSpec := { name := "topSporadic", fn := fun _ => fun
  | [d1, d2, d3] => { results := [.lit (.bool true)], args := [d1, d2, d3] }
  | _ => none }
def topSporadicRow : OpenClaim := { program := "ytagmlijhgncklaagreatdoor", sum := "56c5ffd0f1bc6922c59cbdd729900f07437cef5def5b4310c31e1de90c9dd384", func := "metronome/metronometop.TopSporadic", spec := "topSporadic", inPlace := ["slices.overlaps[metronome/api.Message]", "internal/bytealg.IndexByteString", "internal/bytealg.IndexString"], unfollowed := true, recurses := true, named := ["math/bits.deBruijn32tab", "unicode/utf8.first", "unicode/utf8.acceptRanges", "internal/bytealg.MaxLen"], plainKeys := false, apart := false, laid := [("math/bits.deBruijn32tab", laid_math_bits_deBruijn32tab), ("unicode/utf8.first", laid_unicode_utf8_first), ("unicode/utf8.acceptRanges", laid_unicode_utf8_acceptRanges)] }
def TopSporadicSaid : Prop := topSporadicRow.holds Tryz.pinned (OpenSpec.ofChange topSporadicSpec)

/-- ITS FALSE NEIGHBOUR: 'it returns false'. Refute it at one input. -/
def topSporadicWrong : ChangeSpec := { name := "topSporadic", fn := fun _ => fun
  | [d1, d2, d3] => { results := [.lit (.bool false)], args := [d1, d2, d3] }
  | _ => none }
def TopSporadicWrongFalsely : Prop := topSporadicRow.holds Tryz.pinned (OpenSpec.ofChange topSporadicWrong)

/- THE SECOND FORM. 'bulk': how many values and letters a reading holds, each counted each time it is reached (what is shared counts as often as it is met; a slice's spare places count too). A statement '..UptoSaid' is the law's where the arguments, and the package variables that the reading takes, are together of bulk at most 1048576: NARROWER than '..Said'. Prove '..Said' where nothing that the law and all that it calls make is longer than what came in: it says more and counts as full. Else prove '..UptoSaid'. A law counts once. -/
mutual
def uptoBulk {H : Type} : DataW H → Nat
  | .lit (.string bytes) => bytes.length + 1
  | .lit _ => 1
  | .nil => 1
  | .ptr d => uptoBulk d + 1
  | .slice elems spare => uptoBulkAll elems + uptoBulkAll spare + 1
  | .agg parts => uptoBulkAll parts + 1
  | .iface _ d => uptoBulk d + 1
  | .map entries => uptoBulkEntries entries + 1
  | .held _ => 1
def uptoBulkAll {H : Type} : List (DataW H) → Nat
  | [] => 0
  | d :: r => uptoBulk d + uptoBulkAll r
def uptoBulkEntries {H : Type} : List (Lit × DataW H) → Nat
  | [] => 0
  | x :: r => uptoBulkEntry x + uptoBulkEntries r
def uptoBulkEntry {H : Type} : Lit × DataW H → Nat
  | (.string bytes, d) => bytes.length + uptoBulk d + 1
  | (_, d) => uptoBulk d + 1
 end
def uptoSmall : (H : Type) → List (DataW H) → Bool := fun _ ds => decide (uptoBulkAll ds ≤ 1048576)
def OpenSpec.upto (s : _root_.Go.ChangeSpec) : _root_.Go.OpenSpec := { _root_.Go.OpenSpec.ofChange s with cond := some uptoSmall }

/-- 'metronometop.TopWoken', WHERE WHAT IT READS IS OF BULK AT MOST 1048576: true; the input reads as it did. -/
def topWokenUptoRow : OpenClaim := { program := "ytagmlijhgncklaagreatdoor", sum := "56c5ffd0f1bc6922c59cbdd729900f07437cef5def5b4310c31e1de90c9dd384", func := "metronome/metronometop.TopWoken", spec := "topWoken", inPlace := ["slices.overlaps[metronome/api.Message]", "internal/bytealg.IndexByteString", "internal/bytealg.IndexString"], unfollowed := true, recurses := true, named := ["math/bits.deBruijn32tab", "unicode/utf8.first", "unicode/utf8.acceptRanges", "internal/bytealg.MaxLen"], plainKeys := false, apart := false, laid := [("math/bits.deBruijn32tab", laid_math_bits_deBruijn32tab), ("unicode/utf8.first", laid_unicode_utf8_first), ("unicode/utf8.acceptRanges", laid_unicode_utf8_acceptRanges)], narrowed := true }
def TopWokenUptoSaid : Prop := topWokenUptoRow.holds Tryz.pinned (OpenSpec.upto topWokenSpec)

/-- 'metronometop.TopRobins', WHERE WHAT IT READS IS OF BULK AT MOST 1048576: true; the input reads as it did. -/
def topRobinsUptoRow : OpenClaim := { program := "ytagmlijhgncklaagreatdoor", sum := "56c5ffd0f1bc6922c59cbdd729900f07437cef5def5b4310c31e1de90c9dd384", func := "metronome/metronometop.TopRobins", spec := "topRobins", inPlace := ["slices.overlaps[metronome/api.Message]", "internal/bytealg.IndexByteString", "internal/bytealg.IndexString"], unfollowed := true, recurses := true, named := ["math/bits.deBruijn32tab", "unicode/utf8.first", "unicode/utf8.acceptRanges", "internal/bytealg.MaxLen"], plainKeys := false, apart := false, laid := [("math/bits.deBruijn32tab", laid_math_bits_deBruijn32tab), ("unicode/utf8.first", laid_unicode_utf8_first), ("unicode/utf8.acceptRanges", laid_unicode_utf8_acceptRanges)], narrowed := true }
def TopRobinsUptoSaid : Prop := topRobinsUptoRow.holds Tryz.pinned (OpenSpec.upto topRobinsSpec)

/-- 'metronometop.TopDead', WHERE WHAT IT READS IS OF BULK AT MOST 1048576: true; the input reads as it did. -/
def topDeadUptoRow : OpenClaim := { program := "ytagmlijhgncklaagreatdoor", sum := "56c5ffd0f1bc6922c59cbdd729900f07437cef5def5b4310c31e1de90c9dd384", func := "metronome/metronometop.TopDead", spec := "topDead", inPlace := ["slices.overlaps[metronome/api.Message]", "internal/bytealg.IndexByteString", "internal/bytealg.IndexString"], unfollowed := true, recurses := true, named := ["math/bits.deBruijn32tab", "unicode/utf8.first", "unicode/utf8.acceptRanges", "internal/bytealg.MaxLen"], plainKeys := false, apart := false, laid := [("math/bits.deBruijn32tab", laid_math_bits_deBruijn32tab), ("unicode/utf8.first", laid_unicode_utf8_first), ("unicode/utf8.acceptRanges", laid_unicode_utf8_acceptRanges)], narrowed := true }
def TopDeadUptoSaid : Prop := topDeadUptoRow.holds Tryz.pinned (OpenSpec.upto topDeadSpec)

/-- 'metronometop.TopSporadic', WHERE WHAT IT READS IS OF BULK AT MOST 1048576: true; the input reads as it did. -/
def topSporadicUptoRow : OpenClaim := { program := "ytagmlijhgncklaagreatdoor", sum := "56c5ffd0f1bc6922c59cbdd729900f07437cef5def5b4310c31e1de90c9dd384", func := "metronome/metronometop.TopSporadic", spec := "topSporadic", inPlace := ["slices.overlaps[metronome/api.Message]", "internal/bytealg.IndexByteString", "internal/bytealg.IndexString"], unfollowed := true, recurses := true, named := ["math/bits.deBruijn32tab", "unicode/utf8.first", "unicode/utf8.acceptRanges", "internal/bytealg.MaxLen"], plainKeys := false, apart := false, laid := [("math/bits.deBruijn32tab", laid_math_bits_deBruijn32tab), ("unicode/utf8.first", laid_unicode_utf8_first), ("unicode/utf8.acceptRanges", laid_unicode_utf8_acceptRanges)], narrowed := true }
def TopSporadicUptoSaid : Prop := topSporadicUptoRow.holds Tryz.pinned (OpenSpec.upto topSporadicSpec)

end Rows
end Go.Proofs.YtagmlijhgncklaaGreatDoor
