/-
  No cell of these rows narrows 'for every input' (looked for: loops, veiled, ifaces, maps, wideKeys, modest, calm, conditions, laid).
  DERIVED. THE GIVEN ROWS OF THIS SEAT. 4 by the template 'for every input the law returns true; each argument reads behind the call as it read before'; 0 by the template 'total and deterministic' (their statements: YtcchebjeohdkfaaTotals.lean).
  GIVEN WITH THE SEED: the statements are not yours to turn. If you find one false, say at which input.
  Laid BY PROGRAM, IN A SANDBOX (cutbox-rows.mjs): the forced cells as the released guide's own fill.sh prints them over the translation 7d90cafb40991322… (all of the seat's roots in one cut). By AI agents, Wed Nov 11 2026. No macro, syntax, notation, axiom, sorry.
-/
import Derived.Test.YtcchebjeohdkfaaChecked
import GoSem.Claim
import GoSem.ClaimJoined
import GoSem.ClaimMapViews
import Derived.JoinedTies
import Derived.KernelRfl
namespace Go.Proofs.Ytcchebjeohdkfaa
/- THE CELL 'sum', in the pinned program and in every row, IS THE sha256 OF THE DUMP (.gsa) THAT YtcchebjeohdkfaaProg.lean LOADS. Nothing in Lean hashes anything: it is a label: what it is worth is what the hold of that sum in a sandbox is worth. -/
noncomputable def Try.pinned : Pinned := { name := "ytcchebjeohdkfaa", sum := "7d90cafb40991322daef3cbe3171d80ce6d787ec7dec4fd1fbb97738629252e1", checked := Try.checked }
namespace Rows
def none {H : Type} : Left H := { results := [], args := [] }

/-- 'metronomelaw21.KeysEnd': WHATEVER THE INPUT: true; the input reads as it did. -/
def keysEndSpec : ChangeSpec := { name := "keysEnd", fn := fun _ => fun
  | [d1, d2, d3] => { results := [.lit (.bool true)], args := [d1, d2, d3] }
  | _ => none }
def keysEndRow : OpenClaim := { program := "ytcchebjeohdkfaa", sum := "7d90cafb40991322daef3cbe3171d80ce6d787ec7dec4fd1fbb97738629252e1", func := "metronome/metronomelaw21.KeysEnd", spec := "keysEnd", unfollowed := true, recurses := true, apart := false }
def KeysEndSaid : Prop := keysEndRow.holds Try.pinned (OpenSpec.ofChange keysEndSpec)

/-- ITS FALSE NEIGHBOUR: 'it returns false'. Refute it at one input. -/
def keysEndWrong : ChangeSpec := { name := "keysEnd", fn := fun _ => fun
  | [d1, d2, d3] => { results := [.lit (.bool false)], args := [d1, d2, d3] }
  | _ => none }
def KeysEndWrongFalsely : Prop := keysEndRow.holds Try.pinned (OpenSpec.ofChange keysEndWrong)

/-- 'metronomelaw21.KeysOnce': WHATEVER THE INPUT: true; the input reads as it did. -/
def keysOnceSpec : ChangeSpec := { name := "keysOnce", fn := fun _ => fun
  | [d] => { results := [.lit (.bool true)], args := [d] }
  | _ => none }
def keysOnceRow : OpenClaim := { program := "ytcchebjeohdkfaa", sum := "7d90cafb40991322daef3cbe3171d80ce6d787ec7dec4fd1fbb97738629252e1", func := "metronome/metronomelaw21.KeysOnce", spec := "keysOnce", unfollowed := true, recurses := true, apart := false }
def KeysOnceSaid : Prop := keysOnceRow.holds Try.pinned (OpenSpec.ofChange keysOnceSpec)

/-- ITS FALSE NEIGHBOUR: 'it returns false'. Refute it at one input. -/
def keysOnceWrong : ChangeSpec := { name := "keysOnce", fn := fun _ => fun
  | [d] => { results := [.lit (.bool false)], args := [d] }
  | _ => none }
def KeysOnceWrongFalsely : Prop := keysOnceRow.holds Try.pinned (OpenSpec.ofChange keysOnceWrong)

/-- 'metronomelaw21.KeysSteps': WHATEVER THE INPUT: true; the input reads as it did. -/
def keysStepsSpec : ChangeSpec := { name := "keysSteps", fn := fun _ => fun
  | [d1, d2] => { results := [.lit (.bool true)], args := [d1, d2] }
  | _ => none }
def keysStepsRow : OpenClaim := { program := "ytcchebjeohdkfaa", sum := "7d90cafb40991322daef3cbe3171d80ce6d787ec7dec4fd1fbb97738629252e1", func := "metronome/metronomelaw21.KeysSteps", spec := "keysSteps", unfollowed := true, recurses := true, apart := false }
def KeysStepsSaid : Prop := keysStepsRow.holds Try.pinned (OpenSpec.ofChange keysStepsSpec)

/-- ITS FALSE NEIGHBOUR: 'it returns false'. Refute it at one input. -/
def keysStepsWrong : ChangeSpec := { name := "keysSteps", fn := fun _ => fun
  | [d1, d2] => { results := [.lit (.bool false)], args := [d1, d2] }
  | _ => none }
def KeysStepsWrongFalsely : Prop := keysStepsRow.holds Try.pinned (OpenSpec.ofChange keysStepsWrong)

/-- 'metronomelaw21.KeysNil': WHATEVER THE INPUT: true; the input reads as it did. -/
def keysNilSpec : ChangeSpec := { name := "keysNil", fn := fun _ => fun
  | [] => { results := [.lit (.bool true)], args := [] }
  | _ => none }
def keysNilRow : OpenClaim := { program := "ytcchebjeohdkfaa", sum := "7d90cafb40991322daef3cbe3171d80ce6d787ec7dec4fd1fbb97738629252e1", func := "metronome/metronomelaw21.KeysNil", spec := "keysNil", unfollowed := true, recurses := true, apart := false }
def KeysNilSaid : Prop := keysNilRow.holds Try.pinned (OpenSpec.ofChange keysNilSpec)

/-- ITS FALSE NEIGHBOUR: 'it returns false'. Refute it at one input. -/
def keysNilWrong : ChangeSpec := { name := "keysNil", fn := fun _ => fun
  | [] => { results := [.lit (.bool false)], args := [] }
  | _ => none }
def KeysNilWrongFalsely : Prop := keysNilRow.holds Try.pinned (OpenSpec.ofChange keysNilWrong)

/- THE SECOND FORM. 'bulk': how many values and letters a reading holds, each counted each time it is reached (what is shared counts as often as it is met; a slice's spare places count too). A statement '..UptoSaid' is the law's where the arguments, and the package variables that the reading takes, are together of bulk at most 1048576: NARROWER than '..Said'. Prove '..Said' where nothing that the law and all that it calls make is longer than what came in: it says more and counts as full. Else prove '..UptoSaid'. A law counts once. -/
mutual
def uptoBulk {H : Type} : DataW H → Nat
  | .lit (.string bytes) => bytes.length + 1
  | .lit _ => 1
  | .nil => 1
  | .ptr d => uptoBulk d + 1
  | .slice elems spare => uptoBulkAll elems + uptoBulkAll spare + 1
  | .agg parts => uptoBulkAll parts + 1
  | .iface _ d => uptoBulk d + 1
  | .map entries => uptoBulkEntries entries + 1
  | .held _ => 1
def uptoBulkAll {H : Type} : List (DataW H) → Nat
  | [] => 0
  | d :: r => uptoBulk d + uptoBulkAll r
def uptoBulkEntries {H : Type} : List (Lit × DataW H) → Nat
  | [] => 0
  | x :: r => uptoBulkEntry x + uptoBulkEntries r
def uptoBulkEntry {H : Type} : Lit × DataW H → Nat
  | (.string bytes, d) => bytes.length + uptoBulk d + 1
  | (_, d) => uptoBulk d + 1
 end
def uptoSmall : (H : Type) → List (DataW H) → Bool := fun _ ds => decide (uptoBulkAll ds ≤ 1048576)
def OpenSpec.upto (s : _root_.Go.ChangeSpec) : _root_.Go.OpenSpec := { _root_.Go.OpenSpec.ofChange s with cond := some uptoSmall }

/-- 'metronomelaw21.KeysEnd', WHERE WHAT IT READS IS OF BULK AT MOST 1048576: true; the input reads as it did. -/
def keysEndUptoRow : OpenClaim := { program := "ytcchebjeohdkfaa", sum := "7d90cafb40991322daef3cbe3171d80ce6d787ec7dec4fd1fbb97738629252e1", func := "metronome/metronomelaw21.KeysEnd", spec := "keysEnd", unfollowed := true, recurses := true, apart := false, narrowed := true }
def KeysEndUptoSaid : Prop := keysEndUptoRow.holds Try.pinned (OpenSpec.upto keysEndSpec)

/-- 'metronomelaw21.KeysOnce', WHERE WHAT IT READS IS OF BULK AT MOST 1048576: true; the input reads as it did. -/
def keysOnceUptoRow : OpenClaim := { program := "ytcchebjeohdkfaa", sum := "7d90cafb40991322daef3cbe3171d80ce6d787ec7dec4fd1fbb97738629252e1", func := "metronome/metronomelaw21.KeysOnce", spec := "keysOnce", unfollowed := true, recurses := true, apart := false, narrowed := true }
def KeysOnceUptoSaid : Prop := keysOnceUptoRow.holds Try.pinned (OpenSpec.upto keysOnceSpec)

/-- 'metronomelaw21.KeysSteps', WHERE WHAT IT READS IS OF BULK AT MOST 1048576: true; the input reads as it did. -/
def keysStepsUptoRow : OpenClaim := { program := "ytcchebjeohdkfaa", sum := "7d90cafb40991322daef3cbe3171d80ce6d787ec7dec4fd1fbb97738629252e1", func := "metronome/metronomelaw21.KeysSteps", spec := "keysSteps", unfollowed := true, recurses := true, apart := false, narrowed := true }
def KeysStepsUptoSaid : Prop := keysStepsUptoRow.holds Try.pinned (OpenSpec.upto keysStepsSpec)

/-- 'metronomelaw21.KeysNil', WHERE WHAT IT READS IS OF BULK AT MOST 1048576: true; the input reads as it did. -/
def keysNilUptoRow : OpenClaim := { program := "ytcchebjeohdkfaa", sum := "7d90cafb40991322daef3cbe3171d80ce6d787ec7dec4fd1fbb97738629252e1", func := "metronome/metronomelaw21.KeysNil", spec := "keysNil", unfollowed := true, recurses := true, apart := false, narrowed := true }
def KeysNilUptoSaid : Prop := keysNilUptoRow.holds Try.pinned (OpenSpec.upto keysNilSpec)

end Rows
end Go.Proofs.Ytcchebjeohdkfaa
