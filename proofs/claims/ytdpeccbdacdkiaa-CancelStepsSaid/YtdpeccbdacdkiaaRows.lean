/-
  No cell of these rows narrows 'for every input' (looked for: loops, veiled, ifaces, maps, wideKeys, modest, calm, conditions, laid).
  DERIVED. THE GIVEN ROWS OF THIS SEAT. 4 by the template 'for every input the law returns true; each argument reads behind the call as it read before'; 0 by the template 'total and deterministic' (their statements: YtdpeccbdacdkiaaTotals.lean).
  GIVEN WITH THE SEED: the statements are not yours to turn. If you find one false, say at which input.
  Laid BY PROGRAM, IN A SANDBOX (cutbox-rows.mjs): the forced cells as the released guide's own fill.sh prints them over the translation c9d018f2c702bf8e… (all of the seat's roots in one cut). By AI agents, Wed Nov 11 2026. No macro, syntax, notation, axiom, sorry.
-/
import Derived.Test.YtdpeccbdacdkiaaChecked
import GoSem.Claim
import GoSem.ClaimJoined
import GoSem.ClaimMapViews
import Derived.JoinedTies
import Derived.KernelRfl
namespace Go.Proofs.Ytdpeccbdacdkiaa
/- THE CELL 'sum', in the pinned program and in every row, IS THE sha256 OF THE DUMP (.gsa) THAT YtdpeccbdacdkiaaProg.lean LOADS. Nothing in Lean hashes anything: it is a label: what it is worth is what the hold of that sum in a sandbox is worth. -/
noncomputable def Try.pinned : Pinned := { name := "ytdpeccbdacdkiaa", sum := "c9d018f2c702bf8e9a8ea25336eaf3ce8edd3b6c0863914cb58186de883e0f21", checked := Try.checked }
namespace Rows
def none {H : Type} : Left H := { results := [], args := [] }

/-- 'metronomelaw20.CancelSame': WHATEVER THE INPUT: true; the input reads as it did. -/
def cancelSameSpec : ChangeSpec := { name := "cancelSame", fn := fun _ => fun
  | [d1, d2] => { results := [.lit (.bool true)], args := [d1, d2] }
  | _ => none }
def cancelSameRow : OpenClaim := { program := "ytdpeccbdacdkiaa", sum := "c9d018f2c702bf8e9a8ea25336eaf3ce8edd3b6c0863914cb58186de883e0f21", func := "metronome/metronomelaw20.CancelSame", spec := "cancelSame", unfollowed := true, recurses := true, apart := false }
def CancelSameSaid : Prop := cancelSameRow.holds Try.pinned (OpenSpec.ofChange cancelSameSpec)

/-- ITS FALSE NEIGHBOUR: 'it returns false'. Refute it at one input. -/
def cancelSameWrong : ChangeSpec := { name := "cancelSame", fn := fun _ => fun
  | [d1, d2] => { results := [.lit (.bool false)], args := [d1, d2] }
  | _ => none }
def CancelSameWrongFalsely : Prop := cancelSameRow.holds Try.pinned (OpenSpec.ofChange cancelSameWrong)

/-- 'metronomelaw20.CancelActs': WHATEVER THE INPUT: true; the input reads as it did. -/
def cancelActsSpec : ChangeSpec := { name := "cancelActs", fn := fun _ => fun
  | [d] => { results := [.lit (.bool true)], args := [d] }
  | _ => none }
def cancelActsRow : OpenClaim := { program := "ytdpeccbdacdkiaa", sum := "c9d018f2c702bf8e9a8ea25336eaf3ce8edd3b6c0863914cb58186de883e0f21", func := "metronome/metronomelaw20.CancelActs", spec := "cancelActs", unfollowed := true, recurses := true, apart := false }
def CancelActsSaid : Prop := cancelActsRow.holds Try.pinned (OpenSpec.ofChange cancelActsSpec)

/-- ITS FALSE NEIGHBOUR: 'it returns false'. Refute it at one input. -/
def cancelActsWrong : ChangeSpec := { name := "cancelActs", fn := fun _ => fun
  | [d] => { results := [.lit (.bool false)], args := [d] }
  | _ => none }
def CancelActsWrongFalsely : Prop := cancelActsRow.holds Try.pinned (OpenSpec.ofChange cancelActsWrong)

/-- 'metronomelaw20.CancelSteps': WHATEVER THE INPUT: true; the input reads as it did. -/
def cancelStepsSpec : ChangeSpec := { name := "cancelSteps", fn := fun _ => fun
  | [d1, d2] => { results := [.lit (.bool true)], args := [d1, d2] }
  | _ => none }
def cancelStepsRow : OpenClaim := { program := "ytdpeccbdacdkiaa", sum := "c9d018f2c702bf8e9a8ea25336eaf3ce8edd3b6c0863914cb58186de883e0f21", func := "metronome/metronomelaw20.CancelSteps", spec := "cancelSteps", unfollowed := true, recurses := true, apart := false }
def CancelStepsSaid : Prop := cancelStepsRow.holds Try.pinned (OpenSpec.ofChange cancelStepsSpec)

/-- ITS FALSE NEIGHBOUR: 'it returns false'. Refute it at one input. -/
def cancelStepsWrong : ChangeSpec := { name := "cancelSteps", fn := fun _ => fun
  | [d1, d2] => { results := [.lit (.bool false)], args := [d1, d2] }
  | _ => none }
def CancelStepsWrongFalsely : Prop := cancelStepsRow.holds Try.pinned (OpenSpec.ofChange cancelStepsWrong)

/-- 'metronomelaw20.CancelNil': WHATEVER THE INPUT: true; the input reads as it did. -/
def cancelNilSpec : ChangeSpec := { name := "cancelNil", fn := fun _ => fun
  | [] => { results := [.lit (.bool true)], args := [] }
  | _ => none }
def cancelNilRow : OpenClaim := { program := "ytdpeccbdacdkiaa", sum := "c9d018f2c702bf8e9a8ea25336eaf3ce8edd3b6c0863914cb58186de883e0f21", func := "metronome/metronomelaw20.CancelNil", spec := "cancelNil", unfollowed := true, recurses := true, apart := false }
def CancelNilSaid : Prop := cancelNilRow.holds Try.pinned (OpenSpec.ofChange cancelNilSpec)

/-- ITS FALSE NEIGHBOUR: 'it returns false'. Refute it at one input. -/
def cancelNilWrong : ChangeSpec := { name := "cancelNil", fn := fun _ => fun
  | [] => { results := [.lit (.bool false)], args := [] }
  | _ => none }
def CancelNilWrongFalsely : Prop := cancelNilRow.holds Try.pinned (OpenSpec.ofChange cancelNilWrong)

/- THE SECOND FORM. 'bulk': how many values and letters a reading holds, each counted each time it is reached (what is shared counts as often as it is met; a slice's spare places count too). A statement '..UptoSaid' is the law's where the arguments, and the package variables that the reading takes, are together of bulk at most 1048576: NARROWER than '..Said'. Prove '..Said' where nothing that the law and all that it calls make is longer than what came in: it says more and counts as full. Else prove '..UptoSaid'. A law counts once. -/
mutual
def uptoBulk {H : Type} : DataW H → Nat
  | .lit (.string bytes) => bytes.length + 1
  | .lit _ => 1
  | .nil => 1
  | .ptr d => uptoBulk d + 1
  | .slice elems spare => uptoBulkAll elems + uptoBulkAll spare + 1
  | .agg parts => uptoBulkAll parts + 1
  | .iface _ d => uptoBulk d + 1
  | .map entries => uptoBulkEntries entries + 1
  | .held _ => 1
def uptoBulkAll {H : Type} : List (DataW H) → Nat
  | [] => 0
  | d :: r => uptoBulk d + uptoBulkAll r
def uptoBulkEntries {H : Type} : List (Lit × DataW H) → Nat
  | [] => 0
  | x :: r => uptoBulkEntry x + uptoBulkEntries r
def uptoBulkEntry {H : Type} : Lit × DataW H → Nat
  | (.string bytes, d) => bytes.length + uptoBulk d + 1
  | (_, d) => uptoBulk d + 1
 end
def uptoSmall : (H : Type) → List (DataW H) → Bool := fun _ ds => decide (uptoBulkAll ds ≤ 1048576)
def OpenSpec.upto (s : _root_.Go.ChangeSpec) : _root_.Go.OpenSpec := { _root_.Go.OpenSpec.ofChange s with cond := some uptoSmall }

/-- 'metronomelaw20.CancelSame', WHERE WHAT IT READS IS OF BULK AT MOST 1048576: true; the input reads as it did. -/
def cancelSameUptoRow : OpenClaim := { program := "ytdpeccbdacdkiaa", sum := "c9d018f2c702bf8e9a8ea25336eaf3ce8edd3b6c0863914cb58186de883e0f21", func := "metronome/metronomelaw20.CancelSame", spec := "cancelSame", unfollowed := true, recurses := true, apart := false, narrowed := true }
def CancelSameUptoSaid : Prop := cancelSameUptoRow.holds Try.pinned (OpenSpec.upto cancelSameSpec)

/-- 'metronomelaw20.CancelActs', WHERE WHAT IT READS IS OF BULK AT MOST 1048576: true; the input reads as it did. -/
def cancelActsUptoRow : OpenClaim := { program := "ytdpeccbdacdkiaa", sum := "c9d018f2c702bf8e9a8ea25336eaf3ce8edd3b6c0863914cb58186de883e0f21", func := "metronome/metronomelaw20.CancelActs", spec := "cancelActs", unfollowed := true, recurses := true, apart := false, narrowed := true }
def CancelActsUptoSaid : Prop := cancelActsUptoRow.holds Try.pinned (OpenSpec.upto cancelActsSpec)

/-- 'metronomelaw20.CancelSteps', WHERE WHAT IT READS IS OF BULK AT MOST 1048576: true; the input reads as it did. -/
def cancelStepsUptoRow : OpenClaim := { program := "ytdpeccbdacdkiaa", sum := "c9d018f2c702bf8e9a8ea25336eaf3ce8edd3b6c0863914cb58186de883e0f21", func := "metronome/metronomelaw20.CancelSteps", spec := "cancelSteps", unfollowed := true, recurses := true, apart := false, narrowed := true }
def CancelStepsUptoSaid : Prop := cancelStepsUptoRow.holds Try.pinned (OpenSpec.upto cancelStepsSpec)

/-- 'metronomelaw20.CancelNil', WHERE WHAT IT READS IS OF BULK AT MOST 1048576: true; the input reads as it did. -/
def cancelNilUptoRow : OpenClaim := { program := "ytdpeccbdacdkiaa", sum := "c9d018f2c702bf8e9a8ea25336eaf3ce8edd3b6c0863914cb58186de883e0f21", func := "metronome/metronomelaw20.CancelNil", spec := "cancelNil", unfollowed := true, recurses := true, apart := false, narrowed := true }
def CancelNilUptoSaid : Prop := cancelNilUptoRow.holds Try.pinned (OpenSpec.upto cancelNilSpec)

end Rows
end Go.Proofs.Ytdpeccbdacdkiaa
