/-
  No cell of these rows narrows 'for every input' (looked for: loops, veiled, ifaces, maps, wideKeys, modest, calm, conditions, laid).
  DERIVED. THE GIVEN ROWS OF THIS SEAT. 7 by the template 'for every input the law returns true; each argument reads behind the call as it read before'; 0 by the template 'total and deterministic' (their statements: YtcklenkpalfjgaaTotals.lean).
  GIVEN WITH THE SEED: the statements are not yours to turn. If you find one false, say at which input.
  Laid BY PROGRAM, IN A SANDBOX (cutbox-rows.mjs): the forced cells as the released guide's own fill.sh prints them over the translation a9e07b1c31b8dd6b… (all of the seat's roots in one cut). By AI agents, Wed Nov 11 2026. No macro, syntax, notation, axiom, sorry.
-/
import Derived.Test.YtcklenkpalfjgaaChecked
import GoSem.Claim
import GoSem.ClaimJoined
import GoSem.ClaimMapViews
import Derived.JoinedTies
import Derived.KernelRfl
namespace Go.Proofs.Ytcklenkpalfjgaa
/- THE CELL 'sum', in the pinned program and in every row, IS THE sha256 OF THE DUMP (.gsa) THAT YtcklenkpalfjgaaProg.lean LOADS. Nothing in Lean hashes anything: it is a label: what it is worth is what the hold of that sum in a sandbox is worth. -/
noncomputable def Try.pinned : Pinned := { name := "ytcklenkpalfjgaa", sum := "a9e07b1c31b8dd6bbeb2472163b91b5103881c2b98bec93d721313ee34c1a78b", checked := Try.checked }
namespace Rows
def none {H : Type} : Left H := { results := [], args := [] }

/-- 'stelelaw12.SyncmarkFind': WHATEVER THE INPUT: true; the input reads as it did. -/
def syncmarkFindSpec : ChangeSpec := { name := "syncmarkFind", fn := fun _ => fun
  | [d1, d2] => { results := [.lit (.bool true)], args := [d1, d2] }
  | _ => none }
def syncmarkFindRow : OpenClaim := { program := "ytcklenkpalfjgaa", sum := "a9e07b1c31b8dd6bbeb2472163b91b5103881c2b98bec93d721313ee34c1a78b", func := "stele/stelelaw12.SyncmarkFind", spec := "syncmarkFind", unfollowed := true, recurses := true, apart := false }
def SyncmarkFindSaid : Prop := syncmarkFindRow.holds Try.pinned (OpenSpec.ofChange syncmarkFindSpec)

/-- ITS FALSE NEIGHBOUR: 'it returns false'. Refute it at one input. -/
def syncmarkFindWrong : ChangeSpec := { name := "syncmarkFind", fn := fun _ => fun
  | [d1, d2] => { results := [.lit (.bool false)], args := [d1, d2] }
  | _ => none }
def SyncmarkFindWrongFalsely : Prop := syncmarkFindRow.holds Try.pinned (OpenSpec.ofChange syncmarkFindWrong)

/-- 'stelelaw12.SyncmarkFirst': WHATEVER THE INPUT: true; the input reads as it did. -/
def syncmarkFirstSpec : ChangeSpec := { name := "syncmarkFirst", fn := fun _ => fun
  | [d1, d2] => { results := [.lit (.bool true)], args := [d1, d2] }
  | _ => none }
def syncmarkFirstRow : OpenClaim := { program := "ytcklenkpalfjgaa", sum := "a9e07b1c31b8dd6bbeb2472163b91b5103881c2b98bec93d721313ee34c1a78b", func := "stele/stelelaw12.SyncmarkFirst", spec := "syncmarkFirst", unfollowed := true, recurses := true, apart := false }
def SyncmarkFirstSaid : Prop := syncmarkFirstRow.holds Try.pinned (OpenSpec.ofChange syncmarkFirstSpec)

/-- ITS FALSE NEIGHBOUR: 'it returns false'. Refute it at one input. -/
def syncmarkFirstWrong : ChangeSpec := { name := "syncmarkFirst", fn := fun _ => fun
  | [d1, d2] => { results := [.lit (.bool false)], args := [d1, d2] }
  | _ => none }
def SyncmarkFirstWrongFalsely : Prop := syncmarkFirstRow.holds Try.pinned (OpenSpec.ofChange syncmarkFirstWrong)

/-- 'stelelaw12.SyncmarkTolerance': WHATEVER THE INPUT: true; the input reads as it did. -/
def syncmarkToleranceSpec : ChangeSpec := { name := "syncmarkTolerance", fn := fun _ => fun
  | [d1, d2, d3] => { results := [.lit (.bool true)], args := [d1, d2, d3] }
  | _ => none }
def syncmarkToleranceRow : OpenClaim := { program := "ytcklenkpalfjgaa", sum := "a9e07b1c31b8dd6bbeb2472163b91b5103881c2b98bec93d721313ee34c1a78b", func := "stele/stelelaw12.SyncmarkTolerance", spec := "syncmarkTolerance", unfollowed := true, recurses := true, apart := false }
def SyncmarkToleranceSaid : Prop := syncmarkToleranceRow.holds Try.pinned (OpenSpec.ofChange syncmarkToleranceSpec)

/-- ITS FALSE NEIGHBOUR: 'it returns false'. Refute it at one input. -/
def syncmarkToleranceWrong : ChangeSpec := { name := "syncmarkTolerance", fn := fun _ => fun
  | [d1, d2, d3] => { results := [.lit (.bool false)], args := [d1, d2, d3] }
  | _ => none }
def SyncmarkToleranceWrongFalsely : Prop := syncmarkToleranceRow.holds Try.pinned (OpenSpec.ofChange syncmarkToleranceWrong)

/-- 'stelelaw12.SyncmarkContext': WHATEVER THE INPUT: true; the input reads as it did. -/
def syncmarkContextSpec : ChangeSpec := { name := "syncmarkContext", fn := fun _ => fun
  | [d1, d2, d3, d4] => { results := [.lit (.bool true)], args := [d1, d2, d3, d4] }
  | _ => none }
def syncmarkContextRow : OpenClaim := { program := "ytcklenkpalfjgaa", sum := "a9e07b1c31b8dd6bbeb2472163b91b5103881c2b98bec93d721313ee34c1a78b", func := "stele/stelelaw12.SyncmarkContext", spec := "syncmarkContext", unfollowed := true, recurses := true, apart := false }
def SyncmarkContextSaid : Prop := syncmarkContextRow.holds Try.pinned (OpenSpec.ofChange syncmarkContextSpec)

/-- ITS FALSE NEIGHBOUR: 'it returns false'. Refute it at one input. -/
def syncmarkContextWrong : ChangeSpec := { name := "syncmarkContext", fn := fun _ => fun
  | [d1, d2, d3, d4] => { results := [.lit (.bool false)], args := [d1, d2, d3, d4] }
  | _ => none }
def SyncmarkContextWrongFalsely : Prop := syncmarkContextRow.holds Try.pinned (OpenSpec.ofChange syncmarkContextWrong)

/-- 'stelelaw12.SyncmarkExtension': WHATEVER THE INPUT: true; the input reads as it did. -/
def syncmarkExtensionSpec : ChangeSpec := { name := "syncmarkExtension", fn := fun _ => fun
  | [d1, d2, d3] => { results := [.lit (.bool true)], args := [d1, d2, d3] }
  | _ => none }
def syncmarkExtensionRow : OpenClaim := { program := "ytcklenkpalfjgaa", sum := "a9e07b1c31b8dd6bbeb2472163b91b5103881c2b98bec93d721313ee34c1a78b", func := "stele/stelelaw12.SyncmarkExtension", spec := "syncmarkExtension", unfollowed := true, recurses := true, apart := false }
def SyncmarkExtensionSaid : Prop := syncmarkExtensionRow.holds Try.pinned (OpenSpec.ofChange syncmarkExtensionSpec)

/-- ITS FALSE NEIGHBOUR: 'it returns false'. Refute it at one input. -/
def syncmarkExtensionWrong : ChangeSpec := { name := "syncmarkExtension", fn := fun _ => fun
  | [d1, d2, d3] => { results := [.lit (.bool false)], args := [d1, d2, d3] }
  | _ => none }
def SyncmarkExtensionWrongFalsely : Prop := syncmarkExtensionRow.holds Try.pinned (OpenSpec.ofChange syncmarkExtensionWrong)

/-- 'stelelaw12.SyncmarkDistance': WHATEVER THE INPUT: true; the input reads as it did. -/
def syncmarkDistanceSpec : ChangeSpec := { name := "syncmarkDistance", fn := fun _ => fun
  | [d1, d2] => { results := [.lit (.bool true)], args := [d1, d2] }
  | _ => none }
def syncmarkDistanceRow : OpenClaim := { program := "ytcklenkpalfjgaa", sum := "a9e07b1c31b8dd6bbeb2472163b91b5103881c2b98bec93d721313ee34c1a78b", func := "stele/stelelaw12.SyncmarkDistance", spec := "syncmarkDistance", unfollowed := true, recurses := true, apart := false }
def SyncmarkDistanceSaid : Prop := syncmarkDistanceRow.holds Try.pinned (OpenSpec.ofChange syncmarkDistanceSpec)

/-- ITS FALSE NEIGHBOUR: 'it returns false'. Refute it at one input. -/
def syncmarkDistanceWrong : ChangeSpec := { name := "syncmarkDistance", fn := fun _ => fun
  | [d1, d2] => { results := [.lit (.bool false)], args := [d1, d2] }
  | _ => none }
def SyncmarkDistanceWrongFalsely : Prop := syncmarkDistanceRow.holds Try.pinned (OpenSpec.ofChange syncmarkDistanceWrong)

/-- 'stelelaw12.SyncmarkInverse': WHATEVER THE INPUT: true; the input reads as it did. -/
def syncmarkInverseSpec : ChangeSpec := { name := "syncmarkInverse", fn := fun _ => fun
  | [d1, d2, d3, d4] => { results := [.lit (.bool true)], args := [d1, d2, d3, d4] }
  | _ => none }
def syncmarkInverseRow : OpenClaim := { program := "ytcklenkpalfjgaa", sum := "a9e07b1c31b8dd6bbeb2472163b91b5103881c2b98bec93d721313ee34c1a78b", func := "stele/stelelaw12.SyncmarkInverse", spec := "syncmarkInverse", unfollowed := true, recurses := true, apart := false }
def SyncmarkInverseSaid : Prop := syncmarkInverseRow.holds Try.pinned (OpenSpec.ofChange syncmarkInverseSpec)

/-- ITS FALSE NEIGHBOUR: 'it returns false'. Refute it at one input. -/
def syncmarkInverseWrong : ChangeSpec := { name := "syncmarkInverse", fn := fun _ => fun
  | [d1, d2, d3, d4] => { results := [.lit (.bool false)], args := [d1, d2, d3, d4] }
  | _ => none }
def SyncmarkInverseWrongFalsely : Prop := syncmarkInverseRow.holds Try.pinned (OpenSpec.ofChange syncmarkInverseWrong)

/- THE SECOND FORM. 'bulk': how many values and letters a reading holds, each counted each time it is reached (what is shared counts as often as it is met; a slice's spare places count too). A statement '..UptoSaid' is the law's where the arguments, and the package variables that the reading takes, are together of bulk at most 1048576: NARROWER than '..Said'. Prove '..Said' where nothing that the law and all that it calls make is longer than what came in: it says more and counts as full. Else prove '..UptoSaid'. A law counts once. -/
mutual
def uptoBulk {H : Type} : DataW H → Nat
  | .lit (.string bytes) => bytes.length + 1
  | .lit _ => 1
  | .nil => 1
  | .ptr d => uptoBulk d + 1
  | .slice elems spare => uptoBulkAll elems + uptoBulkAll spare + 1
  | .agg parts => uptoBulkAll parts + 1
  | .iface _ d => uptoBulk d + 1
  | .map entries => uptoBulkEntries entries + 1
  | .held _ => 1
def uptoBulkAll {H : Type} : List (DataW H) → Nat
  | [] => 0
  | d :: r => uptoBulk d + uptoBulkAll r
def uptoBulkEntries {H : Type} : List (Lit × DataW H) → Nat
  | [] => 0
  | x :: r => uptoBulkEntry x + uptoBulkEntries r
def uptoBulkEntry {H : Type} : Lit × DataW H → Nat
  | (.string bytes, d) => bytes.length + uptoBulk d + 1
  | (_, d) => uptoBulk d + 1
 end
def uptoSmall : (H : Type) → List (DataW H) → Bool := fun _ ds => decide (uptoBulkAll ds ≤ 1048576)
def OpenSpec.upto (s : _root_.Go.ChangeSpec) : _root_.Go.OpenSpec := { _root_.Go.OpenSpec.ofChange s with cond := some uptoSmall }

/-- 'stelelaw12.SyncmarkFind', WHERE WHAT IT READS IS OF BULK AT MOST 1048576: true; the input reads as it did. -/
def syncmarkFindUptoRow : OpenClaim := { program := "ytcklenkpalfjgaa", sum := "a9e07b1c31b8dd6bbeb2472163b91b5103881c2b98bec93d721313ee34c1a78b", func := "stele/stelelaw12.SyncmarkFind", spec := "syncmarkFind", unfollowed := true, recurses := true, apart := false, narrowed := true }
def SyncmarkFindUptoSaid : Prop := syncmarkFindUptoRow.holds Try.pinned (OpenSpec.upto syncmarkFindSpec)

/-- 'stelelaw12.SyncmarkFirst', WHERE WHAT IT READS IS OF BULK AT MOST 1048576: true; the input reads as it did. -/
def syncmarkFirstUptoRow : OpenClaim := { program := "ytcklenkpalfjgaa", sum := "a9e07b1c31b8dd6bbeb2472163b91b5103881c2b98bec93d721313ee34c1a78b", func := "stele/stelelaw12.SyncmarkFirst", spec := "syncmarkFirst", unfollowed := true, recurses := true, apart := false, narrowed := true }
def SyncmarkFirstUptoSaid : Prop := syncmarkFirstUptoRow.holds Try.pinned (OpenSpec.upto syncmarkFirstSpec)

/-- 'stelelaw12.SyncmarkTolerance', WHERE WHAT IT READS IS OF BULK AT MOST 1048576: true; the input reads as it did. -/
def syncmarkToleranceUptoRow : OpenClaim := { program := "ytcklenkpalfjgaa", sum := "a9e07b1c31b8dd6bbeb2472163b91b5103881c2b98bec93d721313ee34c1a78b", func := "stele/stelelaw12.SyncmarkTolerance", spec := "syncmarkTolerance", unfollowed := true, recurses := true, apart := false, narrowed := true }
def SyncmarkToleranceUptoSaid : Prop := syncmarkToleranceUptoRow.holds Try.pinned (OpenSpec.upto syncmarkToleranceSpec)

/-- 'stelelaw12.SyncmarkContext', WHERE WHAT IT READS IS OF BULK AT MOST 1048576: true; the input reads as it did. -/
def syncmarkContextUptoRow : OpenClaim := { program := "ytcklenkpalfjgaa", sum := "a9e07b1c31b8dd6bbeb2472163b91b5103881c2b98bec93d721313ee34c1a78b", func := "stele/stelelaw12.SyncmarkContext", spec := "syncmarkContext", unfollowed := true, recurses := true, apart := false, narrowed := true }
def SyncmarkContextUptoSaid : Prop := syncmarkContextUptoRow.holds Try.pinned (OpenSpec.upto syncmarkContextSpec)

/-- 'stelelaw12.SyncmarkExtension', WHERE WHAT IT READS IS OF BULK AT MOST 1048576: true; the input reads as it did. -/
def syncmarkExtensionUptoRow : OpenClaim := { program := "ytcklenkpalfjgaa", sum := "a9e07b1c31b8dd6bbeb2472163b91b5103881c2b98bec93d721313ee34c1a78b", func := "stele/stelelaw12.SyncmarkExtension", spec := "syncmarkExtension", unfollowed := true, recurses := true, apart := false, narrowed := true }
def SyncmarkExtensionUptoSaid : Prop := syncmarkExtensionUptoRow.holds Try.pinned (OpenSpec.upto syncmarkExtensionSpec)

/-- 'stelelaw12.SyncmarkDistance', WHERE WHAT IT READS IS OF BULK AT MOST 1048576: true; the input reads as it did. -/
def syncmarkDistanceUptoRow : OpenClaim := { program := "ytcklenkpalfjgaa", sum := "a9e07b1c31b8dd6bbeb2472163b91b5103881c2b98bec93d721313ee34c1a78b", func := "stele/stelelaw12.SyncmarkDistance", spec := "syncmarkDistance", unfollowed := true, recurses := true, apart := false, narrowed := true }
def SyncmarkDistanceUptoSaid : Prop := syncmarkDistanceUptoRow.holds Try.pinned (OpenSpec.upto syncmarkDistanceSpec)

/-- 'stelelaw12.SyncmarkInverse', WHERE WHAT IT READS IS OF BULK AT MOST 1048576: true; the input reads as it did. -/
def syncmarkInverseUptoRow : OpenClaim := { program := "ytcklenkpalfjgaa", sum := "a9e07b1c31b8dd6bbeb2472163b91b5103881c2b98bec93d721313ee34c1a78b", func := "stele/stelelaw12.SyncmarkInverse", spec := "syncmarkInverse", unfollowed := true, recurses := true, apart := false, narrowed := true }
def SyncmarkInverseUptoSaid : Prop := syncmarkInverseUptoRow.holds Try.pinned (OpenSpec.upto syncmarkInverseSpec)

end Rows
end Go.Proofs.Ytcklenkpalfjgaa
