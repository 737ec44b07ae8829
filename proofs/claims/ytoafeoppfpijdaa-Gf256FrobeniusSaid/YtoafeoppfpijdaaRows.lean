/-
  No cell of these rows narrows 'for every input' (looked for: loops, veiled, ifaces, maps, wideKeys, modest, calm, conditions, laid).
  DERIVED. THE GIVEN ROWS OF THIS SEAT. 8 by the template 'for every input the law returns true; each argument reads behind the call as it read before'; 0 by the template 'total and deterministic' (their statements: YtoafeoppfpijdaaTotals.lean).
  GIVEN WITH THE SEED: the statements are not yours to turn. If you find one false, say at which input.
  Laid BY PROGRAM, IN A SANDBOX (cutbox-rows.mjs): the forced cells as the released guide's own fill.sh prints them over the translation 214707d10d37c782… (all of the seat's roots in one cut). By AI agents, Wed Nov 11 2026. No macro, syntax, notation, axiom, sorry.
-/
import Derived.Test.YtoafeoppfpijdaaChecked
import GoSem.Claim
import GoSem.ClaimJoined
import GoSem.ClaimMapViews
import Derived.JoinedTies
import Derived.KernelRfl
namespace Go.Proofs.Ytoafeoppfpijdaa
/- THE CELL 'sum', in the pinned program and in every row, IS THE sha256 OF THE DUMP (.gsa) THAT YtoafeoppfpijdaaProg.lean LOADS. Nothing in Lean hashes anything: it is a label: what it is worth is what the hold of that sum in a sandbox is worth. -/
noncomputable def Try.pinned : Pinned := { name := "ytoafeoppfpijdaa", sum := "214707d10d37c78284cb234758f2954a47b994c5c3bc2bb8a4da1476f50f10b0", checked := Try.checked }
namespace Rows
def none {H : Type} : Left H := { results := [], args := [] }

/-- 'stelelaw05.Gf256Exponents': WHATEVER THE INPUT: true; the input reads as it did. -/
def gf256ExponentsSpec : ChangeSpec := { name := "gf256Exponents", fn := fun _ => fun
  | [d1, d2, d3] => { results := [.lit (.bool true)], args := [d1, d2, d3] }
  | _ => none }
def gf256ExponentsRow : OpenClaim := { program := "ytoafeoppfpijdaa", sum := "214707d10d37c78284cb234758f2954a47b994c5c3bc2bb8a4da1476f50f10b0", func := "stele/stelelaw05.Gf256Exponents", spec := "gf256Exponents", unfollowed := true, recurses := true, apart := false }
def Gf256ExponentsSaid : Prop := gf256ExponentsRow.holds Try.pinned (OpenSpec.ofChange gf256ExponentsSpec)

/-- ITS FALSE NEIGHBOUR: 'it returns false'. Refute it at one input. -/
def gf256ExponentsWrong : ChangeSpec := { name := "gf256Exponents", fn := fun _ => fun
  | [d1, d2, d3] => { results := [.lit (.bool false)], args := [d1, d2, d3] }
  | _ => none }
def Gf256ExponentsWrongFalsely : Prop := gf256ExponentsRow.holds Try.pinned (OpenSpec.ofChange gf256ExponentsWrong)

/-- 'stelelaw05.Gf256Field': WHATEVER THE INPUT: true; the input reads as it did. -/
def gf256FieldSpec : ChangeSpec := { name := "gf256Field", fn := fun _ => fun
  | [d1, d2, d3] => { results := [.lit (.bool true)], args := [d1, d2, d3] }
  | _ => none }
def gf256FieldRow : OpenClaim := { program := "ytoafeoppfpijdaa", sum := "214707d10d37c78284cb234758f2954a47b994c5c3bc2bb8a4da1476f50f10b0", func := "stele/stelelaw05.Gf256Field", spec := "gf256Field", unfollowed := true, recurses := true, apart := false }
def Gf256FieldSaid : Prop := gf256FieldRow.holds Try.pinned (OpenSpec.ofChange gf256FieldSpec)

/-- ITS FALSE NEIGHBOUR: 'it returns false'. Refute it at one input. -/
def gf256FieldWrong : ChangeSpec := { name := "gf256Field", fn := fun _ => fun
  | [d1, d2, d3] => { results := [.lit (.bool false)], args := [d1, d2, d3] }
  | _ => none }
def Gf256FieldWrongFalsely : Prop := gf256FieldRow.holds Try.pinned (OpenSpec.ofChange gf256FieldWrong)

/-- 'stelelaw05.Gf256Division': WHATEVER THE INPUT: true; the input reads as it did. -/
def gf256DivisionSpec : ChangeSpec := { name := "gf256Division", fn := fun _ => fun
  | [d1, d2] => { results := [.lit (.bool true)], args := [d1, d2] }
  | _ => none }
def gf256DivisionRow : OpenClaim := { program := "ytoafeoppfpijdaa", sum := "214707d10d37c78284cb234758f2954a47b994c5c3bc2bb8a4da1476f50f10b0", func := "stele/stelelaw05.Gf256Division", spec := "gf256Division", unfollowed := true, recurses := true, apart := false }
def Gf256DivisionSaid : Prop := gf256DivisionRow.holds Try.pinned (OpenSpec.ofChange gf256DivisionSpec)

/-- ITS FALSE NEIGHBOUR: 'it returns false'. Refute it at one input. -/
def gf256DivisionWrong : ChangeSpec := { name := "gf256Division", fn := fun _ => fun
  | [d1, d2] => { results := [.lit (.bool false)], args := [d1, d2] }
  | _ => none }
def Gf256DivisionWrongFalsely : Prop := gf256DivisionRow.holds Try.pinned (OpenSpec.ofChange gf256DivisionWrong)

/-- 'stelelaw05.Gf256Operations': WHATEVER THE INPUT: true; the input reads as it did. -/
def gf256OperationsSpec : ChangeSpec := { name := "gf256Operations", fn := fun _ => fun
  | [d1, d2] => { results := [.lit (.bool true)], args := [d1, d2] }
  | _ => none }
def gf256OperationsRow : OpenClaim := { program := "ytoafeoppfpijdaa", sum := "214707d10d37c78284cb234758f2954a47b994c5c3bc2bb8a4da1476f50f10b0", func := "stele/stelelaw05.Gf256Operations", spec := "gf256Operations", unfollowed := true, recurses := true, apart := false }
def Gf256OperationsSaid : Prop := gf256OperationsRow.holds Try.pinned (OpenSpec.ofChange gf256OperationsSpec)

/-- ITS FALSE NEIGHBOUR: 'it returns false'. Refute it at one input. -/
def gf256OperationsWrong : ChangeSpec := { name := "gf256Operations", fn := fun _ => fun
  | [d1, d2] => { results := [.lit (.bool false)], args := [d1, d2] }
  | _ => none }
def Gf256OperationsWrongFalsely : Prop := gf256OperationsRow.holds Try.pinned (OpenSpec.ofChange gf256OperationsWrong)

/-- 'stelelaw05.Gf256Equations': WHATEVER THE INPUT: true; the input reads as it did. -/
def gf256EquationsSpec : ChangeSpec := { name := "gf256Equations", fn := fun _ => fun
  | [d1, d2, d3] => { results := [.lit (.bool true)], args := [d1, d2, d3] }
  | _ => none }
def gf256EquationsRow : OpenClaim := { program := "ytoafeoppfpijdaa", sum := "214707d10d37c78284cb234758f2954a47b994c5c3bc2bb8a4da1476f50f10b0", func := "stele/stelelaw05.Gf256Equations", spec := "gf256Equations", unfollowed := true, recurses := true, apart := false }
def Gf256EquationsSaid : Prop := gf256EquationsRow.holds Try.pinned (OpenSpec.ofChange gf256EquationsSpec)

/-- ITS FALSE NEIGHBOUR: 'it returns false'. Refute it at one input. -/
def gf256EquationsWrong : ChangeSpec := { name := "gf256Equations", fn := fun _ => fun
  | [d1, d2, d3] => { results := [.lit (.bool false)], args := [d1, d2, d3] }
  | _ => none }
def Gf256EquationsWrongFalsely : Prop := gf256EquationsRow.holds Try.pinned (OpenSpec.ofChange gf256EquationsWrong)

/-- 'stelelaw05.Gf256Powers': WHATEVER THE INPUT: true; the input reads as it did. -/
def gf256PowersSpec : ChangeSpec := { name := "gf256Powers", fn := fun _ => fun
  | [d1, d2] => { results := [.lit (.bool true)], args := [d1, d2] }
  | _ => none }
def gf256PowersRow : OpenClaim := { program := "ytoafeoppfpijdaa", sum := "214707d10d37c78284cb234758f2954a47b994c5c3bc2bb8a4da1476f50f10b0", func := "stele/stelelaw05.Gf256Powers", spec := "gf256Powers", unfollowed := true, recurses := true, apart := false }
def Gf256PowersSaid : Prop := gf256PowersRow.holds Try.pinned (OpenSpec.ofChange gf256PowersSpec)

/-- ITS FALSE NEIGHBOUR: 'it returns false'. Refute it at one input. -/
def gf256PowersWrong : ChangeSpec := { name := "gf256Powers", fn := fun _ => fun
  | [d1, d2] => { results := [.lit (.bool false)], args := [d1, d2] }
  | _ => none }
def Gf256PowersWrongFalsely : Prop := gf256PowersRow.holds Try.pinned (OpenSpec.ofChange gf256PowersWrong)

/-- 'stelelaw05.Gf256PowerLaws': WHATEVER THE INPUT: true; the input reads as it did. -/
def gf256PowerLawsSpec : ChangeSpec := { name := "gf256PowerLaws", fn := fun _ => fun
  | [d1, d2, d3] => { results := [.lit (.bool true)], args := [d1, d2, d3] }
  | _ => none }
def gf256PowerLawsRow : OpenClaim := { program := "ytoafeoppfpijdaa", sum := "214707d10d37c78284cb234758f2954a47b994c5c3bc2bb8a4da1476f50f10b0", func := "stele/stelelaw05.Gf256PowerLaws", spec := "gf256PowerLaws", unfollowed := true, recurses := true, apart := false }
def Gf256PowerLawsSaid : Prop := gf256PowerLawsRow.holds Try.pinned (OpenSpec.ofChange gf256PowerLawsSpec)

/-- ITS FALSE NEIGHBOUR: 'it returns false'. Refute it at one input. -/
def gf256PowerLawsWrong : ChangeSpec := { name := "gf256PowerLaws", fn := fun _ => fun
  | [d1, d2, d3] => { results := [.lit (.bool false)], args := [d1, d2, d3] }
  | _ => none }
def Gf256PowerLawsWrongFalsely : Prop := gf256PowerLawsRow.holds Try.pinned (OpenSpec.ofChange gf256PowerLawsWrong)

/-- 'stelelaw05.Gf256Frobenius': WHATEVER THE INPUT: true; the input reads as it did. -/
def gf256FrobeniusSpec : ChangeSpec := { name := "gf256Frobenius", fn := fun _ => fun
  | [d1, d2] => { results := [.lit (.bool true)], args := [d1, d2] }
  | _ => none }
def gf256FrobeniusRow : OpenClaim := { program := "ytoafeoppfpijdaa", sum := "214707d10d37c78284cb234758f2954a47b994c5c3bc2bb8a4da1476f50f10b0", func := "stele/stelelaw05.Gf256Frobenius", spec := "gf256Frobenius", unfollowed := true, recurses := true, apart := false }
def Gf256FrobeniusSaid : Prop := gf256FrobeniusRow.holds Try.pinned (OpenSpec.ofChange gf256FrobeniusSpec)

/-- ITS FALSE NEIGHBOUR: 'it returns false'. Refute it at one input. -/
def gf256FrobeniusWrong : ChangeSpec := { name := "gf256Frobenius", fn := fun _ => fun
  | [d1, d2] => { results := [.lit (.bool false)], args := [d1, d2] }
  | _ => none }
def Gf256FrobeniusWrongFalsely : Prop := gf256FrobeniusRow.holds Try.pinned (OpenSpec.ofChange gf256FrobeniusWrong)

/- THE SECOND FORM. 'bulk': how many values and letters a reading holds, each counted each time it is reached (what is shared counts as often as it is met; a slice's spare places count too). A statement '..UptoSaid' is the law's where the arguments, and the package variables that the reading takes, are together of bulk at most 1048576: NARROWER than '..Said'. Prove '..Said' where nothing that the law and all that it calls make is longer than what came in: it says more and counts as full. Else prove '..UptoSaid'. A law counts once. -/
mutual
def uptoBulk {H : Type} : DataW H → Nat
  | .lit (.string bytes) => bytes.length + 1
  | .lit _ => 1
  | .nil => 1
  | .ptr d => uptoBulk d + 1
  | .slice elems spare => uptoBulkAll elems + uptoBulkAll spare + 1
  | .agg parts => uptoBulkAll parts + 1
  | .iface _ d => uptoBulk d + 1
  | .map entries => uptoBulkEntries entries + 1
  | .held _ => 1
def uptoBulkAll {H : Type} : List (DataW H) → Nat
  | [] => 0
  | d :: r => uptoBulk d + uptoBulkAll r
def uptoBulkEntries {H : Type} : List (Lit × DataW H) → Nat
  | [] => 0
  | x :: r => uptoBulkEntry x + uptoBulkEntries r
def uptoBulkEntry {H : Type} : Lit × DataW H → Nat
  | (.string bytes, d) => bytes.length + uptoBulk d + 1
  | (_, d) => uptoBulk d + 1
 end
def uptoSmall : (H : Type) → List (DataW H) → Bool := fun _ ds => decide (uptoBulkAll ds ≤ 1048576)
def OpenSpec.upto (s : _root_.Go.ChangeSpec) : _root_.Go.OpenSpec := { _root_.Go.OpenSpec.ofChange s with cond := some uptoSmall }

/-- 'stelelaw05.Gf256Exponents', WHERE WHAT IT READS IS OF BULK AT MOST 1048576: true; the input reads as it did. -/
def gf256ExponentsUptoRow : OpenClaim := { program := "ytoafeoppfpijdaa", sum := "214707d10d37c78284cb234758f2954a47b994c5c3bc2bb8a4da1476f50f10b0", func := "stele/stelelaw05.Gf256Exponents", spec := "gf256Exponents", unfollowed := true, recurses := true, apart := false, narrowed := true }
def Gf256ExponentsUptoSaid : Prop := gf256ExponentsUptoRow.holds Try.pinned (OpenSpec.upto gf256ExponentsSpec)

/-- 'stelelaw05.Gf256Field', WHERE WHAT IT READS IS OF BULK AT MOST 1048576: true; the input reads as it did. -/
def gf256FieldUptoRow : OpenClaim := { program := "ytoafeoppfpijdaa", sum := "214707d10d37c78284cb234758f2954a47b994c5c3bc2bb8a4da1476f50f10b0", func := "stele/stelelaw05.Gf256Field", spec := "gf256Field", unfollowed := true, recurses := true, apart := false, narrowed := true }
def Gf256FieldUptoSaid : Prop := gf256FieldUptoRow.holds Try.pinned (OpenSpec.upto gf256FieldSpec)

/-- 'stelelaw05.Gf256Division', WHERE WHAT IT READS IS OF BULK AT MOST 1048576: true; the input reads as it did. -/
def gf256DivisionUptoRow : OpenClaim := { program := "ytoafeoppfpijdaa", sum := "214707d10d37c78284cb234758f2954a47b994c5c3bc2bb8a4da1476f50f10b0", func := "stele/stelelaw05.Gf256Division", spec := "gf256Division", unfollowed := true, recurses := true, apart := false, narrowed := true }
def Gf256DivisionUptoSaid : Prop := gf256DivisionUptoRow.holds Try.pinned (OpenSpec.upto gf256DivisionSpec)

/-- 'stelelaw05.Gf256Operations', WHERE WHAT IT READS IS OF BULK AT MOST 1048576: true; the input reads as it did. -/
def gf256OperationsUptoRow : OpenClaim := { program := "ytoafeoppfpijdaa", sum := "214707d10d37c78284cb234758f2954a47b994c5c3bc2bb8a4da1476f50f10b0", func := "stele/stelelaw05.Gf256Operations", spec := "gf256Operations", unfollowed := true, recurses := true, apart := false, narrowed := true }
def Gf256OperationsUptoSaid : Prop := gf256OperationsUptoRow.holds Try.pinned (OpenSpec.upto gf256OperationsSpec)

/-- 'stelelaw05.Gf256Equations', WHERE WHAT IT READS IS OF BULK AT MOST 1048576: true; the input reads as it did. -/
def gf256EquationsUptoRow : OpenClaim := { program := "ytoafeoppfpijdaa", sum := "214707d10d37c78284cb234758f2954a47b994c5c3bc2bb8a4da1476f50f10b0", func := "stele/stelelaw05.Gf256Equations", spec := "gf256Equations", unfollowed := true, recurses := true, apart := false, narrowed := true }
def Gf256EquationsUptoSaid : Prop := gf256EquationsUptoRow.holds Try.pinned (OpenSpec.upto gf256EquationsSpec)

/-- 'stelelaw05.Gf256Powers', WHERE WHAT IT READS IS OF BULK AT MOST 1048576: true; the input reads as it did. -/
def gf256PowersUptoRow : OpenClaim := { program := "ytoafeoppfpijdaa", sum := "214707d10d37c78284cb234758f2954a47b994c5c3bc2bb8a4da1476f50f10b0", func := "stele/stelelaw05.Gf256Powers", spec := "gf256Powers", unfollowed := true, recurses := true, apart := false, narrowed := true }
def Gf256PowersUptoSaid : Prop := gf256PowersUptoRow.holds Try.pinned (OpenSpec.upto gf256PowersSpec)

/-- 'stelelaw05.Gf256PowerLaws', WHERE WHAT IT READS IS OF BULK AT MOST 1048576: true; the input reads as it did. -/
def gf256PowerLawsUptoRow : OpenClaim := { program := "ytoafeoppfpijdaa", sum := "214707d10d37c78284cb234758f2954a47b994c5c3bc2bb8a4da1476f50f10b0", func := "stele/stelelaw05.Gf256PowerLaws", spec := "gf256PowerLaws", unfollowed := true, recurses := true, apart := false, narrowed := true }
def Gf256PowerLawsUptoSaid : Prop := gf256PowerLawsUptoRow.holds Try.pinned (OpenSpec.upto gf256PowerLawsSpec)

/-- 'stelelaw05.Gf256Frobenius', WHERE WHAT IT READS IS OF BULK AT MOST 1048576: true; the input reads as it did. -/
def gf256FrobeniusUptoRow : OpenClaim := { program := "ytoafeoppfpijdaa", sum := "214707d10d37c78284cb234758f2954a47b994c5c3bc2bb8a4da1476f50f10b0", func := "stele/stelelaw05.Gf256Frobenius", spec := "gf256Frobenius", unfollowed := true, recurses := true, apart := false, narrowed := true }
def Gf256FrobeniusUptoSaid : Prop := gf256FrobeniusUptoRow.holds Try.pinned (OpenSpec.upto gf256FrobeniusSpec)

end Rows
end Go.Proofs.Ytoafeoppfpijdaa
