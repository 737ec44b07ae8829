/-
  No cell of these rows narrows 'for every input' (looked for: loops, veiled, ifaces, maps, wideKeys, modest, calm, conditions, laid).
  DERIVED. THE GIVEN ROWS OF THIS SEAT. 8 by the template 'for every input the law returns true; each argument reads behind the call as it read before'; 0 by the template 'total and deterministic' (their statements: YtjepedejclfnmaaTotals.lean).
  GIVEN WITH THE SEED: the statements are not yours to turn. If you find one false, say at which input.
  Laid BY PROGRAM, IN A SANDBOX (cutbox-rows.mjs): the forced cells as the released guide's own fill.sh prints them over the translation 0f265ad57a37e5f6… (all of the seat's roots in one cut). By AI agents, Wed Nov 11 2026. No macro, syntax, notation, axiom, sorry.
-/
import Derived.Test.YtjepedejclfnmaaChecked
import GoSem.Claim
import GoSem.ClaimJoined
import GoSem.ClaimMapViews
import Derived.JoinedTies
import Derived.KernelRfl
namespace Go.Proofs.Ytjepedejclfnmaa
/- THE CELL 'sum', in the pinned program and in every row, IS THE sha256 OF THE DUMP (.gsa) THAT YtjepedejclfnmaaProg.lean LOADS. Nothing in Lean hashes anything: it is a label: what it is worth is what the hold of that sum in a sandbox is worth. -/
noncomputable def Try.pinned : Pinned := { name := "ytjepedejclfnmaa", sum := "0f265ad57a37e5f67e47f0e10d2c0d46574ddcc67bad9fd2c803dae15c5c86a4", checked := Try.checked }
namespace Rows
def none {H : Type} : Left H := { results := [], args := [] }

/-- 'stelelaw07.ReedsolomonValues': WHATEVER THE INPUT: true; the input reads as it did. -/
def reedsolomonValuesSpec : ChangeSpec := { name := "reedsolomonValues", fn := fun _ => fun
  | [d1, d2] => { results := [.lit (.bool true)], args := [d1, d2] }
  | _ => none }
def reedsolomonValuesRow : OpenClaim := { program := "ytjepedejclfnmaa", sum := "0f265ad57a37e5f67e47f0e10d2c0d46574ddcc67bad9fd2c803dae15c5c86a4", func := "stele/stelelaw07.ReedsolomonValues", spec := "reedsolomonValues", unfollowed := true, recurses := true, apart := false }
def ReedsolomonValuesSaid : Prop := reedsolomonValuesRow.holds Try.pinned (OpenSpec.ofChange reedsolomonValuesSpec)

/-- ITS FALSE NEIGHBOUR: 'it returns false'. Refute it at one input. -/
def reedsolomonValuesWrong : ChangeSpec := { name := "reedsolomonValues", fn := fun _ => fun
  | [d1, d2] => { results := [.lit (.bool false)], args := [d1, d2] }
  | _ => none }
def ReedsolomonValuesWrongFalsely : Prop := reedsolomonValuesRow.holds Try.pinned (OpenSpec.ofChange reedsolomonValuesWrong)

/-- 'stelelaw07.ReedsolomonEncodes': WHATEVER THE INPUT: true; the input reads as it did. -/
def reedsolomonEncodesSpec : ChangeSpec := { name := "reedsolomonEncodes", fn := fun _ => fun
  | [d1, d2] => { results := [.lit (.bool true)], args := [d1, d2] }
  | _ => none }
def reedsolomonEncodesRow : OpenClaim := { program := "ytjepedejclfnmaa", sum := "0f265ad57a37e5f67e47f0e10d2c0d46574ddcc67bad9fd2c803dae15c5c86a4", func := "stele/stelelaw07.ReedsolomonEncodes", spec := "reedsolomonEncodes", unfollowed := true, recurses := true, apart := false }
def ReedsolomonEncodesSaid : Prop := reedsolomonEncodesRow.holds Try.pinned (OpenSpec.ofChange reedsolomonEncodesSpec)

/-- ITS FALSE NEIGHBOUR: 'it returns false'. Refute it at one input. -/
def reedsolomonEncodesWrong : ChangeSpec := { name := "reedsolomonEncodes", fn := fun _ => fun
  | [d1, d2] => { results := [.lit (.bool false)], args := [d1, d2] }
  | _ => none }
def ReedsolomonEncodesWrongFalsely : Prop := reedsolomonEncodesRow.holds Try.pinned (OpenSpec.ofChange reedsolomonEncodesWrong)

/-- 'stelelaw07.ReedsolomonLinear': WHATEVER THE INPUT: true; the input reads as it did. -/
def reedsolomonLinearSpec : ChangeSpec := { name := "reedsolomonLinear", fn := fun _ => fun
  | [d1, d2, d3] => { results := [.lit (.bool true)], args := [d1, d2, d3] }
  | _ => none }
def reedsolomonLinearRow : OpenClaim := { program := "ytjepedejclfnmaa", sum := "0f265ad57a37e5f67e47f0e10d2c0d46574ddcc67bad9fd2c803dae15c5c86a4", func := "stele/stelelaw07.ReedsolomonLinear", spec := "reedsolomonLinear", unfollowed := true, recurses := true, apart := false }
def ReedsolomonLinearSaid : Prop := reedsolomonLinearRow.holds Try.pinned (OpenSpec.ofChange reedsolomonLinearSpec)

/-- ITS FALSE NEIGHBOUR: 'it returns false'. Refute it at one input. -/
def reedsolomonLinearWrong : ChangeSpec := { name := "reedsolomonLinear", fn := fun _ => fun
  | [d1, d2, d3] => { results := [.lit (.bool false)], args := [d1, d2, d3] }
  | _ => none }
def ReedsolomonLinearWrongFalsely : Prop := reedsolomonLinearRow.holds Try.pinned (OpenSpec.ofChange reedsolomonLinearWrong)

/-- 'stelelaw07.ReedsolomonDistance': WHATEVER THE INPUT: true; the input reads as it did. -/
def reedsolomonDistanceSpec : ChangeSpec := { name := "reedsolomonDistance", fn := fun _ => fun
  | [d1, d2, d3] => { results := [.lit (.bool true)], args := [d1, d2, d3] }
  | _ => none }
def reedsolomonDistanceRow : OpenClaim := { program := "ytjepedejclfnmaa", sum := "0f265ad57a37e5f67e47f0e10d2c0d46574ddcc67bad9fd2c803dae15c5c86a4", func := "stele/stelelaw07.ReedsolomonDistance", spec := "reedsolomonDistance", unfollowed := true, recurses := true, apart := false }
def ReedsolomonDistanceSaid : Prop := reedsolomonDistanceRow.holds Try.pinned (OpenSpec.ofChange reedsolomonDistanceSpec)

/-- ITS FALSE NEIGHBOUR: 'it returns false'. Refute it at one input. -/
def reedsolomonDistanceWrong : ChangeSpec := { name := "reedsolomonDistance", fn := fun _ => fun
  | [d1, d2, d3] => { results := [.lit (.bool false)], args := [d1, d2, d3] }
  | _ => none }
def ReedsolomonDistanceWrongFalsely : Prop := reedsolomonDistanceRow.holds Try.pinned (OpenSpec.ofChange reedsolomonDistanceWrong)

/-- 'stelelaw07.ReedsolomonDetects': WHATEVER THE INPUT: true; the input reads as it did. -/
def reedsolomonDetectsSpec : ChangeSpec := { name := "reedsolomonDetects", fn := fun _ => fun
  | [d1, d2, d3] => { results := [.lit (.bool true)], args := [d1, d2, d3] }
  | _ => none }
def reedsolomonDetectsRow : OpenClaim := { program := "ytjepedejclfnmaa", sum := "0f265ad57a37e5f67e47f0e10d2c0d46574ddcc67bad9fd2c803dae15c5c86a4", func := "stele/stelelaw07.ReedsolomonDetects", spec := "reedsolomonDetects", unfollowed := true, recurses := true, apart := false }
def ReedsolomonDetectsSaid : Prop := reedsolomonDetectsRow.holds Try.pinned (OpenSpec.ofChange reedsolomonDetectsSpec)

/-- ITS FALSE NEIGHBOUR: 'it returns false'. Refute it at one input. -/
def reedsolomonDetectsWrong : ChangeSpec := { name := "reedsolomonDetects", fn := fun _ => fun
  | [d1, d2, d3] => { results := [.lit (.bool false)], args := [d1, d2, d3] }
  | _ => none }
def ReedsolomonDetectsWrongFalsely : Prop := reedsolomonDetectsRow.holds Try.pinned (OpenSpec.ofChange reedsolomonDetectsWrong)

/-- 'stelelaw07.ReedsolomonShortens': WHATEVER THE INPUT: true; the input reads as it did. -/
def reedsolomonShortensSpec : ChangeSpec := { name := "reedsolomonShortens", fn := fun _ => fun
  | [d1, d2, d3] => { results := [.lit (.bool true)], args := [d1, d2, d3] }
  | _ => none }
def reedsolomonShortensRow : OpenClaim := { program := "ytjepedejclfnmaa", sum := "0f265ad57a37e5f67e47f0e10d2c0d46574ddcc67bad9fd2c803dae15c5c86a4", func := "stele/stelelaw07.ReedsolomonShortens", spec := "reedsolomonShortens", unfollowed := true, recurses := true, apart := false }
def ReedsolomonShortensSaid : Prop := reedsolomonShortensRow.holds Try.pinned (OpenSpec.ofChange reedsolomonShortensSpec)

/-- ITS FALSE NEIGHBOUR: 'it returns false'. Refute it at one input. -/
def reedsolomonShortensWrong : ChangeSpec := { name := "reedsolomonShortens", fn := fun _ => fun
  | [d1, d2, d3] => { results := [.lit (.bool false)], args := [d1, d2, d3] }
  | _ => none }
def ReedsolomonShortensWrongFalsely : Prop := reedsolomonShortensRow.holds Try.pinned (OpenSpec.ofChange reedsolomonShortensWrong)

/-- 'stelelaw07.ReedsolomonRoots': WHATEVER THE INPUT: true; the input reads as it did. -/
def reedsolomonRootsSpec : ChangeSpec := { name := "reedsolomonRoots", fn := fun _ => fun
  | [d1, d2] => { results := [.lit (.bool true)], args := [d1, d2] }
  | _ => none }
def reedsolomonRootsRow : OpenClaim := { program := "ytjepedejclfnmaa", sum := "0f265ad57a37e5f67e47f0e10d2c0d46574ddcc67bad9fd2c803dae15c5c86a4", func := "stele/stelelaw07.ReedsolomonRoots", spec := "reedsolomonRoots", unfollowed := true, recurses := true, apart := false }
def ReedsolomonRootsSaid : Prop := reedsolomonRootsRow.holds Try.pinned (OpenSpec.ofChange reedsolomonRootsSpec)

/-- ITS FALSE NEIGHBOUR: 'it returns false'. Refute it at one input. -/
def reedsolomonRootsWrong : ChangeSpec := { name := "reedsolomonRoots", fn := fun _ => fun
  | [d1, d2] => { results := [.lit (.bool false)], args := [d1, d2] }
  | _ => none }
def ReedsolomonRootsWrongFalsely : Prop := reedsolomonRootsRow.holds Try.pinned (OpenSpec.ofChange reedsolomonRootsWrong)

/-- 'stelelaw07.ReedsolomonEvaluates': WHATEVER THE INPUT: true; the input reads as it did. -/
def reedsolomonEvaluatesSpec : ChangeSpec := { name := "reedsolomonEvaluates", fn := fun _ => fun
  | [d1, d2] => { results := [.lit (.bool true)], args := [d1, d2] }
  | _ => none }
def reedsolomonEvaluatesRow : OpenClaim := { program := "ytjepedejclfnmaa", sum := "0f265ad57a37e5f67e47f0e10d2c0d46574ddcc67bad9fd2c803dae15c5c86a4", func := "stele/stelelaw07.ReedsolomonEvaluates", spec := "reedsolomonEvaluates", unfollowed := true, recurses := true, apart := false }
def ReedsolomonEvaluatesSaid : Prop := reedsolomonEvaluatesRow.holds Try.pinned (OpenSpec.ofChange reedsolomonEvaluatesSpec)

/-- ITS FALSE NEIGHBOUR: 'it returns false'. Refute it at one input. -/
def reedsolomonEvaluatesWrong : ChangeSpec := { name := "reedsolomonEvaluates", fn := fun _ => fun
  | [d1, d2] => { results := [.lit (.bool false)], args := [d1, d2] }
  | _ => none }
def ReedsolomonEvaluatesWrongFalsely : Prop := reedsolomonEvaluatesRow.holds Try.pinned (OpenSpec.ofChange reedsolomonEvaluatesWrong)

/- THE SECOND FORM. 'bulk': how many values and letters a reading holds, each counted each time it is reached (what is shared counts as often as it is met; a slice's spare places count too). A statement '..UptoSaid' is the law's where the arguments, and the package variables that the reading takes, are together of bulk at most 1048576: NARROWER than '..Said'. Prove '..Said' where nothing that the law and all that it calls make is longer than what came in: it says more and counts as full. Else prove '..UptoSaid'. A law counts once. -/
mutual
def uptoBulk {H : Type} : DataW H → Nat
  | .lit (.string bytes) => bytes.length + 1
  | .lit _ => 1
  | .nil => 1
  | .ptr d => uptoBulk d + 1
  | .slice elems spare => uptoBulkAll elems + uptoBulkAll spare + 1
  | .agg parts => uptoBulkAll parts + 1
  | .iface _ d => uptoBulk d + 1
  | .map entries => uptoBulkEntries entries + 1
  | .held _ => 1
def uptoBulkAll {H : Type} : List (DataW H) → Nat
  | [] => 0
  | d :: r => uptoBulk d + uptoBulkAll r
def uptoBulkEntries {H : Type} : List (Lit × DataW H) → Nat
  | [] => 0
  | x :: r => uptoBulkEntry x + uptoBulkEntries r
def uptoBulkEntry {H : Type} : Lit × DataW H → Nat
  | (.string bytes, d) => bytes.length + uptoBulk d + 1
  | (_, d) => uptoBulk d + 1
 end
def uptoSmall : (H : Type) → List (DataW H) → Bool := fun _ ds => decide (uptoBulkAll ds ≤ 1048576)
def OpenSpec.upto (s : _root_.Go.ChangeSpec) : _root_.Go.OpenSpec := { _root_.Go.OpenSpec.ofChange s with cond := some uptoSmall }

/-- 'stelelaw07.ReedsolomonValues', WHERE WHAT IT READS IS OF BULK AT MOST 1048576: true; the input reads as it did. -/
def reedsolomonValuesUptoRow : OpenClaim := { program := "ytjepedejclfnmaa", sum := "0f265ad57a37e5f67e47f0e10d2c0d46574ddcc67bad9fd2c803dae15c5c86a4", func := "stele/stelelaw07.ReedsolomonValues", spec := "reedsolomonValues", unfollowed := true, recurses := true, apart := false, narrowed := true }
def ReedsolomonValuesUptoSaid : Prop := reedsolomonValuesUptoRow.holds Try.pinned (OpenSpec.upto reedsolomonValuesSpec)

/-- 'stelelaw07.ReedsolomonEncodes', WHERE WHAT IT READS IS OF BULK AT MOST 1048576: true; the input reads as it did. -/
def reedsolomonEncodesUptoRow : OpenClaim := { program := "ytjepedejclfnmaa", sum := "0f265ad57a37e5f67e47f0e10d2c0d46574ddcc67bad9fd2c803dae15c5c86a4", func := "stele/stelelaw07.ReedsolomonEncodes", spec := "reedsolomonEncodes", unfollowed := true, recurses := true, apart := false, narrowed := true }
def ReedsolomonEncodesUptoSaid : Prop := reedsolomonEncodesUptoRow.holds Try.pinned (OpenSpec.upto reedsolomonEncodesSpec)

/-- 'stelelaw07.ReedsolomonLinear', WHERE WHAT IT READS IS OF BULK AT MOST 1048576: true; the input reads as it did. -/
def reedsolomonLinearUptoRow : OpenClaim := { program := "ytjepedejclfnmaa", sum := "0f265ad57a37e5f67e47f0e10d2c0d46574ddcc67bad9fd2c803dae15c5c86a4", func := "stele/stelelaw07.ReedsolomonLinear", spec := "reedsolomonLinear", unfollowed := true, recurses := true, apart := false, narrowed := true }
def ReedsolomonLinearUptoSaid : Prop := reedsolomonLinearUptoRow.holds Try.pinned (OpenSpec.upto reedsolomonLinearSpec)

/-- 'stelelaw07.ReedsolomonDistance', WHERE WHAT IT READS IS OF BULK AT MOST 1048576: true; the input reads as it did. -/
def reedsolomonDistanceUptoRow : OpenClaim := { program := "ytjepedejclfnmaa", sum := "0f265ad57a37e5f67e47f0e10d2c0d46574ddcc67bad9fd2c803dae15c5c86a4", func := "stele/stelelaw07.ReedsolomonDistance", spec := "reedsolomonDistance", unfollowed := true, recurses := true, apart := false, narrowed := true }
def ReedsolomonDistanceUptoSaid : Prop := reedsolomonDistanceUptoRow.holds Try.pinned (OpenSpec.upto reedsolomonDistanceSpec)

/-- 'stelelaw07.ReedsolomonDetects', WHERE WHAT IT READS IS OF BULK AT MOST 1048576: true; the input reads as it did. -/
def reedsolomonDetectsUptoRow : OpenClaim := { program := "ytjepedejclfnmaa", sum := "0f265ad57a37e5f67e47f0e10d2c0d46574ddcc67bad9fd2c803dae15c5c86a4", func := "stele/stelelaw07.ReedsolomonDetects", spec := "reedsolomonDetects", unfollowed := true, recurses := true, apart := false, narrowed := true }
def ReedsolomonDetectsUptoSaid : Prop := reedsolomonDetectsUptoRow.holds Try.pinned (OpenSpec.upto reedsolomonDetectsSpec)

/-- 'stelelaw07.ReedsolomonShortens', WHERE WHAT IT READS IS OF BULK AT MOST 1048576: true; the input reads as it did. -/
def reedsolomonShortensUptoRow : OpenClaim := { program := "ytjepedejclfnmaa", sum := "0f265ad57a37e5f67e47f0e10d2c0d46574ddcc67bad9fd2c803dae15c5c86a4", func := "stele/stelelaw07.ReedsolomonShortens", spec := "reedsolomonShortens", unfollowed := true, recurses := true, apart := false, narrowed := true }
def ReedsolomonShortensUptoSaid : Prop := reedsolomonShortensUptoRow.holds Try.pinned (OpenSpec.upto reedsolomonShortensSpec)

/-- 'stelelaw07.ReedsolomonRoots', WHERE WHAT IT READS IS OF BULK AT MOST 1048576: true; the input reads as it did. -/
def reedsolomonRootsUptoRow : OpenClaim := { program := "ytjepedejclfnmaa", sum := "0f265ad57a37e5f67e47f0e10d2c0d46574ddcc67bad9fd2c803dae15c5c86a4", func := "stele/stelelaw07.ReedsolomonRoots", spec := "reedsolomonRoots", unfollowed := true, recurses := true, apart := false, narrowed := true }
def ReedsolomonRootsUptoSaid : Prop := reedsolomonRootsUptoRow.holds Try.pinned (OpenSpec.upto reedsolomonRootsSpec)

/-- 'stelelaw07.ReedsolomonEvaluates', WHERE WHAT IT READS IS OF BULK AT MOST 1048576: true; the input reads as it did. -/
def reedsolomonEvaluatesUptoRow : OpenClaim := { program := "ytjepedejclfnmaa", sum := "0f265ad57a37e5f67e47f0e10d2c0d46574ddcc67bad9fd2c803dae15c5c86a4", func := "stele/stelelaw07.ReedsolomonEvaluates", spec := "reedsolomonEvaluates", unfollowed := true, recurses := true, apart := false, narrowed := true }
def ReedsolomonEvaluatesUptoSaid : Prop := reedsolomonEvaluatesUptoRow.holds Try.pinned (OpenSpec.upto reedsolomonEvaluatesSpec)

end Rows
end Go.Proofs.Ytjepedejclfnmaa
