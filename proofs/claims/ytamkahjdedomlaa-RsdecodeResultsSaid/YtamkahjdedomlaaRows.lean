/-
  No cell of these rows narrows 'for every input' (looked for: loops, veiled, ifaces, maps, wideKeys, modest, calm, conditions, laid).
  DERIVED. THE GIVEN ROWS OF THIS SEAT. 6 by the template 'for every input the law returns true; each argument reads behind the call as it read before'; 0 by the template 'total and deterministic' (their statements: YtamkahjdedomlaaTotals.lean).
  GIVEN WITH THE SEED: the statements are not yours to turn. If you find one false, say at which input.
  Laid BY PROGRAM, IN A SANDBOX (cutbox-rows.mjs): the forced cells as the released guide's own fill.sh prints them over the translation e0b20285fac480eb… (all of the seat's roots in one cut). By AI agents, Wed Nov 11 2026. No macro, syntax, notation, axiom, sorry.
-/
import Derived.Test.YtamkahjdedomlaaChecked
import GoSem.Claim
import GoSem.ClaimJoined
import GoSem.ClaimMapViews
import Derived.JoinedTies
import Derived.KernelRfl
namespace Go.Proofs.Ytamkahjdedomlaa
/- THE CELL 'sum', in the pinned program and in every row, IS THE sha256 OF THE DUMP (.gsa) THAT YtamkahjdedomlaaProg.lean LOADS. Nothing in Lean hashes anything: it is a label: what it is worth is what the hold of that sum in a sandbox is worth. -/
noncomputable def Try.pinned : Pinned := { name := "ytamkahjdedomlaa", sum := "e0b20285fac480eb1a6bf082b0e76259f2275a1db798dc27d7444183892552bc", checked := Try.checked }
namespace Rows
def none {H : Type} : Left H := { results := [], args := [] }

/-- 'stelelaw08.RsdecodeLocate': WHATEVER THE INPUT: true; the input reads as it did. -/
def rsdecodeLocateSpec : ChangeSpec := { name := "rsdecodeLocate", fn := fun _ => fun
  | [d1, d2, d3, d4, d5] => { results := [.lit (.bool true)], args := [d1, d2, d3, d4, d5] }
  | _ => none }
def rsdecodeLocateRow : OpenClaim := { program := "ytamkahjdedomlaa", sum := "e0b20285fac480eb1a6bf082b0e76259f2275a1db798dc27d7444183892552bc", func := "stele/stelelaw08.RsdecodeLocate", spec := "rsdecodeLocate", unfollowed := true, recurses := true, apart := false }
def RsdecodeLocateSaid : Prop := rsdecodeLocateRow.holds Try.pinned (OpenSpec.ofChange rsdecodeLocateSpec)

/-- ITS FALSE NEIGHBOUR: 'it returns false'. Refute it at one input. -/
def rsdecodeLocateWrong : ChangeSpec := { name := "rsdecodeLocate", fn := fun _ => fun
  | [d1, d2, d3, d4, d5] => { results := [.lit (.bool false)], args := [d1, d2, d3, d4, d5] }
  | _ => none }
def RsdecodeLocateWrongFalsely : Prop := rsdecodeLocateRow.holds Try.pinned (OpenSpec.ofChange rsdecodeLocateWrong)

/-- 'stelelaw08.RsdecodeResults': WHATEVER THE INPUT: true; the input reads as it did. -/
def rsdecodeResultsSpec : ChangeSpec := { name := "rsdecodeResults", fn := fun _ => fun
  | [d1, d2, d3] => { results := [.lit (.bool true)], args := [d1, d2, d3] }
  | _ => none }
def rsdecodeResultsRow : OpenClaim := { program := "ytamkahjdedomlaa", sum := "e0b20285fac480eb1a6bf082b0e76259f2275a1db798dc27d7444183892552bc", func := "stele/stelelaw08.RsdecodeResults", spec := "rsdecodeResults", unfollowed := true, recurses := true, apart := false }
def RsdecodeResultsSaid : Prop := rsdecodeResultsRow.holds Try.pinned (OpenSpec.ofChange rsdecodeResultsSpec)

/-- ITS FALSE NEIGHBOUR: 'it returns false'. Refute it at one input. -/
def rsdecodeResultsWrong : ChangeSpec := { name := "rsdecodeResults", fn := fun _ => fun
  | [d1, d2, d3] => { results := [.lit (.bool false)], args := [d1, d2, d3] }
  | _ => none }
def RsdecodeResultsWrongFalsely : Prop := rsdecodeResultsRow.holds Try.pinned (OpenSpec.ofChange rsdecodeResultsWrong)

/-- 'stelelaw08.RsdecodeWithinRadius': WHATEVER THE INPUT: true; the input reads as it did. -/
def rsdecodeWithinRadiusSpec : ChangeSpec := { name := "rsdecodeWithinRadius", fn := fun _ => fun
  | [d1, d2, d3, d4, d5] => { results := [.lit (.bool true)], args := [d1, d2, d3, d4, d5] }
  | _ => none }
def rsdecodeWithinRadiusRow : OpenClaim := { program := "ytamkahjdedomlaa", sum := "e0b20285fac480eb1a6bf082b0e76259f2275a1db798dc27d7444183892552bc", func := "stele/stelelaw08.RsdecodeWithinRadius", spec := "rsdecodeWithinRadius", unfollowed := true, recurses := true, apart := false }
def RsdecodeWithinRadiusSaid : Prop := rsdecodeWithinRadiusRow.holds Try.pinned (OpenSpec.ofChange rsdecodeWithinRadiusSpec)

/-- ITS FALSE NEIGHBOUR: 'it returns false'. Refute it at one input. -/
def rsdecodeWithinRadiusWrong : ChangeSpec := { name := "rsdecodeWithinRadius", fn := fun _ => fun
  | [d1, d2, d3, d4, d5] => { results := [.lit (.bool false)], args := [d1, d2, d3, d4, d5] }
  | _ => none }
def RsdecodeWithinRadiusWrongFalsely : Prop := rsdecodeWithinRadiusRow.holds Try.pinned (OpenSpec.ofChange rsdecodeWithinRadiusWrong)

/-- 'stelelaw08.RsdecodeSound': WHATEVER THE INPUT: true; the input reads as it did. -/
def rsdecodeSoundSpec : ChangeSpec := { name := "rsdecodeSound", fn := fun _ => fun
  | [d1, d2, d3] => { results := [.lit (.bool true)], args := [d1, d2, d3] }
  | _ => none }
def rsdecodeSoundRow : OpenClaim := { program := "ytamkahjdedomlaa", sum := "e0b20285fac480eb1a6bf082b0e76259f2275a1db798dc27d7444183892552bc", func := "stele/stelelaw08.RsdecodeSound", spec := "rsdecodeSound", unfollowed := true, recurses := true, apart := false }
def RsdecodeSoundSaid : Prop := rsdecodeSoundRow.holds Try.pinned (OpenSpec.ofChange rsdecodeSoundSpec)

/-- ITS FALSE NEIGHBOUR: 'it returns false'. Refute it at one input. -/
def rsdecodeSoundWrong : ChangeSpec := { name := "rsdecodeSound", fn := fun _ => fun
  | [d1, d2, d3] => { results := [.lit (.bool false)], args := [d1, d2, d3] }
  | _ => none }
def RsdecodeSoundWrongFalsely : Prop := rsdecodeSoundRow.holds Try.pinned (OpenSpec.ofChange rsdecodeSoundWrong)

/-- 'stelelaw08.RsdecodeCodeword': WHATEVER THE INPUT: true; the input reads as it did. -/
def rsdecodeCodewordSpec : ChangeSpec := { name := "rsdecodeCodeword", fn := fun _ => fun
  | [d1, d2, d3] => { results := [.lit (.bool true)], args := [d1, d2, d3] }
  | _ => none }
def rsdecodeCodewordRow : OpenClaim := { program := "ytamkahjdedomlaa", sum := "e0b20285fac480eb1a6bf082b0e76259f2275a1db798dc27d7444183892552bc", func := "stele/stelelaw08.RsdecodeCodeword", spec := "rsdecodeCodeword", unfollowed := true, recurses := true, apart := false }
def RsdecodeCodewordSaid : Prop := rsdecodeCodewordRow.holds Try.pinned (OpenSpec.ofChange rsdecodeCodewordSpec)

/-- ITS FALSE NEIGHBOUR: 'it returns false'. Refute it at one input. -/
def rsdecodeCodewordWrong : ChangeSpec := { name := "rsdecodeCodeword", fn := fun _ => fun
  | [d1, d2, d3] => { results := [.lit (.bool false)], args := [d1, d2, d3] }
  | _ => none }
def RsdecodeCodewordWrongFalsely : Prop := rsdecodeCodewordRow.holds Try.pinned (OpenSpec.ofChange rsdecodeCodewordWrong)

/-- 'stelelaw08.RsdecodeErasure': WHATEVER THE INPUT: true; the input reads as it did. -/
def rsdecodeErasureSpec : ChangeSpec := { name := "rsdecodeErasure", fn := fun _ => fun
  | [d1, d2, d3, d4] => { results := [.lit (.bool true)], args := [d1, d2, d3, d4] }
  | _ => none }
def rsdecodeErasureRow : OpenClaim := { program := "ytamkahjdedomlaa", sum := "e0b20285fac480eb1a6bf082b0e76259f2275a1db798dc27d7444183892552bc", func := "stele/stelelaw08.RsdecodeErasure", spec := "rsdecodeErasure", unfollowed := true, recurses := true, apart := false }
def RsdecodeErasureSaid : Prop := rsdecodeErasureRow.holds Try.pinned (OpenSpec.ofChange rsdecodeErasureSpec)

/-- ITS FALSE NEIGHBOUR: 'it returns false'. Refute it at one input. -/
def rsdecodeErasureWrong : ChangeSpec := { name := "rsdecodeErasure", fn := fun _ => fun
  | [d1, d2, d3, d4] => { results := [.lit (.bool false)], args := [d1, d2, d3, d4] }
  | _ => none }
def RsdecodeErasureWrongFalsely : Prop := rsdecodeErasureRow.holds Try.pinned (OpenSpec.ofChange rsdecodeErasureWrong)

/- THE SECOND FORM. 'bulk': how many values and letters a reading holds, each counted each time it is reached (what is shared counts as often as it is met; a slice's spare places count too). A statement '..UptoSaid' is the law's where the arguments, and the package variables that the reading takes, are together of bulk at most 1048576: NARROWER than '..Said'. Prove '..Said' where nothing that the law and all that it calls make is longer than what came in: it says more and counts as full. Else prove '..UptoSaid'. A law counts once. -/
mutual
def uptoBulk {H : Type} : DataW H → Nat
  | .lit (.string bytes) => bytes.length + 1
  | .lit _ => 1
  | .nil => 1
  | .ptr d => uptoBulk d + 1
  | .slice elems spare => uptoBulkAll elems + uptoBulkAll spare + 1
  | .agg parts => uptoBulkAll parts + 1
  | .iface _ d => uptoBulk d + 1
  | .map entries => uptoBulkEntries entries + 1
  | .held _ => 1
def uptoBulkAll {H : Type} : List (DataW H) → Nat
  | [] => 0
  | d :: r => uptoBulk d + uptoBulkAll r
def uptoBulkEntries {H : Type} : List (Lit × DataW H) → Nat
  | [] => 0
  | x :: r => uptoBulkEntry x + uptoBulkEntries r
def uptoBulkEntry {H : Type} : Lit × DataW H → Nat
  | (.string bytes, d) => bytes.length + uptoBulk d + 1
  | (_, d) => uptoBulk d + 1
 end
def uptoSmall : (H : Type) → List (DataW H) → Bool := fun _ ds => decide (uptoBulkAll ds ≤ 1048576)
def OpenSpec.upto (s : _root_.Go.ChangeSpec) : _root_.Go.OpenSpec := { _root_.Go.OpenSpec.ofChange s with cond := some uptoSmall }

/-- 'stelelaw08.RsdecodeLocate', WHERE WHAT IT READS IS OF BULK AT MOST 1048576: true; the input reads as it did. -/
def rsdecodeLocateUptoRow : OpenClaim := { program := "ytamkahjdedomlaa", sum := "e0b20285fac480eb1a6bf082b0e76259f2275a1db798dc27d7444183892552bc", func := "stele/stelelaw08.RsdecodeLocate", spec := "rsdecodeLocate", unfollowed := true, recurses := true, apart := false, narrowed := true }
def RsdecodeLocateUptoSaid : Prop := rsdecodeLocateUptoRow.holds Try.pinned (OpenSpec.upto rsdecodeLocateSpec)

/-- 'stelelaw08.RsdecodeResults', WHERE WHAT IT READS IS OF BULK AT MOST 1048576: true; the input reads as it did. -/
def rsdecodeResultsUptoRow : OpenClaim := { program := "ytamkahjdedomlaa", sum := "e0b20285fac480eb1a6bf082b0e76259f2275a1db798dc27d7444183892552bc", func := "stele/stelelaw08.RsdecodeResults", spec := "rsdecodeResults", unfollowed := true, recurses := true, apart := false, narrowed := true }
def RsdecodeResultsUptoSaid : Prop := rsdecodeResultsUptoRow.holds Try.pinned (OpenSpec.upto rsdecodeResultsSpec)

/-- 'stelelaw08.RsdecodeWithinRadius', WHERE WHAT IT READS IS OF BULK AT MOST 1048576: true; the input reads as it did. -/
def rsdecodeWithinRadiusUptoRow : OpenClaim := { program := "ytamkahjdedomlaa", sum := "e0b20285fac480eb1a6bf082b0e76259f2275a1db798dc27d7444183892552bc", func := "stele/stelelaw08.RsdecodeWithinRadius", spec := "rsdecodeWithinRadius", unfollowed := true, recurses := true, apart := false, narrowed := true }
def RsdecodeWithinRadiusUptoSaid : Prop := rsdecodeWithinRadiusUptoRow.holds Try.pinned (OpenSpec.upto rsdecodeWithinRadiusSpec)

/-- 'stelelaw08.RsdecodeSound', WHERE WHAT IT READS IS OF BULK AT MOST 1048576: true; the input reads as it did. -/
def rsdecodeSoundUptoRow : OpenClaim := { program := "ytamkahjdedomlaa", sum := "e0b20285fac480eb1a6bf082b0e76259f2275a1db798dc27d7444183892552bc", func := "stele/stelelaw08.RsdecodeSound", spec := "rsdecodeSound", unfollowed := true, recurses := true, apart := false, narrowed := true }
def RsdecodeSoundUptoSaid : Prop := rsdecodeSoundUptoRow.holds Try.pinned (OpenSpec.upto rsdecodeSoundSpec)

/-- 'stelelaw08.RsdecodeCodeword', WHERE WHAT IT READS IS OF BULK AT MOST 1048576: true; the input reads as it did. -/
def rsdecodeCodewordUptoRow : OpenClaim := { program := "ytamkahjdedomlaa", sum := "e0b20285fac480eb1a6bf082b0e76259f2275a1db798dc27d7444183892552bc", func := "stele/stelelaw08.RsdecodeCodeword", spec := "rsdecodeCodeword", unfollowed := true, recurses := true, apart := false, narrowed := true }
def RsdecodeCodewordUptoSaid : Prop := rsdecodeCodewordUptoRow.holds Try.pinned (OpenSpec.upto rsdecodeCodewordSpec)

/-- 'stelelaw08.RsdecodeErasure', WHERE WHAT IT READS IS OF BULK AT MOST 1048576: true; the input reads as it did. -/
def rsdecodeErasureUptoRow : OpenClaim := { program := "ytamkahjdedomlaa", sum := "e0b20285fac480eb1a6bf082b0e76259f2275a1db798dc27d7444183892552bc", func := "stele/stelelaw08.RsdecodeErasure", spec := "rsdecodeErasure", unfollowed := true, recurses := true, apart := false, narrowed := true }
def RsdecodeErasureUptoSaid : Prop := rsdecodeErasureUptoRow.holds Try.pinned (OpenSpec.upto rsdecodeErasureSpec)

end Rows
end Go.Proofs.Ytamkahjdedomlaa
