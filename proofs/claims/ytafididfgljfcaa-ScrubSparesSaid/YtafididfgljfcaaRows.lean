/-
  No cell of these rows narrows 'for every input' (looked for: loops, veiled, ifaces, maps, wideKeys, modest, calm, conditions, laid).
  DERIVED. THE GIVEN ROWS OF THIS SEAT. 7 by the template 'for every input the law returns true; each argument reads behind the call as it read before'; 0 by the template 'total and deterministic' (their statements: YtafididfgljfcaaTotals.lean).
  GIVEN WITH THE SEED: the statements are not yours to turn. If you find one false, say at which input.
  Laid BY PROGRAM, IN A SANDBOX (cutbox-rows.mjs): the forced cells as the released guide's own fill.sh prints them over the translation fd21374e64684fbb… (all of the seat's roots in one cut). By AI agents, Wed Nov 11 2026. No macro, syntax, notation, axiom, sorry.
-/
import Derived.Test.YtafididfgljfcaaChecked
import GoSem.Claim
import GoSem.ClaimJoined
import GoSem.ClaimMapViews
import Derived.JoinedTies
import Derived.KernelRfl
namespace Go.Proofs.Ytafididfgljfcaa
/- THE CELL 'sum', in the pinned program and in every row, IS THE sha256 OF THE DUMP (.gsa) THAT YtafididfgljfcaaProg.lean LOADS. Nothing in Lean hashes anything: it is a label: what it is worth is what the hold of that sum in a sandbox is worth. -/
noncomputable def Try.pinned : Pinned := { name := "ytafididfgljfcaa", sum := "fd21374e64684fbb0885da2db04ffa7de20086a3626a1b373c629c65877f9b7a", checked := Try.checked }
namespace Rows
def none {H : Type} : Left H := { results := [], args := [] }

/-- 'stelelaw55.ScrubAssesses': WHATEVER THE INPUT: true; the input reads as it did. -/
def scrubAssessesSpec : ChangeSpec := { name := "scrubAssesses", fn := fun _ => fun
  | [d1, d2] => { results := [.lit (.bool true)], args := [d1, d2] }
  | _ => none }
def scrubAssessesRow : OpenClaim := { program := "ytafididfgljfcaa", sum := "fd21374e64684fbb0885da2db04ffa7de20086a3626a1b373c629c65877f9b7a", func := "stele/stelelaw55.ScrubAssesses", spec := "scrubAssesses", unfollowed := true, recurses := true, plainKeys := false, apart := false }
def ScrubAssessesSaid : Prop := scrubAssessesRow.holds Try.pinned (OpenSpec.ofChange scrubAssessesSpec)

/-- ITS FALSE NEIGHBOUR: 'it returns false'. Refute it at one input. -/
def scrubAssessesWrong : ChangeSpec := { name := "scrubAssesses", fn := fun _ => fun
  | [d1, d2] => { results := [.lit (.bool false)], args := [d1, d2] }
  | _ => none }
def ScrubAssessesWrongFalsely : Prop := scrubAssessesRow.holds Try.pinned (OpenSpec.ofChange scrubAssessesWrong)

/-- 'stelelaw55.ScrubDue': WHATEVER THE INPUT: true; the input reads as it did. -/
def scrubDueSpec : ChangeSpec := { name := "scrubDue", fn := fun _ => fun
  | [d1, d2, d3] => { results := [.lit (.bool true)], args := [d1, d2, d3] }
  | _ => none }
def scrubDueRow : OpenClaim := { program := "ytafididfgljfcaa", sum := "fd21374e64684fbb0885da2db04ffa7de20086a3626a1b373c629c65877f9b7a", func := "stele/stelelaw55.ScrubDue", spec := "scrubDue", unfollowed := true, recurses := true, plainKeys := false, apart := false }
def ScrubDueSaid : Prop := scrubDueRow.holds Try.pinned (OpenSpec.ofChange scrubDueSpec)

/-- ITS FALSE NEIGHBOUR: 'it returns false'. Refute it at one input. -/
def scrubDueWrong : ChangeSpec := { name := "scrubDue", fn := fun _ => fun
  | [d1, d2, d3] => { results := [.lit (.bool false)], args := [d1, d2, d3] }
  | _ => none }
def ScrubDueWrongFalsely : Prop := scrubDueRow.holds Try.pinned (OpenSpec.ofChange scrubDueWrong)

/-- 'stelelaw55.ScrubReserve': WHATEVER THE INPUT: true; the input reads as it did. -/
def scrubReserveSpec : ChangeSpec := { name := "scrubReserve", fn := fun _ => fun
  | [d1, d2] => { results := [.lit (.bool true)], args := [d1, d2] }
  | _ => none }
def scrubReserveRow : OpenClaim := { program := "ytafididfgljfcaa", sum := "fd21374e64684fbb0885da2db04ffa7de20086a3626a1b373c629c65877f9b7a", func := "stele/stelelaw55.ScrubReserve", spec := "scrubReserve", unfollowed := true, recurses := true, plainKeys := false, apart := false }
def ScrubReserveSaid : Prop := scrubReserveRow.holds Try.pinned (OpenSpec.ofChange scrubReserveSpec)

/-- ITS FALSE NEIGHBOUR: 'it returns false'. Refute it at one input. -/
def scrubReserveWrong : ChangeSpec := { name := "scrubReserve", fn := fun _ => fun
  | [d1, d2] => { results := [.lit (.bool false)], args := [d1, d2] }
  | _ => none }
def ScrubReserveWrongFalsely : Prop := scrubReserveRow.holds Try.pinned (OpenSpec.ofChange scrubReserveWrong)

/-- 'stelelaw55.ScrubRadius': WHATEVER THE INPUT: true; the input reads as it did. -/
def scrubRadiusSpec : ChangeSpec := { name := "scrubRadius", fn := fun _ => fun
  | [d] => { results := [.lit (.bool true)], args := [d] }
  | _ => none }
def scrubRadiusRow : OpenClaim := { program := "ytafididfgljfcaa", sum := "fd21374e64684fbb0885da2db04ffa7de20086a3626a1b373c629c65877f9b7a", func := "stele/stelelaw55.ScrubRadius", spec := "scrubRadius", unfollowed := true, recurses := true, plainKeys := false, apart := false }
def ScrubRadiusSaid : Prop := scrubRadiusRow.holds Try.pinned (OpenSpec.ofChange scrubRadiusSpec)

/-- ITS FALSE NEIGHBOUR: 'it returns false'. Refute it at one input. -/
def scrubRadiusWrong : ChangeSpec := { name := "scrubRadius", fn := fun _ => fun
  | [d] => { results := [.lit (.bool false)], args := [d] }
  | _ => none }
def ScrubRadiusWrongFalsely : Prop := scrubRadiusRow.holds Try.pinned (OpenSpec.ofChange scrubRadiusWrong)

/-- 'stelelaw55.ScrubMonotone': WHATEVER THE INPUT: true; the input reads as it did. -/
def scrubMonotoneSpec : ChangeSpec := { name := "scrubMonotone", fn := fun _ => fun
  | [d1, d2, d3] => { results := [.lit (.bool true)], args := [d1, d2, d3] }
  | _ => none }
def scrubMonotoneRow : OpenClaim := { program := "ytafididfgljfcaa", sum := "fd21374e64684fbb0885da2db04ffa7de20086a3626a1b373c629c65877f9b7a", func := "stele/stelelaw55.ScrubMonotone", spec := "scrubMonotone", unfollowed := true, recurses := true, plainKeys := false, apart := false }
def ScrubMonotoneSaid : Prop := scrubMonotoneRow.holds Try.pinned (OpenSpec.ofChange scrubMonotoneSpec)

/-- ITS FALSE NEIGHBOUR: 'it returns false'. Refute it at one input. -/
def scrubMonotoneWrong : ChangeSpec := { name := "scrubMonotone", fn := fun _ => fun
  | [d1, d2, d3] => { results := [.lit (.bool false)], args := [d1, d2, d3] }
  | _ => none }
def ScrubMonotoneWrongFalsely : Prop := scrubMonotoneRow.holds Try.pinned (OpenSpec.ofChange scrubMonotoneWrong)

/-- 'stelelaw55.ScrubOrder': WHATEVER THE INPUT: true; the input reads as it did. -/
def scrubOrderSpec : ChangeSpec := { name := "scrubOrder", fn := fun _ => fun
  | [d1, d2, d3] => { results := [.lit (.bool true)], args := [d1, d2, d3] }
  | _ => none }
def scrubOrderRow : OpenClaim := { program := "ytafididfgljfcaa", sum := "fd21374e64684fbb0885da2db04ffa7de20086a3626a1b373c629c65877f9b7a", func := "stele/stelelaw55.ScrubOrder", spec := "scrubOrder", unfollowed := true, recurses := true, plainKeys := false, apart := false }
def ScrubOrderSaid : Prop := scrubOrderRow.holds Try.pinned (OpenSpec.ofChange scrubOrderSpec)

/-- ITS FALSE NEIGHBOUR: 'it returns false'. Refute it at one input. -/
def scrubOrderWrong : ChangeSpec := { name := "scrubOrder", fn := fun _ => fun
  | [d1, d2, d3] => { results := [.lit (.bool false)], args := [d1, d2, d3] }
  | _ => none }
def ScrubOrderWrongFalsely : Prop := scrubOrderRow.holds Try.pinned (OpenSpec.ofChange scrubOrderWrong)

/-- 'stelelaw55.ScrubSpares': WHATEVER THE INPUT: true; the input reads as it did. -/
def scrubSparesSpec : ChangeSpec := { name := "scrubSpares", fn := fun _ => fun
  | [d1, d2, d3] => { results := [.lit (.bool true)], args := [d1, d2, d3] }
  | _ => none }
def scrubSparesRow : OpenClaim := { program := "ytafididfgljfcaa", sum := "fd21374e64684fbb0885da2db04ffa7de20086a3626a1b373c629c65877f9b7a", func := "stele/stelelaw55.ScrubSpares", spec := "scrubSpares", unfollowed := true, recurses := true, plainKeys := false, apart := false }
def ScrubSparesSaid : Prop := scrubSparesRow.holds Try.pinned (OpenSpec.ofChange scrubSparesSpec)

/-- ITS FALSE NEIGHBOUR: 'it returns false'. Refute it at one input. -/
def scrubSparesWrong : ChangeSpec := { name := "scrubSpares", fn := fun _ => fun
  | [d1, d2, d3] => { results := [.lit (.bool false)], args := [d1, d2, d3] }
  | _ => none }
def ScrubSparesWrongFalsely : Prop := scrubSparesRow.holds Try.pinned (OpenSpec.ofChange scrubSparesWrong)

/- THE SECOND FORM. 'bulk': how many values and letters a reading holds, each counted each time it is reached (what is shared counts as often as it is met; a slice's spare places count too). A statement '..UptoSaid' is the law's where the arguments, and the package variables that the reading takes, are together of bulk at most 1048576: NARROWER than '..Said'. Prove '..Said' where nothing that the law and all that it calls make is longer than what came in: it says more and counts as full. Else prove '..UptoSaid'. A law counts once. -/
mutual
def uptoBulk {H : Type} : DataW H → Nat
  | .lit (.string bytes) => bytes.length + 1
  | .lit _ => 1
  | .nil => 1
  | .ptr d => uptoBulk d + 1
  | .slice elems spare => uptoBulkAll elems + uptoBulkAll spare + 1
  | .agg parts => uptoBulkAll parts + 1
  | .iface _ d => uptoBulk d + 1
  | .map entries => uptoBulkEntries entries + 1
  | .held _ => 1
def uptoBulkAll {H : Type} : List (DataW H) → Nat
  | [] => 0
  | d :: r => uptoBulk d + uptoBulkAll r
def uptoBulkEntries {H : Type} : List (Lit × DataW H) → Nat
  | [] => 0
  | x :: r => uptoBulkEntry x + uptoBulkEntries r
def uptoBulkEntry {H : Type} : Lit × DataW H → Nat
  | (.string bytes, d) => bytes.length + uptoBulk d + 1
  | (_, d) => uptoBulk d + 1
 end
def uptoSmall : (H : Type) → List (DataW H) → Bool := fun _ ds => decide (uptoBulkAll ds ≤ 1048576)
def OpenSpec.upto (s : _root_.Go.ChangeSpec) : _root_.Go.OpenSpec := { _root_.Go.OpenSpec.ofChange s with cond := some uptoSmall }

/-- 'stelelaw55.ScrubAssesses', WHERE WHAT IT READS IS OF BULK AT MOST 1048576: true; the input reads as it did. -/
def scrubAssessesUptoRow : OpenClaim := { program := "ytafididfgljfcaa", sum := "fd21374e64684fbb0885da2db04ffa7de20086a3626a1b373c629c65877f9b7a", func := "stele/stelelaw55.ScrubAssesses", spec := "scrubAssesses", unfollowed := true, recurses := true, plainKeys := false, apart := false, narrowed := true }
def ScrubAssessesUptoSaid : Prop := scrubAssessesUptoRow.holds Try.pinned (OpenSpec.upto scrubAssessesSpec)

/-- 'stelelaw55.ScrubDue', WHERE WHAT IT READS IS OF BULK AT MOST 1048576: true; the input reads as it did. -/
def scrubDueUptoRow : OpenClaim := { program := "ytafididfgljfcaa", sum := "fd21374e64684fbb0885da2db04ffa7de20086a3626a1b373c629c65877f9b7a", func := "stele/stelelaw55.ScrubDue", spec := "scrubDue", unfollowed := true, recurses := true, plainKeys := false, apart := false, narrowed := true }
def ScrubDueUptoSaid : Prop := scrubDueUptoRow.holds Try.pinned (OpenSpec.upto scrubDueSpec)

/-- 'stelelaw55.ScrubReserve', WHERE WHAT IT READS IS OF BULK AT MOST 1048576: true; the input reads as it did. -/
def scrubReserveUptoRow : OpenClaim := { program := "ytafididfgljfcaa", sum := "fd21374e64684fbb0885da2db04ffa7de20086a3626a1b373c629c65877f9b7a", func := "stele/stelelaw55.ScrubReserve", spec := "scrubReserve", unfollowed := true, recurses := true, plainKeys := false, apart := false, narrowed := true }
def ScrubReserveUptoSaid : Prop := scrubReserveUptoRow.holds Try.pinned (OpenSpec.upto scrubReserveSpec)

/-- 'stelelaw55.ScrubRadius', WHERE WHAT IT READS IS OF BULK AT MOST 1048576: true; the input reads as it did. -/
def scrubRadiusUptoRow : OpenClaim := { program := "ytafididfgljfcaa", sum := "fd21374e64684fbb0885da2db04ffa7de20086a3626a1b373c629c65877f9b7a", func := "stele/stelelaw55.ScrubRadius", spec := "scrubRadius", unfollowed := true, recurses := true, plainKeys := false, apart := false, narrowed := true }
def ScrubRadiusUptoSaid : Prop := scrubRadiusUptoRow.holds Try.pinned (OpenSpec.upto scrubRadiusSpec)

/-- 'stelelaw55.ScrubMonotone', WHERE WHAT IT READS IS OF BULK AT MOST 1048576: true; the input reads as it did. -/
def scrubMonotoneUptoRow : OpenClaim := { program := "ytafididfgljfcaa", sum := "fd21374e64684fbb0885da2db04ffa7de20086a3626a1b373c629c65877f9b7a", func := "stele/stelelaw55.ScrubMonotone", spec := "scrubMonotone", unfollowed := true, recurses := true, plainKeys := false, apart := false, narrowed := true }
def ScrubMonotoneUptoSaid : Prop := scrubMonotoneUptoRow.holds Try.pinned (OpenSpec.upto scrubMonotoneSpec)

/-- 'stelelaw55.ScrubOrder', WHERE WHAT IT READS IS OF BULK AT MOST 1048576: true; the input reads as it did. -/
def scrubOrderUptoRow : OpenClaim := { program := "ytafididfgljfcaa", sum := "fd21374e64684fbb0885da2db04ffa7de20086a3626a1b373c629c65877f9b7a", func := "stele/stelelaw55.ScrubOrder", spec := "scrubOrder", unfollowed := true, recurses := true, plainKeys := false, apart := false, narrowed := true }
def ScrubOrderUptoSaid : Prop := scrubOrderUptoRow.holds Try.pinned (OpenSpec.upto scrubOrderSpec)

/-- 'stelelaw55.ScrubSpares', WHERE WHAT IT READS IS OF BULK AT MOST 1048576: true; the input reads as it did. -/
def scrubSparesUptoRow : OpenClaim := { program := "ytafididfgljfcaa", sum := "fd21374e64684fbb0885da2db04ffa7de20086a3626a1b373c629c65877f9b7a", func := "stele/stelelaw55.ScrubSpares", spec := "scrubSpares", unfollowed := true, recurses := true, plainKeys := false, apart := false, narrowed := true }
def ScrubSparesUptoSaid : Prop := scrubSparesUptoRow.holds Try.pinned (OpenSpec.upto scrubSparesSpec)

end Rows
end Go.Proofs.Ytafididfgljfcaa
