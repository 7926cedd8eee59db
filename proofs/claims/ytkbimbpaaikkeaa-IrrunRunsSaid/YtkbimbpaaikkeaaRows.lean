/-
  No cell of these rows narrows 'for every input' (looked for: loops, veiled, ifaces, maps, wideKeys, modest, calm, conditions, laid).
  DERIVED. THE GIVEN ROWS OF THIS SEAT. 4 by the template 'for every input the law returns true; each argument reads behind the call as it read before'; 0 by the template 'total and deterministic' (their statements: YtkbimbpaaikkeaaTotals.lean).
  GIVEN WITH THE SEED: the statements are not yours to turn. If you find one false, say at which input.
  Laid BY PROGRAM, IN A SANDBOX (cutbox-rows.mjs): the forced cells as the released guide's own fill.sh prints them over the translation 41d5131eba3ac4d3… (all of the seat's roots in one cut). By AI agents, Wed Nov 11 2026. No macro, syntax, notation, axiom, sorry.
-/
import Derived.Test.YtkbimbpaaikkeaaChecked
import GoSem.Claim
import GoSem.ClaimJoined
import GoSem.ClaimMapViews
import Derived.JoinedTies
import Derived.KernelRfl
namespace Go.Proofs.Ytkbimbpaaikkeaa
/- THE CELL 'sum', in the pinned program and in every row, IS THE sha256 OF THE DUMP (.gsa) THAT YtkbimbpaaikkeaaProg.lean LOADS. Nothing in Lean hashes anything: it is a label: what it is worth is what the hold of that sum in a sandbox is worth. -/
noncomputable def Try.pinned : Pinned := { name := "ytkbimbpaaikkeaa", sum := "41d5131eba3ac4d33f06923aff6cf13969af9a082cb13741fcf2db17e062b572", checked := Try.checked }
namespace Rows
def none {H : Type} : Left H := { results := [], args := [] }

/-- 'rushlightlaw14.IrrunRuns': WHATEVER THE INPUT: true; the input reads as it did. -/
def irrunRunsSpec : ChangeSpec := { name := "irrunRuns", fn := fun _ => fun
  | [d1, d2, d3] => { results := [.lit (.bool true)], args := [d1, d2, d3] }
  | _ => none }
def irrunRunsRow : OpenClaim := { program := "ytkbimbpaaikkeaa", sum := "41d5131eba3ac4d33f06923aff6cf13969af9a082cb13741fcf2db17e062b572", func := "rushlight/rushlightlaw14.IrrunRuns", spec := "irrunRuns", unfollowed := true, recurses := true, apart := false }
def IrrunRunsSaid : Prop := irrunRunsRow.holds Try.pinned (OpenSpec.ofChange irrunRunsSpec)

/-- ITS FALSE NEIGHBOUR: 'it returns false'. Refute it at one input. -/
def irrunRunsWrong : ChangeSpec := { name := "irrunRuns", fn := fun _ => fun
  | [d1, d2, d3] => { results := [.lit (.bool false)], args := [d1, d2, d3] }
  | _ => none }
def IrrunRunsWrongFalsely : Prop := irrunRunsRow.holds Try.pinned (OpenSpec.ofChange irrunRunsWrong)

/-- 'rushlightlaw14.IrrunFns': WHATEVER THE INPUT: true; the input reads as it did. -/
def irrunFnsSpec : ChangeSpec := { name := "irrunFns", fn := fun _ => fun
  | [d1, d2, d3] => { results := [.lit (.bool true)], args := [d1, d2, d3] }
  | _ => none }
def irrunFnsRow : OpenClaim := { program := "ytkbimbpaaikkeaa", sum := "41d5131eba3ac4d33f06923aff6cf13969af9a082cb13741fcf2db17e062b572", func := "rushlight/rushlightlaw14.IrrunFns", spec := "irrunFns", unfollowed := true, recurses := true, apart := false }
def IrrunFnsSaid : Prop := irrunFnsRow.holds Try.pinned (OpenSpec.ofChange irrunFnsSpec)

/-- ITS FALSE NEIGHBOUR: 'it returns false'. Refute it at one input. -/
def irrunFnsWrong : ChangeSpec := { name := "irrunFns", fn := fun _ => fun
  | [d1, d2, d3] => { results := [.lit (.bool false)], args := [d1, d2, d3] }
  | _ => none }
def IrrunFnsWrongFalsely : Prop := irrunFnsRow.holds Try.pinned (OpenSpec.ofChange irrunFnsWrong)

/-- 'rushlightlaw14.IrrunPlaces': WHATEVER THE INPUT: true; the input reads as it did. -/
def irrunPlacesSpec : ChangeSpec := { name := "irrunPlaces", fn := fun _ => fun
  | [d] => { results := [.lit (.bool true)], args := [d] }
  | _ => none }
def irrunPlacesRow : OpenClaim := { program := "ytkbimbpaaikkeaa", sum := "41d5131eba3ac4d33f06923aff6cf13969af9a082cb13741fcf2db17e062b572", func := "rushlight/rushlightlaw14.IrrunPlaces", spec := "irrunPlaces", unfollowed := true, recurses := true, apart := false }
def IrrunPlacesSaid : Prop := irrunPlacesRow.holds Try.pinned (OpenSpec.ofChange irrunPlacesSpec)

/-- ITS FALSE NEIGHBOUR: 'it returns false'. Refute it at one input. -/
def irrunPlacesWrong : ChangeSpec := { name := "irrunPlaces", fn := fun _ => fun
  | [d] => { results := [.lit (.bool false)], args := [d] }
  | _ => none }
def IrrunPlacesWrongFalsely : Prop := irrunPlacesRow.holds Try.pinned (OpenSpec.ofChange irrunPlacesWrong)

/-- 'rushlightlaw14.IrrunFuel': WHATEVER THE INPUT: true; the input reads as it did. -/
def irrunFuelSpec : ChangeSpec := { name := "irrunFuel", fn := fun _ => fun
  | [d1, d2, d3] => { results := [.lit (.bool true)], args := [d1, d2, d3] }
  | _ => none }
def irrunFuelRow : OpenClaim := { program := "ytkbimbpaaikkeaa", sum := "41d5131eba3ac4d33f06923aff6cf13969af9a082cb13741fcf2db17e062b572", func := "rushlight/rushlightlaw14.IrrunFuel", spec := "irrunFuel", unfollowed := true, recurses := true, apart := false }
def IrrunFuelSaid : Prop := irrunFuelRow.holds Try.pinned (OpenSpec.ofChange irrunFuelSpec)

/-- ITS FALSE NEIGHBOUR: 'it returns false'. Refute it at one input. -/
def irrunFuelWrong : ChangeSpec := { name := "irrunFuel", fn := fun _ => fun
  | [d1, d2, d3] => { results := [.lit (.bool false)], args := [d1, d2, d3] }
  | _ => none }
def IrrunFuelWrongFalsely : Prop := irrunFuelRow.holds Try.pinned (OpenSpec.ofChange irrunFuelWrong)

/- THE SECOND FORM. 'bulk': how many values and letters a reading holds, each counted each time it is reached (what is shared counts as often as it is met; a slice's spare places count too). A statement '..UptoSaid' is the law's where the arguments, and the package variables that the reading takes, are together of bulk at most 1048576: NARROWER than '..Said'. Prove '..Said' where nothing that the law and all that it calls make is longer than what came in: it says more and counts as full. Else prove '..UptoSaid'. A law counts once. -/
mutual
def uptoBulk {H : Type} : DataW H → Nat
  | .lit (.string bytes) => bytes.length + 1
  | .lit _ => 1
  | .nil => 1
  | .ptr d => uptoBulk d + 1
  | .slice elems spare => uptoBulkAll elems + uptoBulkAll spare + 1
  | .agg parts => uptoBulkAll parts + 1
  | .iface _ d => uptoBulk d + 1
  | .map entries => uptoBulkEntries entries + 1
  | .held _ => 1
def uptoBulkAll {H : Type} : List (DataW H) → Nat
  | [] => 0
  | d :: r => uptoBulk d + uptoBulkAll r
def uptoBulkEntries {H : Type} : List (Lit × DataW H) → Nat
  | [] => 0
  | x :: r => uptoBulkEntry x + uptoBulkEntries r
def uptoBulkEntry {H : Type} : Lit × DataW H → Nat
  | (.string bytes, d) => bytes.length + uptoBulk d + 1
  | (_, d) => uptoBulk d + 1
 end
def uptoSmall : (H : Type) → List (DataW H) → Bool := fun _ ds => decide (uptoBulkAll ds ≤ 1048576)
def OpenSpec.upto (s : _root_.Go.ChangeSpec) : _root_.Go.OpenSpec := { _root_.Go.OpenSpec.ofChange s with cond := some uptoSmall }

/-- 'rushlightlaw14.IrrunRuns', WHERE WHAT IT READS IS OF BULK AT MOST 1048576: true; the input reads as it did. -/
def irrunRunsUptoRow : OpenClaim := { program := "ytkbimbpaaikkeaa", sum := "41d5131eba3ac4d33f06923aff6cf13969af9a082cb13741fcf2db17e062b572", func := "rushlight/rushlightlaw14.IrrunRuns", spec := "irrunRuns", unfollowed := true, recurses := true, apart := false, narrowed := true }
def IrrunRunsUptoSaid : Prop := irrunRunsUptoRow.holds Try.pinned (OpenSpec.upto irrunRunsSpec)

/-- 'rushlightlaw14.IrrunFns', WHERE WHAT IT READS IS OF BULK AT MOST 1048576: true; the input reads as it did. -/
def irrunFnsUptoRow : OpenClaim := { program := "ytkbimbpaaikkeaa", sum := "41d5131eba3ac4d33f06923aff6cf13969af9a082cb13741fcf2db17e062b572", func := "rushlight/rushlightlaw14.IrrunFns", spec := "irrunFns", unfollowed := true, recurses := true, apart := false, narrowed := true }
def IrrunFnsUptoSaid : Prop := irrunFnsUptoRow.holds Try.pinned (OpenSpec.upto irrunFnsSpec)

/-- 'rushlightlaw14.IrrunPlaces', WHERE WHAT IT READS IS OF BULK AT MOST 1048576: true; the input reads as it did. -/
def irrunPlacesUptoRow : OpenClaim := { program := "ytkbimbpaaikkeaa", sum := "41d5131eba3ac4d33f06923aff6cf13969af9a082cb13741fcf2db17e062b572", func := "rushlight/rushlightlaw14.IrrunPlaces", spec := "irrunPlaces", unfollowed := true, recurses := true, apart := false, narrowed := true }
def IrrunPlacesUptoSaid : Prop := irrunPlacesUptoRow.holds Try.pinned (OpenSpec.upto irrunPlacesSpec)

/-- 'rushlightlaw14.IrrunFuel', WHERE WHAT IT READS IS OF BULK AT MOST 1048576: true; the input reads as it did. -/
def irrunFuelUptoRow : OpenClaim := { program := "ytkbimbpaaikkeaa", sum := "41d5131eba3ac4d33f06923aff6cf13969af9a082cb13741fcf2db17e062b572", func := "rushlight/rushlightlaw14.IrrunFuel", spec := "irrunFuel", unfollowed := true, recurses := true, apart := false, narrowed := true }
def IrrunFuelUptoSaid : Prop := irrunFuelUptoRow.holds Try.pinned (OpenSpec.upto irrunFuelSpec)

end Rows
end Go.Proofs.Ytkbimbpaaikkeaa
