/-
  No cell of these rows narrows 'for every input' (looked for: loops, veiled, ifaces, maps, wideKeys, modest, calm, conditions, laid).
  DERIVED. THE GIVEN ROWS OF THIS SEAT. 5 by the template 'for every input the law returns true; each argument reads behind the call as it read before'; 0 by the template 'total and deterministic' (their statements: YtfamldpmpjdlpaaTotals.lean).
  GIVEN WITH THE SEED: the statements are not yours to turn. If you find one false, say at which input.
  Laid BY PROGRAM, IN A SANDBOX (cutbox-rows.mjs): the forced cells as the released guide's own fill.sh prints them over the translation f161c4ef3b503580… (all of the seat's roots in one cut). By AI agents, Wed Nov 11 2026. No macro, syntax, notation, axiom, sorry.
-/
import Derived.Test.YtfamldpmpjdlpaaChecked
import GoSem.Claim
import GoSem.ClaimJoined
import GoSem.ClaimMapViews
import Derived.JoinedTies
import Derived.KernelRfl
namespace Go.Proofs.Ytfamldpmpjdlpaa
/- THE CELL 'sum', in the pinned program and in every row, IS THE sha256 OF THE DUMP (.gsa) THAT YtfamldpmpjdlpaaProg.lean LOADS. Nothing in Lean hashes anything: it is a label: what it is worth is what the hold of that sum in a sandbox is worth. -/
noncomputable def Try.pinned : Pinned := { name := "ytfamldpmpjdlpaa", sum := "f161c4ef3b50358021673c2f7e8e66c75d69247c835d7fa12b5687ce8c986a94", checked := Try.checked }
namespace Rows
def none {H : Type} : Left H := { results := [], args := [] }

/-- 'rushlightlaw08.KindOnce': WHATEVER THE INPUT: true; the input reads as it did. -/
def kindOnceSpec : ChangeSpec := { name := "kindOnce", fn := fun _ => fun
  | [d1, d2, d3] => { results := [.lit (.bool true)], args := [d1, d2, d3] }
  | _ => none }
def kindOnceRow : OpenClaim := { program := "ytfamldpmpjdlpaa", sum := "f161c4ef3b50358021673c2f7e8e66c75d69247c835d7fa12b5687ce8c986a94", func := "rushlight/rushlightlaw08.KindOnce", spec := "kindOnce", unfollowed := true, recurses := true, apart := false }
def KindOnceSaid : Prop := kindOnceRow.holds Try.pinned (OpenSpec.ofChange kindOnceSpec)

/-- ITS FALSE NEIGHBOUR: 'it returns false'. Refute it at one input. -/
def kindOnceWrong : ChangeSpec := { name := "kindOnce", fn := fun _ => fun
  | [d1, d2, d3] => { results := [.lit (.bool false)], args := [d1, d2, d3] }
  | _ => none }
def KindOnceWrongFalsely : Prop := kindOnceRow.holds Try.pinned (OpenSpec.ofChange kindOnceWrong)

/-- 'rushlightlaw08.KindFinds': WHATEVER THE INPUT: true; the input reads as it did. -/
def kindFindsSpec : ChangeSpec := { name := "kindFinds", fn := fun _ => fun
  | [d1, d2, d3] => { results := [.lit (.bool true)], args := [d1, d2, d3] }
  | _ => none }
def kindFindsRow : OpenClaim := { program := "ytfamldpmpjdlpaa", sum := "f161c4ef3b50358021673c2f7e8e66c75d69247c835d7fa12b5687ce8c986a94", func := "rushlight/rushlightlaw08.KindFinds", spec := "kindFinds", unfollowed := true, recurses := true, apart := false }
def KindFindsSaid : Prop := kindFindsRow.holds Try.pinned (OpenSpec.ofChange kindFindsSpec)

/-- ITS FALSE NEIGHBOUR: 'it returns false'. Refute it at one input. -/
def kindFindsWrong : ChangeSpec := { name := "kindFinds", fn := fun _ => fun
  | [d1, d2, d3] => { results := [.lit (.bool false)], args := [d1, d2, d3] }
  | _ => none }
def KindFindsWrongFalsely : Prop := kindFindsRow.holds Try.pinned (OpenSpec.ofChange kindFindsWrong)

/-- 'rushlightlaw08.KindLies': WHATEVER THE INPUT: true; the input reads as it did. -/
def kindLiesSpec : ChangeSpec := { name := "kindLies", fn := fun _ => fun
  | [d] => { results := [.lit (.bool true)], args := [d] }
  | _ => none }
def kindLiesRow : OpenClaim := { program := "ytfamldpmpjdlpaa", sum := "f161c4ef3b50358021673c2f7e8e66c75d69247c835d7fa12b5687ce8c986a94", func := "rushlight/rushlightlaw08.KindLies", spec := "kindLies", unfollowed := true, recurses := true, apart := false }
def KindLiesSaid : Prop := kindLiesRow.holds Try.pinned (OpenSpec.ofChange kindLiesSpec)

/-- ITS FALSE NEIGHBOUR: 'it returns false'. Refute it at one input. -/
def kindLiesWrong : ChangeSpec := { name := "kindLies", fn := fun _ => fun
  | [d] => { results := [.lit (.bool false)], args := [d] }
  | _ => none }
def KindLiesWrongFalsely : Prop := kindLiesRow.holds Try.pinned (OpenSpec.ofChange kindLiesWrong)

/-- 'rushlightlaw08.KindMakes': WHATEVER THE INPUT: true; the input reads as it did. -/
def kindMakesSpec : ChangeSpec := { name := "kindMakes", fn := fun _ => fun
  | [d] => { results := [.lit (.bool true)], args := [d] }
  | _ => none }
def kindMakesRow : OpenClaim := { program := "ytfamldpmpjdlpaa", sum := "f161c4ef3b50358021673c2f7e8e66c75d69247c835d7fa12b5687ce8c986a94", func := "rushlight/rushlightlaw08.KindMakes", spec := "kindMakes", unfollowed := true, recurses := true, apart := false }
def KindMakesSaid : Prop := kindMakesRow.holds Try.pinned (OpenSpec.ofChange kindMakesSpec)

/-- ITS FALSE NEIGHBOUR: 'it returns false'. Refute it at one input. -/
def kindMakesWrong : ChangeSpec := { name := "kindMakes", fn := fun _ => fun
  | [d] => { results := [.lit (.bool false)], args := [d] }
  | _ => none }
def KindMakesWrongFalsely : Prop := kindMakesRow.holds Try.pinned (OpenSpec.ofChange kindMakesWrong)

/-- 'rushlightlaw08.KindNone': WHATEVER THE INPUT: true; the input reads as it did. -/
def kindNoneSpec : ChangeSpec := { name := "kindNone", fn := fun _ => fun
  | [d1, d2] => { results := [.lit (.bool true)], args := [d1, d2] }
  | _ => none }
def kindNoneRow : OpenClaim := { program := "ytfamldpmpjdlpaa", sum := "f161c4ef3b50358021673c2f7e8e66c75d69247c835d7fa12b5687ce8c986a94", func := "rushlight/rushlightlaw08.KindNone", spec := "kindNone", unfollowed := true, recurses := true, apart := false }
def KindNoneSaid : Prop := kindNoneRow.holds Try.pinned (OpenSpec.ofChange kindNoneSpec)

/-- ITS FALSE NEIGHBOUR: 'it returns false'. Refute it at one input. -/
def kindNoneWrong : ChangeSpec := { name := "kindNone", fn := fun _ => fun
  | [d1, d2] => { results := [.lit (.bool false)], args := [d1, d2] }
  | _ => none }
def KindNoneWrongFalsely : Prop := kindNoneRow.holds Try.pinned (OpenSpec.ofChange kindNoneWrong)

/- THE SECOND FORM. 'bulk': how many values and letters a reading holds, each counted each time it is reached (what is shared counts as often as it is met; a slice's spare places count too). A statement '..UptoSaid' is the law's where the arguments, and the package variables that the reading takes, are together of bulk at most 1048576: NARROWER than '..Said'. Prove '..Said' where nothing that the law and all that it calls make is longer than what came in: it says more and counts as full. Else prove '..UptoSaid'. A law counts once. -/
mutual
def uptoBulk {H : Type} : DataW H → Nat
  | .lit (.string bytes) => bytes.length + 1
  | .lit _ => 1
  | .nil => 1
  | .ptr d => uptoBulk d + 1
  | .slice elems spare => uptoBulkAll elems + uptoBulkAll spare + 1
  | .agg parts => uptoBulkAll parts + 1
  | .iface _ d => uptoBulk d + 1
  | .map entries => uptoBulkEntries entries + 1
  | .held _ => 1
def uptoBulkAll {H : Type} : List (DataW H) → Nat
  | [] => 0
  | d :: r => uptoBulk d + uptoBulkAll r
def uptoBulkEntries {H : Type} : List (Lit × DataW H) → Nat
  | [] => 0
  | x :: r => uptoBulkEntry x + uptoBulkEntries r
def uptoBulkEntry {H : Type} : Lit × DataW H → Nat
  | (.string bytes, d) => bytes.length + uptoBulk d + 1
  | (_, d) => uptoBulk d + 1
 end
def uptoSmall : (H : Type) → List (DataW H) → Bool := fun _ ds => decide (uptoBulkAll ds ≤ 1048576)
def OpenSpec.upto (s : _root_.Go.ChangeSpec) : _root_.Go.OpenSpec := { _root_.Go.OpenSpec.ofChange s with cond := some uptoSmall }

/-- 'rushlightlaw08.KindOnce', WHERE WHAT IT READS IS OF BULK AT MOST 1048576: true; the input reads as it did. -/
def kindOnceUptoRow : OpenClaim := { program := "ytfamldpmpjdlpaa", sum := "f161c4ef3b50358021673c2f7e8e66c75d69247c835d7fa12b5687ce8c986a94", func := "rushlight/rushlightlaw08.KindOnce", spec := "kindOnce", unfollowed := true, recurses := true, apart := false, narrowed := true }
def KindOnceUptoSaid : Prop := kindOnceUptoRow.holds Try.pinned (OpenSpec.upto kindOnceSpec)

/-- 'rushlightlaw08.KindFinds', WHERE WHAT IT READS IS OF BULK AT MOST 1048576: true; the input reads as it did. -/
def kindFindsUptoRow : OpenClaim := { program := "ytfamldpmpjdlpaa", sum := "f161c4ef3b50358021673c2f7e8e66c75d69247c835d7fa12b5687ce8c986a94", func := "rushlight/rushlightlaw08.KindFinds", spec := "kindFinds", unfollowed := true, recurses := true, apart := false, narrowed := true }
def KindFindsUptoSaid : Prop := kindFindsUptoRow.holds Try.pinned (OpenSpec.upto kindFindsSpec)

/-- 'rushlightlaw08.KindLies', WHERE WHAT IT READS IS OF BULK AT MOST 1048576: true; the input reads as it did. -/
def kindLiesUptoRow : OpenClaim := { program := "ytfamldpmpjdlpaa", sum := "f161c4ef3b50358021673c2f7e8e66c75d69247c835d7fa12b5687ce8c986a94", func := "rushlight/rushlightlaw08.KindLies", spec := "kindLies", unfollowed := true, recurses := true, apart := false, narrowed := true }
def KindLiesUptoSaid : Prop := kindLiesUptoRow.holds Try.pinned (OpenSpec.upto kindLiesSpec)

/-- 'rushlightlaw08.KindMakes', WHERE WHAT IT READS IS OF BULK AT MOST 1048576: true; the input reads as it did. -/
def kindMakesUptoRow : OpenClaim := { program := "ytfamldpmpjdlpaa", sum := "f161c4ef3b50358021673c2f7e8e66c75d69247c835d7fa12b5687ce8c986a94", func := "rushlight/rushlightlaw08.KindMakes", spec := "kindMakes", unfollowed := true, recurses := true, apart := false, narrowed := true }
def KindMakesUptoSaid : Prop := kindMakesUptoRow.holds Try.pinned (OpenSpec.upto kindMakesSpec)

/-- 'rushlightlaw08.KindNone', WHERE WHAT IT READS IS OF BULK AT MOST 1048576: true; the input reads as it did. -/
def kindNoneUptoRow : OpenClaim := { program := "ytfamldpmpjdlpaa", sum := "f161c4ef3b50358021673c2f7e8e66c75d69247c835d7fa12b5687ce8c986a94", func := "rushlight/rushlightlaw08.KindNone", spec := "kindNone", unfollowed := true, recurses := true, apart := false, narrowed := true }
def KindNoneUptoSaid : Prop := kindNoneUptoRow.holds Try.pinned (OpenSpec.upto kindNoneSpec)

end Rows
end Go.Proofs.Ytfamldpmpjdlpaa
