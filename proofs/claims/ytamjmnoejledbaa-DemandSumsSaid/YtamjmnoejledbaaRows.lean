/-
  No cell of these rows narrows 'for every input' (looked for: loops, veiled, ifaces, maps, wideKeys, modest, calm, conditions, laid).
  DERIVED. THE GIVEN ROWS OF THIS SEAT. 3 by the template 'for every input the law returns true; each argument reads behind the call as it read before'; 0 by the template 'total and deterministic' (their statements: YtamjmnoejledbaaTotals.lean).
  GIVEN WITH THE SEED: the statements are not yours to turn. If you find one false, say at which input.
  Laid BY PROGRAM, IN A SANDBOX (cutbox-rows.mjs): the forced cells as the released guide's own fill.sh prints them over the translation 701054550bd32c5a… (all of the seat's roots in one cut). By AI agents, Wed Nov 11 2026. No macro, syntax, notation, axiom, sorry.
-/
import Derived.Test.YtamjmnoejledbaaChecked
import GoSem.Claim
import GoSem.ClaimJoined
import GoSem.ClaimMapViews
import Derived.JoinedTies
import Derived.KernelRfl
namespace Go.Proofs.Ytamjmnoejledbaa
/- THE CELL 'sum', in the pinned program and in every row, IS THE sha256 OF THE DUMP (.gsa) THAT YtamjmnoejledbaaProg.lean LOADS. Nothing in Lean hashes anything: it is a label: what it is worth is what the hold of that sum in a sandbox is worth. -/
noncomputable def Try.pinned : Pinned := { name := "ytamjmnoejledbaa", sum := "701054550bd32c5a6fde6ace0e92822f4610a55235309fa88fe1f9d374581b28", checked := Try.checked }
namespace Rows
def none {H : Type} : Left H := { results := [], args := [] }

/-- 'paternosterlaw06.DemandSums': WHATEVER THE INPUT: true; the input reads as it did. -/
def demandSumsSpec : ChangeSpec := { name := "demandSums", fn := fun _ => fun
  | [d1, d2] => { results := [.lit (.bool true)], args := [d1, d2] }
  | _ => none }
def demandSumsRow : OpenClaim := { program := "ytamjmnoejledbaa", sum := "701054550bd32c5a6fde6ace0e92822f4610a55235309fa88fe1f9d374581b28", func := "paternoster/paternosterlaw06.DemandSums", spec := "demandSums", apart := false }
def DemandSumsSaid : Prop := demandSumsRow.holds Try.pinned (OpenSpec.ofChange demandSumsSpec)

/-- ITS FALSE NEIGHBOUR: 'it returns false'. Refute it at one input. -/
def demandSumsWrong : ChangeSpec := { name := "demandSums", fn := fun _ => fun
  | [d1, d2] => { results := [.lit (.bool false)], args := [d1, d2] }
  | _ => none }
def DemandSumsWrongFalsely : Prop := demandSumsRow.holds Try.pinned (OpenSpec.ofChange demandSumsWrong)

/-- 'paternosterlaw06.DemandDoes': WHATEVER THE INPUT: true; the input reads as it did. -/
def demandDoesSpec : ChangeSpec := { name := "demandDoes", fn := fun _ => fun
  | [d1, d2] => { results := [.lit (.bool true)], args := [d1, d2] }
  | _ => none }
def demandDoesRow : OpenClaim := { program := "ytamjmnoejledbaa", sum := "701054550bd32c5a6fde6ace0e92822f4610a55235309fa88fe1f9d374581b28", func := "paternoster/paternosterlaw06.DemandDoes", spec := "demandDoes", unfollowed := true, recurses := true, apart := false }
def DemandDoesSaid : Prop := demandDoesRow.holds Try.pinned (OpenSpec.ofChange demandDoesSpec)

/-- ITS FALSE NEIGHBOUR: 'it returns false'. Refute it at one input. -/
def demandDoesWrong : ChangeSpec := { name := "demandDoes", fn := fun _ => fun
  | [d1, d2] => { results := [.lit (.bool false)], args := [d1, d2] }
  | _ => none }
def DemandDoesWrongFalsely : Prop := demandDoesRow.holds Try.pinned (OpenSpec.ofChange demandDoesWrong)

/-- 'paternosterlaw06.DemandNone': WHATEVER THE INPUT: true; the input reads as it did. -/
def demandNoneSpec : ChangeSpec := { name := "demandNone", fn := fun _ => fun
  | [d1, d2] => { results := [.lit (.bool true)], args := [d1, d2] }
  | _ => none }
def demandNoneRow : OpenClaim := { program := "ytamjmnoejledbaa", sum := "701054550bd32c5a6fde6ace0e92822f4610a55235309fa88fe1f9d374581b28", func := "paternoster/paternosterlaw06.DemandNone", spec := "demandNone", unfollowed := true, recurses := true, apart := false }
def DemandNoneSaid : Prop := demandNoneRow.holds Try.pinned (OpenSpec.ofChange demandNoneSpec)

/-- ITS FALSE NEIGHBOUR: 'it returns false'. Refute it at one input. -/
def demandNoneWrong : ChangeSpec := { name := "demandNone", fn := fun _ => fun
  | [d1, d2] => { results := [.lit (.bool false)], args := [d1, d2] }
  | _ => none }
def DemandNoneWrongFalsely : Prop := demandNoneRow.holds Try.pinned (OpenSpec.ofChange demandNoneWrong)

/- THE SECOND FORM. 'bulk': how many values and letters a reading holds, each counted each time it is reached (what is shared counts as often as it is met; a slice's spare places count too). A statement '..UptoSaid' is the law's where the arguments, and the package variables that the reading takes, are together of bulk at most 1048576: NARROWER than '..Said'. Prove '..Said' where nothing that the law and all that it calls make is longer than what came in: it says more and counts as full. Else prove '..UptoSaid'. A law counts once. -/
mutual
def uptoBulk {H : Type} : DataW H → Nat
  | .lit (.string bytes) => bytes.length + 1
  | .lit _ => 1
  | .nil => 1
  | .ptr d => uptoBulk d + 1
  | .slice elems spare => uptoBulkAll elems + uptoBulkAll spare + 1
  | .agg parts => uptoBulkAll parts + 1
  | .iface _ d => uptoBulk d + 1
  | .map entries => uptoBulkEntries entries + 1
  | .held _ => 1
def uptoBulkAll {H : Type} : List (DataW H) → Nat
  | [] => 0
  | d :: r => uptoBulk d + uptoBulkAll r
def uptoBulkEntries {H : Type} : List (Lit × DataW H) → Nat
  | [] => 0
  | x :: r => uptoBulkEntry x + uptoBulkEntries r
def uptoBulkEntry {H : Type} : Lit × DataW H → Nat
  | (.string bytes, d) => bytes.length + uptoBulk d + 1
  | (_, d) => uptoBulk d + 1
 end
def uptoSmall : (H : Type) → List (DataW H) → Bool := fun _ ds => decide (uptoBulkAll ds ≤ 1048576)
def OpenSpec.upto (s : _root_.Go.ChangeSpec) : _root_.Go.OpenSpec := { _root_.Go.OpenSpec.ofChange s with cond := some uptoSmall }

/-- 'paternosterlaw06.DemandSums', WHERE WHAT IT READS IS OF BULK AT MOST 1048576: true; the input reads as it did. -/
def demandSumsUptoRow : OpenClaim := { program := "ytamjmnoejledbaa", sum := "701054550bd32c5a6fde6ace0e92822f4610a55235309fa88fe1f9d374581b28", func := "paternoster/paternosterlaw06.DemandSums", spec := "demandSums", apart := false, narrowed := true }
def DemandSumsUptoSaid : Prop := demandSumsUptoRow.holds Try.pinned (OpenSpec.upto demandSumsSpec)

/-- 'paternosterlaw06.DemandDoes', WHERE WHAT IT READS IS OF BULK AT MOST 1048576: true; the input reads as it did. -/
def demandDoesUptoRow : OpenClaim := { program := "ytamjmnoejledbaa", sum := "701054550bd32c5a6fde6ace0e92822f4610a55235309fa88fe1f9d374581b28", func := "paternoster/paternosterlaw06.DemandDoes", spec := "demandDoes", unfollowed := true, recurses := true, apart := false, narrowed := true }
def DemandDoesUptoSaid : Prop := demandDoesUptoRow.holds Try.pinned (OpenSpec.upto demandDoesSpec)

/-- 'paternosterlaw06.DemandNone', WHERE WHAT IT READS IS OF BULK AT MOST 1048576: true; the input reads as it did. -/
def demandNoneUptoRow : OpenClaim := { program := "ytamjmnoejledbaa", sum := "701054550bd32c5a6fde6ace0e92822f4610a55235309fa88fe1f9d374581b28", func := "paternoster/paternosterlaw06.DemandNone", spec := "demandNone", unfollowed := true, recurses := true, apart := false, narrowed := true }
def DemandNoneUptoSaid : Prop := demandNoneUptoRow.holds Try.pinned (OpenSpec.upto demandNoneSpec)

end Rows
end Go.Proofs.Ytamjmnoejledbaa
