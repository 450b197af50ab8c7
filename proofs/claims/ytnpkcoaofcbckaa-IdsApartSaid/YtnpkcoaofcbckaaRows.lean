/-
  No cell of these rows narrows 'for every input' (looked for: loops, veiled, ifaces, maps, wideKeys, modest, calm, conditions, laid).
  DERIVED. THE GIVEN ROWS OF THIS SEAT. 3 by the template 'for every input the law returns true; each argument reads behind the call as it read before'; 0 by the template 'total and deterministic' (their statements: YtnpkcoaofcbckaaTotals.lean).
  GIVEN WITH THE SEED: the statements are not yours to turn. If you find one false, say at which input.
  Laid BY PROGRAM, IN A SANDBOX (cutbox-rows.mjs): the forced cells as the released guide's own fill.sh prints them over the translation 7bf81366fd123a7b… (all of the seat's roots in one cut). By AI agents, Wed Nov 11 2026. No macro, syntax, notation, axiom, sorry.
-/
import Derived.Test.YtnpkcoaofcbckaaChecked
import GoSem.Claim
import GoSem.ClaimJoined
import GoSem.ClaimMapViews
import Derived.JoinedTies
import Derived.KernelRfl
namespace Go.Proofs.Ytnpkcoaofcbckaa
/- THE CELL 'sum', in the pinned program and in every row, IS THE sha256 OF THE DUMP (.gsa) THAT YtnpkcoaofcbckaaProg.lean LOADS. Nothing in Lean hashes anything: it is a label: what it is worth is what the hold of that sum in a sandbox is worth. -/
noncomputable def Try.pinned : Pinned := { name := "ytnpkcoaofcbckaa", sum := "7bf81366fd123a7b26367613ed379d268ee68084ff05f4f4a155046e7467d447", checked := Try.checked }
namespace Rows
def none {H : Type} : Left H := { results := [], args := [] }

/-- 'paternosterlaw11.IdsApart': WHATEVER THE INPUT: true; the input reads as it did. -/
def idsApartSpec : ChangeSpec := { name := "idsApart", fn := fun _ => fun
  | [d1, d2] => { results := [.lit (.bool true)], args := [d1, d2] }
  | _ => none }
def idsApartRow : OpenClaim := { program := "ytnpkcoaofcbckaa", sum := "7bf81366fd123a7b26367613ed379d268ee68084ff05f4f4a155046e7467d447", func := "paternoster/paternosterlaw11.IdsApart", spec := "idsApart", unfollowed := true, recurses := true, apart := false }
def IdsApartSaid : Prop := idsApartRow.holds Try.pinned (OpenSpec.ofChange idsApartSpec)

/-- ITS FALSE NEIGHBOUR: 'it returns false'. Refute it at one input. -/
def idsApartWrong : ChangeSpec := { name := "idsApart", fn := fun _ => fun
  | [d1, d2] => { results := [.lit (.bool false)], args := [d1, d2] }
  | _ => none }
def IdsApartWrongFalsely : Prop := idsApartRow.holds Try.pinned (OpenSpec.ofChange idsApartWrong)

/-- 'paternosterlaw11.IdsDo': WHATEVER THE INPUT: true; the input reads as it did. -/
def idsDoSpec : ChangeSpec := { name := "idsDo", fn := fun _ => fun
  | [d1, d2, d3] => { results := [.lit (.bool true)], args := [d1, d2, d3] }
  | _ => none }
def idsDoRow : OpenClaim := { program := "ytnpkcoaofcbckaa", sum := "7bf81366fd123a7b26367613ed379d268ee68084ff05f4f4a155046e7467d447", func := "paternoster/paternosterlaw11.IdsDo", spec := "idsDo", unfollowed := true, recurses := true, apart := false }
def IdsDoSaid : Prop := idsDoRow.holds Try.pinned (OpenSpec.ofChange idsDoSpec)

/-- ITS FALSE NEIGHBOUR: 'it returns false'. Refute it at one input. -/
def idsDoWrong : ChangeSpec := { name := "idsDo", fn := fun _ => fun
  | [d1, d2, d3] => { results := [.lit (.bool false)], args := [d1, d2, d3] }
  | _ => none }
def IdsDoWrongFalsely : Prop := idsDoRow.holds Try.pinned (OpenSpec.ofChange idsDoWrong)

/-- 'paternosterlaw11.IdsNone': WHATEVER THE INPUT: true; the input reads as it did. -/
def idsNoneSpec : ChangeSpec := { name := "idsNone", fn := fun _ => fun
  | [d] => { results := [.lit (.bool true)], args := [d] }
  | _ => none }
def idsNoneRow : OpenClaim := { program := "ytnpkcoaofcbckaa", sum := "7bf81366fd123a7b26367613ed379d268ee68084ff05f4f4a155046e7467d447", func := "paternoster/paternosterlaw11.IdsNone", spec := "idsNone", unfollowed := true, recurses := true, apart := false }
def IdsNoneSaid : Prop := idsNoneRow.holds Try.pinned (OpenSpec.ofChange idsNoneSpec)

/-- ITS FALSE NEIGHBOUR: 'it returns false'. Refute it at one input. -/
def idsNoneWrong : ChangeSpec := { name := "idsNone", fn := fun _ => fun
  | [d] => { results := [.lit (.bool false)], args := [d] }
  | _ => none }
def IdsNoneWrongFalsely : Prop := idsNoneRow.holds Try.pinned (OpenSpec.ofChange idsNoneWrong)

/- THE SECOND FORM. 'bulk': how many values and letters a reading holds, each counted each time it is reached (what is shared counts as often as it is met; a slice's spare places count too). A statement '..UptoSaid' is the law's where the arguments, and the package variables that the reading takes, are together of bulk at most 1048576: NARROWER than '..Said'. Prove '..Said' where nothing that the law and all that it calls make is longer than what came in: it says more and counts as full. Else prove '..UptoSaid'. A law counts once. -/
mutual
def uptoBulk {H : Type} : DataW H → Nat
  | .lit (.string bytes) => bytes.length + 1
  | .lit _ => 1
  | .nil => 1
  | .ptr d => uptoBulk d + 1
  | .slice elems spare => uptoBulkAll elems + uptoBulkAll spare + 1
  | .agg parts => uptoBulkAll parts + 1
  | .iface _ d => uptoBulk d + 1
  | .map entries => uptoBulkEntries entries + 1
  | .held _ => 1
def uptoBulkAll {H : Type} : List (DataW H) → Nat
  | [] => 0
  | d :: r => uptoBulk d + uptoBulkAll r
def uptoBulkEntries {H : Type} : List (Lit × DataW H) → Nat
  | [] => 0
  | x :: r => uptoBulkEntry x + uptoBulkEntries r
def uptoBulkEntry {H : Type} : Lit × DataW H → Nat
  | (.string bytes, d) => bytes.length + uptoBulk d + 1
  | (_, d) => uptoBulk d + 1
 end
def uptoSmall : (H : Type) → List (DataW H) → Bool := fun _ ds => decide (uptoBulkAll ds ≤ 1048576)
def OpenSpec.upto (s : _root_.Go.ChangeSpec) : _root_.Go.OpenSpec := { _root_.Go.OpenSpec.ofChange s with cond := some uptoSmall }

/-- 'paternosterlaw11.IdsApart', WHERE WHAT IT READS IS OF BULK AT MOST 1048576: true; the input reads as it did. -/
def idsApartUptoRow : OpenClaim := { program := "ytnpkcoaofcbckaa", sum := "7bf81366fd123a7b26367613ed379d268ee68084ff05f4f4a155046e7467d447", func := "paternoster/paternosterlaw11.IdsApart", spec := "idsApart", unfollowed := true, recurses := true, apart := false, narrowed := true }
def IdsApartUptoSaid : Prop := idsApartUptoRow.holds Try.pinned (OpenSpec.upto idsApartSpec)

/-- 'paternosterlaw11.IdsDo', WHERE WHAT IT READS IS OF BULK AT MOST 1048576: true; the input reads as it did. -/
def idsDoUptoRow : OpenClaim := { program := "ytnpkcoaofcbckaa", sum := "7bf81366fd123a7b26367613ed379d268ee68084ff05f4f4a155046e7467d447", func := "paternoster/paternosterlaw11.IdsDo", spec := "idsDo", unfollowed := true, recurses := true, apart := false, narrowed := true }
def IdsDoUptoSaid : Prop := idsDoUptoRow.holds Try.pinned (OpenSpec.upto idsDoSpec)

/-- 'paternosterlaw11.IdsNone', WHERE WHAT IT READS IS OF BULK AT MOST 1048576: true; the input reads as it did. -/
def idsNoneUptoRow : OpenClaim := { program := "ytnpkcoaofcbckaa", sum := "7bf81366fd123a7b26367613ed379d268ee68084ff05f4f4a155046e7467d447", func := "paternoster/paternosterlaw11.IdsNone", spec := "idsNone", unfollowed := true, recurses := true, apart := false, narrowed := true }
def IdsNoneUptoSaid : Prop := idsNoneUptoRow.holds Try.pinned (OpenSpec.upto idsNoneSpec)

end Rows
end Go.Proofs.Ytnpkcoaofcbckaa
