/-
  No cell of these rows narrows 'for every input' (looked for: loops, veiled, ifaces, maps, wideKeys, modest, calm, conditions, laid).
  DERIVED. THE GIVEN ROWS OF THIS SEAT. 3 by the template 'for every input the law returns true; each argument reads behind the call as it read before'; 0 by the template 'total and deterministic' (their statements: YtfdfcegomiehbaaTotals.lean).
  GIVEN WITH THE SEED: the statements are not yours to turn. If you find one false, say at which input.
  Laid BY PROGRAM, IN A SANDBOX (cutbox-rows.mjs): the forced cells as the released guide's own fill.sh prints them over the translation 32989358023b4d12… (all of the seat's roots in one cut). By AI agents, Wed Nov 11 2026. No macro, syntax, notation, axiom, sorry.
-/
import Derived.Test.YtfdfcegomiehbaaChecked
import GoSem.Claim
import GoSem.ClaimJoined
import GoSem.ClaimMapViews
import Derived.JoinedTies
import Derived.KernelRfl
namespace Go.Proofs.Ytfdfcegomiehbaa
/- THE CELL 'sum', in the pinned program and in every row, IS THE sha256 OF THE DUMP (.gsa) THAT YtfdfcegomiehbaaProg.lean LOADS. Nothing in Lean hashes anything: it is a label: what it is worth is what the hold of that sum in a sandbox is worth. -/
noncomputable def Try.pinned : Pinned := { name := "ytfdfcegomiehbaa", sum := "32989358023b4d12c8d2224d9009b59c5c1b1acee1b0d6eca6dd4f1d2c9f3b17", checked := Try.checked }
namespace Rows
def none {H : Type} : Left H := { results := [], args := [] }

/-- 'paternosterlaw13.TableDoes': WHATEVER THE INPUT: true; the input reads as it did. -/
def tableDoesSpec : ChangeSpec := { name := "tableDoes", fn := fun _ => fun
  | [d1, d2] => { results := [.lit (.bool true)], args := [d1, d2] }
  | _ => none }
def tableDoesRow : OpenClaim := { program := "ytfdfcegomiehbaa", sum := "32989358023b4d12c8d2224d9009b59c5c1b1acee1b0d6eca6dd4f1d2c9f3b17", func := "paternoster/paternosterlaw13.TableDoes", spec := "tableDoes", inPlace := ["slices.overlaps[paternoster/table.entry[int]]"], unfollowed := true, recurses := true, apart := false }
def TableDoesSaid : Prop := tableDoesRow.holds Try.pinned (OpenSpec.ofChange tableDoesSpec)

/-- ITS FALSE NEIGHBOUR: 'it returns false'. Refute it at one input. -/
def tableDoesWrong : ChangeSpec := { name := "tableDoes", fn := fun _ => fun
  | [d1, d2] => { results := [.lit (.bool false)], args := [d1, d2] }
  | _ => none }
def TableDoesWrongFalsely : Prop := tableDoesRow.holds Try.pinned (OpenSpec.ofChange tableDoesWrong)

/-- 'paternosterlaw13.TableDrops': WHATEVER THE INPUT: true; the input reads as it did. -/
def tableDropsSpec : ChangeSpec := { name := "tableDrops", fn := fun _ => fun
  | [d1, d2] => { results := [.lit (.bool true)], args := [d1, d2] }
  | _ => none }
def tableDropsRow : OpenClaim := { program := "ytfdfcegomiehbaa", sum := "32989358023b4d12c8d2224d9009b59c5c1b1acee1b0d6eca6dd4f1d2c9f3b17", func := "paternoster/paternosterlaw13.TableDrops", spec := "tableDrops", inPlace := ["slices.overlaps[paternoster/table.entry[int]]"], unfollowed := true, recurses := true, apart := false }
def TableDropsSaid : Prop := tableDropsRow.holds Try.pinned (OpenSpec.ofChange tableDropsSpec)

/-- ITS FALSE NEIGHBOUR: 'it returns false'. Refute it at one input. -/
def tableDropsWrong : ChangeSpec := { name := "tableDrops", fn := fun _ => fun
  | [d1, d2] => { results := [.lit (.bool false)], args := [d1, d2] }
  | _ => none }
def TableDropsWrongFalsely : Prop := tableDropsRow.holds Try.pinned (OpenSpec.ofChange tableDropsWrong)

/-- 'paternosterlaw13.TableNone': WHATEVER THE INPUT: true; the input reads as it did. -/
def tableNoneSpec : ChangeSpec := { name := "tableNone", fn := fun _ => fun
  | [d1, d2] => { results := [.lit (.bool true)], args := [d1, d2] }
  | _ => none }
def tableNoneRow : OpenClaim := { program := "ytfdfcegomiehbaa", sum := "32989358023b4d12c8d2224d9009b59c5c1b1acee1b0d6eca6dd4f1d2c9f3b17", func := "paternoster/paternosterlaw13.TableNone", spec := "tableNone", inPlace := ["slices.overlaps[paternoster/table.entry[int]]"], unfollowed := true, recurses := true, apart := false }
def TableNoneSaid : Prop := tableNoneRow.holds Try.pinned (OpenSpec.ofChange tableNoneSpec)

/-- ITS FALSE NEIGHBOUR: 'it returns false'. Refute it at one input. -/
def tableNoneWrong : ChangeSpec := { name := "tableNone", fn := fun _ => fun
  | [d1, d2] => { results := [.lit (.bool false)], args := [d1, d2] }
  | _ => none }
def TableNoneWrongFalsely : Prop := tableNoneRow.holds Try.pinned (OpenSpec.ofChange tableNoneWrong)

/- THE SECOND FORM. 'bulk': how many values and letters a reading holds, each counted each time it is reached (what is shared counts as often as it is met; a slice's spare places count too). A statement '..UptoSaid' is the law's where the arguments, and the package variables that the reading takes, are together of bulk at most 1048576: NARROWER than '..Said'. Prove '..Said' where nothing that the law and all that it calls make is longer than what came in: it says more and counts as full. Else prove '..UptoSaid'. A law counts once. -/
mutual
def uptoBulk {H : Type} : DataW H → Nat
  | .lit (.string bytes) => bytes.length + 1
  | .lit _ => 1
  | .nil => 1
  | .ptr d => uptoBulk d + 1
  | .slice elems spare => uptoBulkAll elems + uptoBulkAll spare + 1
  | .agg parts => uptoBulkAll parts + 1
  | .iface _ d => uptoBulk d + 1
  | .map entries => uptoBulkEntries entries + 1
  | .held _ => 1
def uptoBulkAll {H : Type} : List (DataW H) → Nat
  | [] => 0
  | d :: r => uptoBulk d + uptoBulkAll r
def uptoBulkEntries {H : Type} : List (Lit × DataW H) → Nat
  | [] => 0
  | x :: r => uptoBulkEntry x + uptoBulkEntries r
def uptoBulkEntry {H : Type} : Lit × DataW H → Nat
  | (.string bytes, d) => bytes.length + uptoBulk d + 1
  | (_, d) => uptoBulk d + 1
 end
def uptoSmall : (H : Type) → List (DataW H) → Bool := fun _ ds => decide (uptoBulkAll ds ≤ 1048576)
def OpenSpec.upto (s : _root_.Go.ChangeSpec) : _root_.Go.OpenSpec := { _root_.Go.OpenSpec.ofChange s with cond := some uptoSmall }

/-- 'paternosterlaw13.TableDoes', WHERE WHAT IT READS IS OF BULK AT MOST 1048576: true; the input reads as it did. -/
def tableDoesUptoRow : OpenClaim := { program := "ytfdfcegomiehbaa", sum := "32989358023b4d12c8d2224d9009b59c5c1b1acee1b0d6eca6dd4f1d2c9f3b17", func := "paternoster/paternosterlaw13.TableDoes", spec := "tableDoes", inPlace := ["slices.overlaps[paternoster/table.entry[int]]"], unfollowed := true, recurses := true, apart := false, narrowed := true }
def TableDoesUptoSaid : Prop := tableDoesUptoRow.holds Try.pinned (OpenSpec.upto tableDoesSpec)

/-- 'paternosterlaw13.TableDrops', WHERE WHAT IT READS IS OF BULK AT MOST 1048576: true; the input reads as it did. -/
def tableDropsUptoRow : OpenClaim := { program := "ytfdfcegomiehbaa", sum := "32989358023b4d12c8d2224d9009b59c5c1b1acee1b0d6eca6dd4f1d2c9f3b17", func := "paternoster/paternosterlaw13.TableDrops", spec := "tableDrops", inPlace := ["slices.overlaps[paternoster/table.entry[int]]"], unfollowed := true, recurses := true, apart := false, narrowed := true }
def TableDropsUptoSaid : Prop := tableDropsUptoRow.holds Try.pinned (OpenSpec.upto tableDropsSpec)

/-- 'paternosterlaw13.TableNone', WHERE WHAT IT READS IS OF BULK AT MOST 1048576: true; the input reads as it did. -/
def tableNoneUptoRow : OpenClaim := { program := "ytfdfcegomiehbaa", sum := "32989358023b4d12c8d2224d9009b59c5c1b1acee1b0d6eca6dd4f1d2c9f3b17", func := "paternoster/paternosterlaw13.TableNone", spec := "tableNone", inPlace := ["slices.overlaps[paternoster/table.entry[int]]"], unfollowed := true, recurses := true, apart := false, narrowed := true }
def TableNoneUptoSaid : Prop := tableNoneUptoRow.holds Try.pinned (OpenSpec.upto tableNoneSpec)

end Rows
end Go.Proofs.Ytfdfcegomiehbaa
