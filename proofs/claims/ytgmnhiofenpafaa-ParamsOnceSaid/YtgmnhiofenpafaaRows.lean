/-
  No cell of these rows narrows 'for every input' (looked for: loops, veiled, ifaces, maps, wideKeys, modest, calm, conditions, laid).
  DERIVED. THE GIVEN ROWS OF THIS SEAT. 3 by the template 'for every input the law returns true; each argument reads behind the call as it read before'; 0 by the template 'total and deterministic' (their statements: YtgmnhiofenpafaaTotals.lean).
  GIVEN WITH THE SEED: the statements are not yours to turn. If you find one false, say at which input.
  Laid BY PROGRAM, IN A SANDBOX (cutbox-rows.mjs): the forced cells as the released guide's own fill.sh prints them over the translation 15c61ea0c611c2ee… (all of the seat's roots in one cut). By AI agents, Wed Nov 11 2026. No macro, syntax, notation, axiom, sorry.
-/
import Derived.Test.YtgmnhiofenpafaaChecked
import GoSem.Claim
import GoSem.ClaimJoined
import GoSem.ClaimMapViews
import Derived.JoinedTies
import Derived.KernelRfl
namespace Go.Proofs.Ytgmnhiofenpafaa
/- THE CELL 'sum', in the pinned program and in every row, IS THE sha256 OF THE DUMP (.gsa) THAT YtgmnhiofenpafaaProg.lean LOADS. Nothing in Lean hashes anything: it is a label: what it is worth is what the hold of that sum in a sandbox is worth. -/
noncomputable def Try.pinned : Pinned := { name := "ytgmnhiofenpafaa", sum := "15c61ea0c611c2ee159b189a36d9c6cc7e5603cd2a405a542a4361e76f172177", checked := Try.checked }
namespace Rows
def none {H : Type} : Left H := { results := [], args := [] }

/-- 'paternosterlaw16.ParamsDiff': WHATEVER THE INPUT: true; the input reads as it did. -/
def paramsDiffSpec : ChangeSpec := { name := "paramsDiff", fn := fun _ => fun
  | [d1, d2] => { results := [.lit (.bool true)], args := [d1, d2] }
  | _ => none }
def paramsDiffRow : OpenClaim := { program := "ytgmnhiofenpafaa", sum := "15c61ea0c611c2ee159b189a36d9c6cc7e5603cd2a405a542a4361e76f172177", func := "paternoster/paternosterlaw16.ParamsDiff", spec := "paramsDiff", unfollowed := true, recurses := true, apart := false }
def ParamsDiffSaid : Prop := paramsDiffRow.holds Try.pinned (OpenSpec.ofChange paramsDiffSpec)

/-- ITS FALSE NEIGHBOUR: 'it returns false'. Refute it at one input. -/
def paramsDiffWrong : ChangeSpec := { name := "paramsDiff", fn := fun _ => fun
  | [d1, d2] => { results := [.lit (.bool false)], args := [d1, d2] }
  | _ => none }
def ParamsDiffWrongFalsely : Prop := paramsDiffRow.holds Try.pinned (OpenSpec.ofChange paramsDiffWrong)

/-- 'paternosterlaw16.ParamsOnce': WHATEVER THE INPUT: true; the input reads as it did. -/
def paramsOnceSpec : ChangeSpec := { name := "paramsOnce", fn := fun _ => fun
  | [d1, d2] => { results := [.lit (.bool true)], args := [d1, d2] }
  | _ => none }
def paramsOnceRow : OpenClaim := { program := "ytgmnhiofenpafaa", sum := "15c61ea0c611c2ee159b189a36d9c6cc7e5603cd2a405a542a4361e76f172177", func := "paternoster/paternosterlaw16.ParamsOnce", spec := "paramsOnce", unfollowed := true, recurses := true, apart := false }
def ParamsOnceSaid : Prop := paramsOnceRow.holds Try.pinned (OpenSpec.ofChange paramsOnceSpec)

/-- ITS FALSE NEIGHBOUR: 'it returns false'. Refute it at one input. -/
def paramsOnceWrong : ChangeSpec := { name := "paramsOnce", fn := fun _ => fun
  | [d1, d2] => { results := [.lit (.bool false)], args := [d1, d2] }
  | _ => none }
def ParamsOnceWrongFalsely : Prop := paramsOnceRow.holds Try.pinned (OpenSpec.ofChange paramsOnceWrong)

/-- 'paternosterlaw16.ParamsApply': WHATEVER THE INPUT: true; the input reads as it did. -/
def paramsApplySpec : ChangeSpec := { name := "paramsApply", fn := fun _ => fun
  | [d1, d2] => { results := [.lit (.bool true)], args := [d1, d2] }
  | _ => none }
def paramsApplyRow : OpenClaim := { program := "ytgmnhiofenpafaa", sum := "15c61ea0c611c2ee159b189a36d9c6cc7e5603cd2a405a542a4361e76f172177", func := "paternoster/paternosterlaw16.ParamsApply", spec := "paramsApply", unfollowed := true, recurses := true, apart := false }
def ParamsApplySaid : Prop := paramsApplyRow.holds Try.pinned (OpenSpec.ofChange paramsApplySpec)

/-- ITS FALSE NEIGHBOUR: 'it returns false'. Refute it at one input. -/
def paramsApplyWrong : ChangeSpec := { name := "paramsApply", fn := fun _ => fun
  | [d1, d2] => { results := [.lit (.bool false)], args := [d1, d2] }
  | _ => none }
def ParamsApplyWrongFalsely : Prop := paramsApplyRow.holds Try.pinned (OpenSpec.ofChange paramsApplyWrong)

/- THE SECOND FORM. 'bulk': how many values and letters a reading holds, each counted each time it is reached (what is shared counts as often as it is met; a slice's spare places count too). A statement '..UptoSaid' is the law's where the arguments, and the package variables that the reading takes, are together of bulk at most 1048576: NARROWER than '..Said'. Prove '..Said' where nothing that the law and all that it calls make is longer than what came in: it says more and counts as full. Else prove '..UptoSaid'. A law counts once. -/
mutual
def uptoBulk {H : Type} : DataW H → Nat
  | .lit (.string bytes) => bytes.length + 1
  | .lit _ => 1
  | .nil => 1
  | .ptr d => uptoBulk d + 1
  | .slice elems spare => uptoBulkAll elems + uptoBulkAll spare + 1
  | .agg parts => uptoBulkAll parts + 1
  | .iface _ d => uptoBulk d + 1
  | .map entries => uptoBulkEntries entries + 1
  | .held _ => 1
def uptoBulkAll {H : Type} : List (DataW H) → Nat
  | [] => 0
  | d :: r => uptoBulk d + uptoBulkAll r
def uptoBulkEntries {H : Type} : List (Lit × DataW H) → Nat
  | [] => 0
  | x :: r => uptoBulkEntry x + uptoBulkEntries r
def uptoBulkEntry {H : Type} : Lit × DataW H → Nat
  | (.string bytes, d) => bytes.length + uptoBulk d + 1
  | (_, d) => uptoBulk d + 1
 end
def uptoSmall : (H : Type) → List (DataW H) → Bool := fun _ ds => decide (uptoBulkAll ds ≤ 1048576)
def OpenSpec.upto (s : _root_.Go.ChangeSpec) : _root_.Go.OpenSpec := { _root_.Go.OpenSpec.ofChange s with cond := some uptoSmall }

/-- 'paternosterlaw16.ParamsDiff', WHERE WHAT IT READS IS OF BULK AT MOST 1048576: true; the input reads as it did. -/
def paramsDiffUptoRow : OpenClaim := { program := "ytgmnhiofenpafaa", sum := "15c61ea0c611c2ee159b189a36d9c6cc7e5603cd2a405a542a4361e76f172177", func := "paternoster/paternosterlaw16.ParamsDiff", spec := "paramsDiff", unfollowed := true, recurses := true, apart := false, narrowed := true }
def ParamsDiffUptoSaid : Prop := paramsDiffUptoRow.holds Try.pinned (OpenSpec.upto paramsDiffSpec)

/-- 'paternosterlaw16.ParamsOnce', WHERE WHAT IT READS IS OF BULK AT MOST 1048576: true; the input reads as it did. -/
def paramsOnceUptoRow : OpenClaim := { program := "ytgmnhiofenpafaa", sum := "15c61ea0c611c2ee159b189a36d9c6cc7e5603cd2a405a542a4361e76f172177", func := "paternoster/paternosterlaw16.ParamsOnce", spec := "paramsOnce", unfollowed := true, recurses := true, apart := false, narrowed := true }
def ParamsOnceUptoSaid : Prop := paramsOnceUptoRow.holds Try.pinned (OpenSpec.upto paramsOnceSpec)

/-- 'paternosterlaw16.ParamsApply', WHERE WHAT IT READS IS OF BULK AT MOST 1048576: true; the input reads as it did. -/
def paramsApplyUptoRow : OpenClaim := { program := "ytgmnhiofenpafaa", sum := "15c61ea0c611c2ee159b189a36d9c6cc7e5603cd2a405a542a4361e76f172177", func := "paternoster/paternosterlaw16.ParamsApply", spec := "paramsApply", unfollowed := true, recurses := true, apart := false, narrowed := true }
def ParamsApplyUptoSaid : Prop := paramsApplyUptoRow.holds Try.pinned (OpenSpec.upto paramsApplySpec)

end Rows
end Go.Proofs.Ytgmnhiofenpafaa
