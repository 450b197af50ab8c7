/- The walks of package ring: the laws' arguments. -/
import Derived.Test.YtejbpjfigopplaaRows
import Derived.WalkKit
import Derived.ProofKit
import Derived.Handy
import Derived.Test.YtejbpjfigopplaaMem
import Derived.Test.YtejbpjfigopplaaLift
import Derived.Test.YtejbpjfigopplaaApp
import Derived.Test.YtejbpjfigopplaaReads
import Derived.Test.YtejbpjfigopplaaOrd
import Derived.Test.YtejbpjfigopplaaRing
import Derived.Test.YtejbpjfigopplaaRing2
import Derived.Test.YtejbpjfigopplaaRing3
import Derived.Test.YtejbpjfigopplaaRing4
import Derived.Test.YtejbpjfigopplaaRing5
import Derived.Test.YtejbpjfigopplaaRing6
import Derived.Deep.QuietTactic
import Derived.BigQuiet
import Derived.Deep.RegionWith
import Derived.Deep.RegionHeld3
import Derived.Deep.AppendLies
import Derived.WalkLawsBesides
import Derived.WalkSmall
import Derived.Lib.BufferWrite
import Derived.Laws.BytesArg
namespace Go.Proofs.Ytejbpjfigopplaa
open Go.RowKit
set_option linter.unusedVariables false







open Go.WideShapes Go.ChangeShapes Go.Deep
/-- An act: a kind, a number, a text. -/
def KNS (cs : List Value) : Prop := ∃ (x y : Int) (s : ByteArray), cs = [.int .i64 x, .int .i64 y, .string s] ∧ (-9223372036854775808 ≤ y ∧ y ≤ 9223372036854775807) ∧ s.size ≤ 9223372036854775807
theorem kns_of {H : Type} {enc : TypeId × Value → H} {P : Program} {w : World} {base : Nat} {spare : Nat → Bool} {held : Bool} {e it st : TypeId} {f0 f1 f2 : Field} (he : P.underlying e = some (.struct #[f0, f1, f2])) (hit : P.underlying it = some (.int .i64)) (hst : P.underlying st = some .string) (h1 : P.cellsOf it = 1) (h2 : P.cellsOf st = 1) (o0 : f0.offset = 0) (o1 : f1.offset = 1) (o2 : f2.offset = 2) (t0 : f0.type = it) (t1 : f1.type = it) (t2 : f2.type = st) :
    ∀ fuel cs x, cs.length = 3 → DataW.trod enc P w base spare held fuel e cs = some x → KNS cs := by
  intro fuel cs x hl h
  match cs, hl with
  | [c0, c1, c2], _ =>
    obtain ⟨_, _, g0⟩ := field_trod he h 0 f0 rfl 0 1 it o0 t0 h1
    obtain ⟨_, _, g1⟩ := field_trod he h 1 f1 rfl 1 1 it o1 t1 h1
    obtain ⟨_, _, g2⟩ := field_trod he h 2 f2 rfl 2 1 st o2 t2 h2
    obtain ⟨x0, e0, _, w0⟩ := DataW.trod_int hit g0
    obtain ⟨x1, e1, _, w1⟩ := DataW.trod_int hit g1
    obtain ⟨s, e2, _, hs⟩ := DataW.trod_string hst g2
    simp at e0 e1 e2
    exact ⟨x0, x1, s, by rw [e0, e1, e2], bounds_i64 w1, by unfold maxLen at hs; omega⟩
theorem kns_at {w : World} {A : Option Addr} {n i : Nat} {C : Nat → List Value}
    (h : ∀ i, i < n → KNS (C i) ∧ (C i).length = 3 ∧ ∃ b off, A = some ⟨b, off, none⟩ ∧ b < w.heap.size ∧ ∀ (j : Nat) (u : Value), (C i)[j]? = some u → w.cell? ⟨b, off + i * 3 + j, none⟩ = some u) (hi : i < n) :
    ∃ b off x y s, A = some ⟨b, off, none⟩ ∧ b < w.heap.size ∧ w.cell? ⟨b, off + i * 3, none⟩ = some (.int .i64 x) ∧ w.cell? ⟨b, off + i * 3 + 1, none⟩ = some (.int .i64 y) ∧ w.cell? ⟨b, off + i * 3 + 2, none⟩ = some (.string s) ∧
      (-9223372036854775808 ≤ y ∧ y ≤ 9223372036854775807) ∧ s.size ≤ 9223372036854775807 := by
  obtain ⟨⟨x, y, s, hc, hy, hs⟩, _, b, off, hA, hb, hcell⟩ := h i hi
  exact ⟨b, off, x, y, s, hA, hb, hcell 0 _ (by rw [hc]; rfl), hcell 1 _ (by rw [hc]; rfl), hcell 2 _ (by rw [hc]; rfl), hy, hs⟩
end Go.Proofs.Ytejbpjfigopplaa
