/- An act of the laws of timers: three ints and a bool. -/
import Derived.Test.YtjiodpbefimnlaaLift
namespace Go.Proofs.Ytjiodpbefimnlaa
open Go.RowKit
open Go.WideShapes Go.ChangeShapes Go.Deep
set_option linter.unusedVariables false
def IIIB (cs : List Value) : Prop := ∃ (x y z : Int) (b : Bool), cs = [.int .i64 x, .int .i64 y, .int .i64 z, .bool b] ∧ (Lit.int .i64 x).wf = true ∧ (Lit.int .i64 y).wf = true ∧ (Lit.int .i64 z).wf = true
theorem iiib_of {H : Type} {enc : TypeId × Value → H} {P : Program} {w : World} {base : Nat} {spare : Nat → Bool} {held : Bool} {e it bt : TypeId} {f0 f1 f2 f3 : Field} (he : P.underlying e = some (.struct #[f0, f1, f2, f3])) (hit : P.underlying it = some (.int .i64)) (hbt : P.underlying bt = some .bool) (h1 : P.cellsOf it = 1) (h2 : P.cellsOf bt = 1)
    (o0 : f0.offset = 0) (o1 : f1.offset = 1) (o2 : f2.offset = 2) (o3 : f3.offset = 3) (t0 : f0.type = it) (t1 : f1.type = it) (t2 : f2.type = it) (t3 : f3.type = bt) :
    ∀ fuel cs x, cs.length = 4 → DataW.trod enc P w base spare held fuel e cs = some x → IIIB cs := by
  intro fuel cs x hl h
  match cs, hl with
  | [c0, c1, c2, c3], _ =>
    obtain ⟨_, _, g0⟩ := field_trod he h 0 f0 rfl 0 1 it o0 t0 h1
    obtain ⟨_, _, g1⟩ := field_trod he h 1 f1 rfl 1 1 it o1 t1 h1
    obtain ⟨_, _, g2⟩ := field_trod he h 2 f2 rfl 2 1 it o2 t2 h1
    obtain ⟨_, _, g3⟩ := field_trod he h 3 f3 rfl 3 1 bt o3 t3 h2
    obtain ⟨x0, e0, _, w0⟩ := DataW.trod_int hit g0
    obtain ⟨x1, e1, _, w1⟩ := DataW.trod_int hit g1
    obtain ⟨x2, e2, _, w2⟩ := DataW.trod_int hit g2
    obtain ⟨b, e3, _⟩ := DataW.trod_bool hbt g3
    simp at e0 e1 e2 e3
    exact ⟨x0, x1, x2, b, by rw [e0, e1, e2, e3], w0, w1, w2⟩
theorem iiib_at {w : World} {A : Option Addr} {n i : Nat} {C : Nat → List Value}
    (h : ∀ i, i < n → IIIB (C i) ∧ (C i).length = 4 ∧ ∃ b off, A = some ⟨b, off, none⟩ ∧ b < w.heap.size ∧ ∀ (j : Nat) (u : Value), (C i)[j]? = some u → w.cell? ⟨b, off + i * 4 + j, none⟩ = some u) (hi : i < n) :
    ∃ b off x y z k, A = some ⟨b, off, none⟩ ∧ b < w.heap.size ∧ w.cell? ⟨b, off + i * 4, none⟩ = some (.int .i64 x) ∧ w.cell? ⟨b, off + i * 4 + 1, none⟩ = some (.int .i64 y) ∧ w.cell? ⟨b, off + i * 4 + 2, none⟩ = some (.int .i64 z) ∧ w.cell? ⟨b, off + i * 4 + 3, none⟩ = some (.bool k) ∧
      (Lit.int .i64 x).wf = true ∧ (Lit.int .i64 y).wf = true ∧ (Lit.int .i64 z).wf = true := by
  obtain ⟨⟨x, y, z, k, hc, hx, hy, hz⟩, _, b, off, hA, hb, hcell⟩ := h i hi
  refine ⟨b, off, x, y, z, k, hA, hb, ?_, ?_, ?_, ?_, hx, hy, hz⟩
  · exact hcell 0 _ (by rw [hc]; rfl)
  · exact hcell 1 _ (by rw [hc]; rfl)
  · exact hcell 2 _ (by rw [hc]; rfl)
  · exact hcell 3 _ (by rw [hc]; rfl)
end Go.Proofs.Ytjiodpbefimnlaa
