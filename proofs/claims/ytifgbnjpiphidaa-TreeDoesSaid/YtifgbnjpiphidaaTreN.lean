/- The nil tree; an act of the laws of trees opened. -/
import Derived.Test.YtifgbnjpiphidaaRows
import Derived.WalkKit
import Derived.ProofKit
import Derived.Handy
import Derived.Deep.QuietTactic
import Derived.BigQuiet
import Derived.Deep.RegionWith
import Derived.Deep.RegionHeld3
import Derived.Deep.AppendLies
import Derived.WalkLawsBesides
import Derived.WalkSmall
import Derived.Deep.Cut
import Derived.Test.YtifgbnjpiphidaaTreAw
namespace Go.Proofs.Ytifgbnjpiphidaa
open Go.RowKit
open Go.WideShapes Go.ChangeShapes Go.Deep
set_option linter.unusedVariables false
theorem remove_nil (x : Int) (w : World) : Calls Try.prog 10 #[.pointer none, .int .i64 x] w fun e w' => e = .returned (.int .i64 1) ∧ w = w' := by
  go_enter Try.func10, Try.ntmps10
  go_wp2_with fail
  go_ret
  exact ⟨rfl, rfl⟩
theorem parent_nil (x : Int) (w : World) : Calls Try.prog 12 #[.pointer none, .int .i64 x] w fun e w' => e = .returned (.int .i64 0) ∧ w = w' := by
  go_enter Try.func12, Try.ntmps12
  go_wp2_with fail
  refine (has_nil _ _).mono ?_
  rintro e w1 ⟨rfl, rfl⟩
  go_wp2_with fail
  go_ret
  exact ⟨rfl, rfl⟩
theorem weight_nil (x : Int) (w : World) : Calls Try.prog 11 #[.pointer none, .int .i64 x] w fun e w' => e = .returned (.int .i64 0) ∧ w = w' := by
  go_enter Try.func11, Try.ntmps11
  go_wp2_with fail
  refine (has_nil _ _).mono ?_
  rintro e w1 ⟨rfl, rfl⟩
  go_wp2_with fail
  go_ret
  exact ⟨rfl, rfl⟩
theorem depth_nil (x : Int) (w : World) : Calls Try.prog 18 #[.pointer none, .int .i64 x] w fun e w' => e = .returned (.int .i64 0) ∧ w = w' := by
  go_enter Try.func18, Try.ntmps18
  go_wp2_with fail
  refine wp_loop_rounds 1 ?_
  rw [rounds_succ]
  go_wp2_with fail
  refine (has_nil _ _).mono ?_
  rintro e w1 ⟨rfl, rfl⟩
  go_wp2_with fail
  go_ret
  exact ⟨rfl, rfl⟩
theorem len_nil (w : World) : Calls Try.prog 13 #[.pointer none] w fun e w' => e = .returned (.int .i64 0) ∧ w = w' := by
  go_enter Try.func13, Try.ntmps13
  go_wp2_with fail
  go_ret
  exact ⟨rfl, rfl⟩
structure Ac where
  kd : Int
  id : Int
  d : Dp
def av (a : Ac) : List Value := [.int .i64 a.kd, .int .i64 a.id, .int .i64 a.d.on, .int .i64 a.d.wt, .bool a.d.ex]
def AcIn (a : Ac) : Prop := (Lit.int .i64 a.kd).wf = true ∧ (Lit.int .i64 a.id).wf = true ∧ (Lit.int .i64 a.d.on).wf = true ∧ (Lit.int .i64 a.d.wt).wf = true
def AcOk (cs : List Value) : Prop := ∃ a : Ac, cs = av a ∧ AcIn a
section
variable {H : Type} {enc : TypeId × Value → H} {P : Program} {w : World} {base : Nat} {spare : Nat → Bool} {held : Bool}
theorem ac_of {e it bt dt : TypeId} {f0 f1 f2 g0 g1 g2 : Field} (he : P.underlying e = some (.struct #[f0, f1, f2])) (hdt : P.underlying dt = some (.struct #[g0, g1, g2])) (hit : P.underlying it = some (.int .i64)) (hbt : P.underlying bt = some .bool) (h1 : P.cellsOf it = 1) (h2 : P.cellsOf bt = 1) (h3 : P.cellsOf dt = 3)
    (o0 : f0.offset = 0) (o1 : f1.offset = 1) (o2 : f2.offset = 2) (p0 : g0.offset = 0) (p1 : g1.offset = 1) (p2 : g2.offset = 2) (t0 : f0.type = it) (t1 : f1.type = it) (t2 : f2.type = dt) (u0 : g0.type = it) (u1 : g1.type = it) (u2 : g2.type = bt) :
    ∀ fuel cs x, cs.length = 5 → DataW.trod enc P w base spare held fuel e cs = some x → AcOk cs := by
  intro fuel cs x hl h
  match cs, hl with
  | [c0, c1, c2, c3, c4], _ =>
    obtain ⟨_, _, q0⟩ := field_trod he h 0 f0 rfl 0 1 it o0 t0 h1
    obtain ⟨_, _, q1⟩ := field_trod he h 1 f1 rfl 1 1 it o1 t1 h1
    obtain ⟨n2, y2, q2⟩ := field_trod he h 2 f2 rfl 2 3 dt o2 t2 h3
    have q2' : DataW.trod enc P w base spare held n2 dt [c2, c3, c4] = some y2 := q2
    obtain ⟨_, _, q3⟩ := field_trod hdt q2' 0 g0 rfl 0 1 it p0 u0 h1
    obtain ⟨_, _, q4⟩ := field_trod hdt q2' 1 g1 rfl 1 1 it p1 u1 h1
    obtain ⟨_, _, q5⟩ := field_trod hdt q2' 2 g2 rfl 2 1 bt p2 u2 h2
    obtain ⟨x0, e0, _, w0⟩ := DataW.trod_int hit q0
    obtain ⟨x1, e1, _, w1⟩ := DataW.trod_int hit q1
    obtain ⟨x2, e2, _, w2⟩ := DataW.trod_int hit q3
    obtain ⟨x3, e3, _, w3⟩ := DataW.trod_int hit q4
    obtain ⟨b, e4, _⟩ := DataW.trod_bool hbt q5
    simp at e0 e1 e2 e3 e4
    exact ⟨⟨x0, x1, x2, x3, b⟩, by rw [e0, e1, e2, e3, e4]; rfl, w0, w1, w2, w3⟩
theorem open_ac {r : Reach} {t it bt dt : TypeId} {f0 f1 f2 g0 g1 g2 : Field} {v : Value} {dd : DataW H} {p : List MemPlace} (he : P.underlying t = some (.struct #[f0, f1, f2])) (hdt : P.underlying dt = some (.struct #[g0, g1, g2])) (hit : P.underlying it = some (.int .i64)) (hbt : P.underlying bt = some .bool) (h1 : P.cellsOf it = 1) (h2 : P.cellsOf bt = 1) (h3 : P.cellsOf dt = 3) (hC : P.cellsOf t = 5)
    (o0 : f0.offset = 0) (o1 : f1.offset = 1) (o2 : f2.offset = 2) (p0 : g0.offset = 0) (p1 : g1.offset = 1) (p2 : g2.offset = 2) (t0 : f0.type = it) (t1 : f1.type = it) (t2 : f2.type = dt) (u0 : g0.type = it) (u1 : g1.type = it) (u2 : g2.type = bt)
    {b0 : Nat} (hv : Value.okWide P w r b0 t v) (h : DataW.Trod enc P w base spare held t v dd p) : ∃ a : Ac, v = .agg (av a).toArray ∧ AcIn a := by
  obtain ⟨cs, rfl, hsz⟩ := okWide_struct he hv
  obtain ⟨l⟩ := cs
  obtain ⟨fuel, hf⟩ := h
  have hl : l.length = 5 := by simpa using hsz.trans hC
  have hf' : DataW.trod enc P w base spare held fuel t l = some (dd, p) := by simpa [Value.cells] using hf
  obtain ⟨a, rfl, ha⟩ := ac_of he hdt hit hbt h1 h2 h3 o0 o1 o2 p0 p1 p2 t0 t1 t2 u0 u1 u2 fuel l _ hl hf'
  exact ⟨a, rfl, ha⟩
end
end Go.Proofs.Ytifgbnjpiphidaa
