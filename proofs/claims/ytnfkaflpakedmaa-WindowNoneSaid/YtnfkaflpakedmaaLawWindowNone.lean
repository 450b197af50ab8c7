/- Proved: WindowNone answers true for every input, and leaves its arguments as they were; no condition. -/
import Derived.Test.YtnfkaflpakedmaaRows
import Derived.Test.YtnfkaflpakedmaaMem
import Derived.Test.YtnfkaflpakedmaaLift
import Derived.Test.YtnfkaflpakedmaaWindow
import Derived.WalkKit
import Derived.ProofKit
import Derived.OpenShut
import Derived.Handy
import Derived.Deep.QuietTactic
import Derived.BigQuiet
import Derived.Deep.RegionWith
import Derived.WalkLawsBesides
namespace Go.Proofs.Ytnfkaflpakedmaa.WindowNone
open Go.ChangeShapes Go.WideShapes Go.ChangeAt Go.RowKit Go.Deep
set_option linter.unusedVariables false

set_option maxRecDepth 100000 in
set_option maxHeartbeats 8000000 in
theorem walk (w : World) (x y z : Int) (bx : -9223372036854775808 ≤ x ∧ x ≤ 9223372036854775807) (by_ : -9223372036854775808 ≤ y ∧ y ≤ 9223372036854775807) (bz : -9223372036854775808 ≤ z ∧ z ≤ 9223372036854775807) (a1 : Int) (w1 : (Lit.int .u32 a1).wf = true) :
    Calls Try.prog 5 #[.agg #[.int .i64 x, .int .i64 y, .int .i64 z], .int .u32 a1] w fun e w' => e = .returned (.bool true) ∧ Below w.heap.size w w' := by
  obtain ⟨b1, b2⟩ := bounds_u32 w1
  clear w1
  obtain ⟨y1, y2⟩ := by_
  obtain ⟨z1, z2⟩ := bz
  have hq1 : 0 ≤ a1 % 2147483648 := by omega
  have hq2 : a1 % 2147483648 < 2147483648 := by omega
  go_enter Try.func5, Try.ntmps5
  go_wp2_with fail
  refine (new_yes _ _ (by omega) (by omega)).mono ?_
  rintro e w1 ⟨rfl, d1, hb1⟩
  go_wp2_with fail
  have hB1 : Below w.heap.size w w1 := ((Below.refl _ _).alloc (Nat.le_refl _) _).trans (hb1.mono (by simp))
  have d1 : Win w1 (w.heap.size + 1) (a1 % 2147483648) := by simpa only [World.size_alloc] using d1
  have bx1 : Blk w1 w.heap.size 31 #[.int .i64 x, .int .i64 y, .int .i64 z] := Blk.below (Blk.new _ _ _) hb1 (by simp)
  have hlt1 := Blk.lt d1
  refine (copy_any _ _ _ d1).mono ?_
  rintro e w2 ⟨rfl, d2, hb2⟩
  have d1' : Win w2 (w.heap.size + 1) (a1 % 2147483648) := Blk.below d1 hb2 hlt1
  have bx2 : Blk w2 w.heap.size 31 #[.int .i64 x, .int .i64 y, .int .i64 z] := Blk.below bx1 hb2 (by omega)
  have hB2 := hB1.trans (hb2.mono hB1.size)
  have x0 := Blk.cell bx2 0
  have x1 := Blk.cell bx2 1
  have x2 := Blk.cell bx2 2
  simp at x0 x1 x2
  go_wp2_with fail
  go_region_with (first | (go_at_call 9; refine (size_any _ (a1 % 2147483648) _ (by exact d2)).mono ?_; rintro e w3 ⟨rfl, rfl⟩) | (go_at_call 8; refine (do_any _ (a1 % 2147483648) _ _ _ _ (by exact d2) (by omega) (by omega) y1 y2 z1 z2).mono ?_; rintro e w4 ⟨m4, rfl, m41, m42, d4, o4⟩))
  all_goals
    have hB3 : Below w.heap.size w w4 := bonly (below_drewN hB2 1) o4 (by simp; exact hB1.size)
    have e1 : Win w4 (w.heap.size + 1) (a1 % 2147483648) := Blk.only (Blk.drew d1') o4 (by simp; omega)
    have bx4 : Blk w4 w.heap.size 31 #[.int .i64 x, .int .i64 y, .int .i64 z] := Blk.only (Blk.drew bx2) o4 (by simp; omega)
    clear x0 x1 x2 d1' bx2 d1 bx1 hB2 hB1 hb1 hb2 d2 o4
    go_wp2_with fail
    refine (awake_any _).mono ?_
    rintro e w5 ⟨rfl, hb5⟩
    have e5 : Win w5 (w.heap.size + 1) (a1 % 2147483648) := Blk.below e1 hb5 (Blk.lt e1)
    have bx5 : Blk w5 w.heap.size 31 #[.int .i64 x, .int .i64 y, .int .i64 z] := Blk.below bx4 hb5 (Blk.lt bx4)
    have hB5 := hB3.trans (hb5.mono hB3.size)
    have x1 := Blk.cell bx5 1
    have x2 := Blk.cell bx5 2
    simp at x1 x2
    go_wp2_with fail
    refine (grow_nil _ _).mono ?_
    rintro e w6 ⟨rfl, rfl⟩
    go_wp2_with fail
    refine (spend_nil _ _).mono ?_
    rintro e w6 ⟨rfl, rfl⟩
    go_wp2_with fail
    refine (resize_nil _ _ _).mono ?_
    rintro e w6 ⟨rfl, rfl⟩
    go_wp2_with fail
    refine (size_nil _).mono ?_
    rintro e w6 ⟨rfl, rfl⟩
    go_wp2_with fail
    refine (free_nil _).mono ?_
    rintro e w6 ⟨rfl, rfl⟩
    go_wp2_with fail
    refine (copy_nil _).mono ?_
    rintro e w6 ⟨rfl, rfl⟩
    go_wp2_with fail
    refine (size_any _ (a1 % 2147483648) _ e5).mono ?_
    rintro e w6 ⟨rfl, rfl⟩
    go_wp2_with fail
    go_ret
    exact ⟨rfl, hB5⟩

theorem own : ownKnob Try.prog.godebug = none := by kernel_rfl

set_option maxRecDepth 100000 in
theorem lifted (os : Os) (started : os.Started) (H : Type) (enc : TypeId × Value → H) :
    ReturnsInHanded {} Try.checked os 5 .any (Rows.windowNoneSpec.pre6 enc Try.prog Try.f5 Rows.windowNoneRow.domain false) (Rows.windowNoneSpec.post enc Try.prog Try.f5 false true false false) := by
  refine returnsInHanded_of_change (C := Try.checked) own started (by kernel_rfl) Try.func5
    (ChangeSpec.witness6 (enc := enc) (C := Try.checked) false ⟨#[], #[.agg #[.int .i64 0, .int .i64 0, .int .i64 0], .int .u32 0], []⟩ 8 (by kernel_rfl) (by kernel_rfl) (by kernel_rfl) (by kernel_rfl)) ?_
  intro W base args ds gs before hval0 hW hcnd _
  have hval : ∀ (j : Nat) t v, Try.f5.params[j]? = some t → args[j]? = some v → Value.okWide Try.prog W .any base t v := hval0
  have hW' := hW
  obtain ⟨p, q, hA0, hV, rfl, hfz, hnd⟩ := hW
  have hA : DataW.TrodAll enc Try.prog W 0 (fun _ => true) true Try.f5.params.toList args.toList ds p := hA0
  rw [Try.params5] at hA hval
  obtain ⟨v0, vs0, d0, ds0, p0, q0, hargs, rfl, rfl, h0, r0⟩ := trodAll_cons hA
  obtain ⟨v1, vs1, d1, ds1, p1, q1, rfl, rfl, rfl, h1, r1⟩ := trodAll_cons r0
  obtain ⟨rfl, rfl, rfl⟩ := trodAll_nil r1
  obtain rfl : args = #[v0, v1] := by cases args; simp_all
  obtain ⟨rfl, rfl⟩ := trodVars_none hV
  have g0 := h0
  have g1 := h1
  obtain ⟨x0, y0, z0, rfl, bx0, by0, bz0⟩ := open_ints3 Try.underlying31 Try.underlying3 (by kernel_rfl) (by kernel_rfl) rfl rfl rfl rfl rfl rfl (hval 0 31 v0 rfl rfl) h0
  obtain ⟨a1, rfl, _, _, w1⟩ := open_int Try.underlying34 (hval 1 34 v1 rfl rfl) h1
  clear hA0 hval0
  have hlt : ∀ x ∈ (p0 ++ (p1 ++ [])), x.block < W.heap.size := fun x hx => hW'.lt x (by simpa using hx)
  refine (walk W x0 y0 z0 bx0 by0 bz0 a1 w1).mono fun e W' ⟨he, hb⟩ => ?_
  subst he
  refine ⟨_, rfl, post_of_below (pa := (p0 ++ (p1 ++ []))) (pv := []) hW' (fun _ _ _ => (trodAll_cons_mk (shut_bool Try.underlying4 _) trodAll_mk0)) (fun sp hsp => ?_) (fun _ _ => rfl) (by simp) hb (ok_one (by kernel_rfl) rfl (okWide_bool_mk Try.underlying4 _))⟩
  exact trodAll_cons_mk (below_trod sp (by kernel_rfl) (by kernel_rfl) (of_decide_eq_true (by kernel_rfl)) g0 hb (fun x hx => hlt x (by simp [hx])) (fun x hx => hsp x (by simp [hx])))
    (trodAll_cons_mk (below_trod sp (by kernel_rfl) (by kernel_rfl) (of_decide_eq_true (by kernel_rfl)) g1 hb (fun x hx => hlt x (by simp [hx])) (fun x hx => hsp x (by simp [hx])))
    (trodAll_mk0))

theorem over : Rows.windowNoneRow.holds Try.pinned (OpenSpec.ofChange Rows.windowNoneSpec) :=
  OpenClaim.holds_of_wide 5 Try.f5 rfl rfl rfl rfl rfl rfl rfl ⟨rfl, rfl, rfl, rfl, rfl⟩ rfl rfl rfl rfl rfl (by kernel_rfl) Try.func5 (by kernel_rfl)
    (of_decide_eq_true (by kernel_rfl)) (by unfold Func.isWrapper; rw [if_neg (by decide +kernel)]; exact ⟨rfl, rfl⟩)
    (fun os started H enc _ => lifted os started H enc)

theorem proved : Rows.WindowNoneSaid := over
#print axioms proved
end Go.Proofs.Ytnfkaflpakedmaa.WindowNone
