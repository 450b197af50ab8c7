/- Proved: DemandNone answers true for every input, and leaves its arguments as they were; no condition. -/
import Derived.Test.YtamjmnoejledbaaRows
import Derived.Test.YtamjmnoejledbaaMem
import Derived.Test.YtamjmnoejledbaaLift
import Derived.Test.YtamjmnoejledbaaDemand
import Derived.WalkKit
import Derived.ProofKit
import Derived.OpenShut
import Derived.Handy
import Derived.Deep.QuietTactic
import Derived.BigQuiet
import Derived.Deep.RegionWith
import Derived.WalkLawsBesides
namespace Go.Proofs.Ytamjmnoejledbaa.DemandNone
open Go.ChangeShapes Go.WideShapes Go.ChangeAt Go.RowKit Go.Deep
set_option linter.unusedVariables false

set_option maxRecDepth 100000 in
set_option maxHeartbeats 4000000 in
theorem walk (w : World) (a0 : Int) (w0 : (Lit.int .i64 a0).wf = true) (a1 : Int) (w1 : (Lit.int .u8 a1).wf = true) :
    Calls Try.prog 5 #[.int .i64 a0, .int .u8 a1] w fun e w' => e = .returned (.bool true) ∧ Below w.heap.size w w' := by
  obtain ⟨b1, b2⟩ := bounds_i64 w0
  obtain ⟨l1, l2⟩ := bounds_u8 w1
  clear w0 w1
  go_enter Try.func5, Try.ntmps5
  go_wp2_with fail
  refine (add_nil _ _).mono ?_
  rintro e w1 ⟨rfl, rfl⟩
  go_wp2_with fail
  refine (new_yes _ _ (by omega) (by omega)).mono ?_
  rintro e w1 ⟨rfl, d1, hb1⟩
  go_wp2_with fail
  refine (copy_any _ 0 (a1 + 1) _ d1).mono ?_
  rintro e w2 ⟨rfl, d2, hb2⟩
  have d1' : Dem w2 w.heap.size 0 (a1 + 1) := Blk.below d1 hb2 (Blk.lt d1)
  have hlt := Blk.lt d1
  go_wp2_with fail
  have h := add_any w1.heap.size 0 (a1 + 1) 1 w2 d2 (by omega) (by omega) (by omega) (by omega) (by omega)
  rw [show min (1 : Int) (a1 + 1 - 0) = 1 by omega, show (0 : Int) + 1 = 1 by decide] at h
  refine h.mono ?_
  clear h
  rintro e w3 ⟨rfl, d3, o3⟩
  have d1'' : Dem w3 w.heap.size 0 (a1 + 1) := Blk.only d1' o3 (by simp; omega)
  have hb3 := bonly (hb1.trans (hb2.mono hb1.size)) o3 (by simp; exact hb1.size)
  go_wp2_with fail
  refine (awake_any _).mono ?_
  rintro e w4 ⟨rfl, hb4⟩
  have d14 : Dem w4 w.heap.size 0 (a1 + 1) := Blk.below d1'' hb4 (Blk.lt d1'')
  have d34 : Dem w4 w1.heap.size 1 (a1 + 1) := Blk.below d3 hb4 (Blk.lt d3)
  have hb4' := hb3.trans (hb4.mono hb3.size)
  go_wp2_with fail
  refine (take_nil _ _).mono ?_
  rintro e w5 ⟨rfl, rfl⟩
  go_wp2_with fail
  refine (upto_nil _ _).mono ?_
  rintro e w5 ⟨rfl, hb5⟩
  have d15 : Dem w5 w.heap.size 0 (a1 + 1) := Blk.below d14 hb5 (Blk.lt d14)
  have d35 : Dem w5 w1.heap.size 1 (a1 + 1) := Blk.below d34 hb5 (Blk.lt d34)
  have hb5' := hb4'.trans (hb5.mono hb4'.size)
  go_wp2_with fail
  refine (left_nil _).mono ?_
  rintro e w6 ⟨rfl, rfl⟩
  go_wp2_with fail
  refine (endless_nil _).mono ?_
  rintro e w6 ⟨rfl, q, rfl⟩
  go_wp2_with fail
  refine (copy_nil _).mono ?_
  rintro e w7 ⟨rfl, hb7⟩
  have d17 : Dem w7 w.heap.size 0 (a1 + 1) := Blk.below (d15.drewN q) hb7 (Blk.lt (d15.drewN q))
  have d37 : Dem w7 w1.heap.size 1 (a1 + 1) := Blk.below (d35.drewN q) hb7 (Blk.lt (d35.drewN q))
  have hb6' := below_drewN hb5' q
  have hb7' := hb6'.trans (hb7.mono hb6'.size)
  go_wp2_with fail
  refine (left_any _ _ _ _ d17).mono ?_
  rintro e w8 ⟨rfl, rfl⟩
  go_wp2_with fail
  refine (left_any _ _ _ _ d37).mono ?_
  rintro e w8 ⟨rfl, rfl⟩
  go_wp2_with fail
  go_ret
  exact ⟨rfl, hb7'⟩

theorem own : ownKnob Try.prog.godebug = none := by kernel_rfl

set_option maxRecDepth 100000 in
theorem lifted (os : Os) (started : os.Started) (H : Type) (enc : TypeId × Value → H) :
    ReturnsInHanded {} Try.checked os 5 .any (Rows.demandNoneSpec.pre6 enc Try.prog Try.f5 Rows.demandNoneRow.domain false) (Rows.demandNoneSpec.post enc Try.prog Try.f5 false true false false) := by
  refine returnsInHanded_of_change (C := Try.checked) own started (by kernel_rfl) Try.func5
    (ChangeSpec.witness6 (enc := enc) (C := Try.checked) false ⟨#[], #[.int .i64 0, .int .u8 0], []⟩ 8 (by kernel_rfl) (by kernel_rfl) (by kernel_rfl) (by kernel_rfl)) ?_
  intro W base args ds gs before hval0 hW hcnd _
  have hval : ∀ (j : Nat) t v, Try.f5.params[j]? = some t → args[j]? = some v → Value.okWide Try.prog W .any base t v := hval0
  have hW' := hW
  obtain ⟨p, q, hA0, hV, rfl, hfz, hnd⟩ := hW
  have hA : DataW.TrodAll enc Try.prog W 0 (fun _ => true) true Try.f5.params.toList args.toList ds p := hA0
  rw [Try.params5] at hA hval
  obtain ⟨v0, vs0, d0, ds0, p0, q0, hargs, rfl, rfl, h0, r0⟩ := trodAll_cons hA
  obtain ⟨v1, vs1, d1, ds1, p1, q1, rfl, rfl, rfl, h1, r1⟩ := trodAll_cons r0
  obtain ⟨rfl, rfl, rfl⟩ := trodAll_nil r1
  obtain rfl : args = #[v0, v1] := by cases args; simp_all
  obtain ⟨rfl, rfl⟩ := trodVars_none hV
  have g0 := h0
  have g1 := h1
  obtain ⟨a0, rfl, _, _, w0⟩ := open_int Try.underlying3 (hval 0 3 v0 rfl rfl) h0
  obtain ⟨a1, rfl, _, _, w1⟩ := open_int Try.underlying5 (hval 1 5 v1 rfl rfl) h1
  clear hA0 hval0
  have hlt : ∀ x ∈ (p0 ++ (p1 ++ [])), x.block < W.heap.size := fun x hx => hW'.lt x (by simpa using hx)
  refine (walk W a0 w0 a1 w1).mono fun e W' ⟨he, hb⟩ => ?_
  subst he
  refine ⟨_, rfl, post_of_below (pa := (p0 ++ (p1 ++ []))) (pv := []) hW' (fun _ _ _ => (trodAll_cons_mk (shut_bool Try.underlying4 _) trodAll_mk0)) (fun sp hsp => ?_) (fun _ _ => rfl) (by simp) hb (ok_one (by kernel_rfl) rfl (okWide_bool_mk Try.underlying4 _))⟩
  exact trodAll_cons_mk (below_trod sp (by kernel_rfl) (by kernel_rfl) (of_decide_eq_true (by kernel_rfl)) g0 hb (fun x hx => hlt x (by simp [hx])) (fun x hx => hsp x (by simp [hx])))
    (trodAll_cons_mk (below_trod sp (by kernel_rfl) (by kernel_rfl) (of_decide_eq_true (by kernel_rfl)) g1 hb (fun x hx => hlt x (by simp [hx])) (fun x hx => hsp x (by simp [hx])))
    (trodAll_mk0))

theorem over : Rows.demandNoneRow.holds Try.pinned (OpenSpec.ofChange Rows.demandNoneSpec) :=
  OpenClaim.holds_of_wide 5 Try.f5 rfl rfl rfl rfl rfl rfl rfl ⟨rfl, rfl, rfl, rfl, rfl⟩ rfl rfl rfl rfl rfl (by kernel_rfl) Try.func5 (by kernel_rfl)
    (of_decide_eq_true (by kernel_rfl)) (by unfold Func.isWrapper; rw [if_neg (by decide +kernel)]; exact ⟨rfl, rfl⟩)
    (fun os started H enc _ => lifted os started H enc)

theorem proved : Rows.DemandNoneSaid := over
#print axioms proved
end Go.Proofs.Ytamjmnoejledbaa.DemandNone
