/- Proved: TallySums answers true for every input, and leaves its arguments as they were; no condition. -/
import Derived.Test.YteokepnkgdhkkaaRows
import Derived.Test.YteokepnkgdhkkaaMem
import Derived.Test.YteokepnkgdhkkaaLift
import Derived.Test.YteokepnkgdhkkaaTalE
import Derived.WalkKit
import Derived.ProofKit
import Derived.OpenShut
import Derived.Handy
import Derived.Deep.QuietTactic
import Derived.BigQuiet
import Derived.Deep.RegionWith
import Derived.WalkLawsBesides
import Derived.Deep.RegionHeld3
namespace Go.Proofs.Yteokepnkgdhkkaa.TallySums
open Go.ChangeShapes Go.WideShapes Go.ChangeAt Go.RowKit Go.Deep
set_option linter.unusedVariables false

set_option maxRecDepth 100000 in
set_option maxHeartbeats 4000000 in
theorem walk (w : World) (v0 : Value) (n : Nat) (C : Nat → List Value) (h0 : RowsAt w v0 n 5 MvOk C) :
    Calls Try.prog 3 #[v0] w fun e w' => e = .returned (.bool true) ∧ Below w.heap.size w w' := by
  obtain ⟨A, c, L, rfl, hm, hwf⟩ := mvs_of_rows h0
  have HC := Lib.hid (cut_any w.heap.size n c A L w hm)
  have HW := Lib.hid hwf
  clear h0 hm hwf
  go_enter Try.func3, Try.ntmps3
  go_wp2_with fail
  refine HC.out.mono ?_
  rintro e w1 ⟨m, rfl, hm, hm2, rfl⟩
  have HM := Lib.hid hm
  have hl := hm.len
  have HWl : Hid (∀ a ∈ L.take 200, (Lit.int .i64 a.st).wf = true) := fun a ha => HW.out a (List.mem_of_mem_take ha)
  have HL := Lib.hid (ofL_length (L.take 200))
  clear hm HW
  generalize L.take 200 = l at *
  have hlm : (ofL l).length ≤ 5000 := by have := HL.out; omega
  clear hl
  go_wp2_with (first
    | (go_at_call 8
       refine (awake_any _).mono ?_
       rintro e w2 ⟨rfl, b2⟩
       have H2 := Lib.hid (And.intro (HM.out.below b2) b2)
       have hs2 := b2.size
       clear b2)
    | (go_at_call 10
       refine (of_any w.heap.size m c A l w2 H2.out.1 hs2 (by omega) HWl.out).mono ?_
       rintro e w3 ⟨A3, c3, rfl, h3, b3⟩
       have hs3 := b3.size
       have H3 := Lib.hid (And.intro h3 (And.intro (H2.out.1.below (b3.mono hs2)) (H2.out.2.trans (b3.mono hs2))))
       clear h3 b3)
    | (go_at_call 11
       refine (rof_any w.heap.size m c A l w3 H3.out.2.1 (by omega) (by omega)).mono ?_
       rintro e w4 ⟨A4, c4, rfl, h4, b4⟩
       have H4 := Lib.hid (And.intro h4 (And.intro (H3.out.1.below b4) (H3.out.2.2.trans (b4.mono H3.out.2.2.size))))
       clear h4 b4)
    | (go_at_call 9
       refine (same_any _ _ _ _ _ _ _ _ (ofL l) w4 H4.out.2.1 H4.out.1 (by omega)).mono ?_
       rintro e w5 ⟨rfl, q, rfl⟩))
  go_ret
  exact ⟨rfl, below_drewN H4.out.2.2 q⟩

theorem own : ownKnob Try.prog.godebug = none := by kernel_rfl

set_option maxRecDepth 100000 in
theorem lifted (os : Os) (started : os.Started) (H : Type) (enc : TypeId × Value → H) :
    ReturnsInHanded {} Try.checked os 3 .any (Rows.tallySumsSpec.pre6 enc Try.prog Try.f3 Rows.tallySumsRow.domain false) (Rows.tallySumsSpec.post enc Try.prog Try.f3 false true false false) := by
  refine returnsInHanded_of_change (C := Try.checked) own started (by kernel_rfl) Try.func3
    (ChangeSpec.witness6 (enc := enc) (C := Try.checked) false ⟨#[], #[.slice none 0 0], []⟩ 8 (by kernel_rfl) (by kernel_rfl) (by kernel_rfl) (by kernel_rfl)) ?_
  intro W base args ds gs before hval0 hW hcnd _
  have hval : ∀ (j : Nat) t v, Try.f3.params[j]? = some t → args[j]? = some v → Value.okWide Try.prog W .any base t v := hval0
  have hW' := hW
  obtain ⟨p, q, hA0, hV, rfl, hfz, hnd⟩ := hW
  have hA : DataW.TrodAll enc Try.prog W 0 (fun _ => true) true Try.f3.params.toList args.toList ds p := hA0
  rw [Try.params3] at hA hval
  obtain ⟨v0, vs0, d0, ds0, p0, q0, hargs, rfl, rfl, h0, r0⟩ := trodAll_cons hA
  obtain ⟨rfl, rfl, rfl⟩ := trodAll_nil r0
  obtain rfl : args = #[v0] := by cases args; simp_all
  obtain ⟨rfl, rfl⟩ := trodVars_none hV
  have g0 := h0
  obtain ⟨n0, C0, k0⟩ := open_rows Try.underlying22 (by kernel_rfl) (by decide) (mv_of Try.underlying45 Try.underlying3 Try.underlying9 Try.underlying4 (by kernel_rfl) (by kernel_rfl) (by kernel_rfl) rfl rfl rfl rfl rfl rfl rfl rfl rfl rfl) (hval 0 22 v0 rfl rfl) h0
  clear hA0 hval0
  have hlt : ∀ x ∈ (p0 ++ []), x.block < W.heap.size := fun x hx => hW'.lt x (by simpa using hx)
  refine (walk W v0 n0 C0 k0).mono fun e W' ⟨he, hb⟩ => ?_
  subst he
  refine ⟨_, rfl, post_of_below (pa := (p0 ++ [])) (pv := []) hW' (fun _ _ _ => (trodAll_cons_mk (shut_bool Try.underlying4 _) trodAll_mk0)) (fun sp hsp => ?_) (fun _ _ => rfl) (by simp) hb (ok_one (by kernel_rfl) rfl (okWide_bool_mk Try.underlying4 _))⟩
  exact trodAll_cons_mk (below_trod sp (by kernel_rfl) (by kernel_rfl) (of_decide_eq_true (by kernel_rfl)) g0 hb (fun x hx => hlt x (by simp [hx])) (fun x hx => hsp x (by simp [hx])))
    (trodAll_mk0)

theorem over : Rows.tallySumsRow.holds Try.pinned (OpenSpec.ofChange Rows.tallySumsSpec) :=
  OpenClaim.holds_of_wide 3 Try.f3 rfl rfl rfl rfl rfl rfl rfl ⟨rfl, rfl, rfl, rfl, rfl⟩ rfl rfl rfl rfl rfl (by kernel_rfl) Try.func3 (by kernel_rfl)
    (of_decide_eq_true (by kernel_rfl)) (by unfold Func.isWrapper; rw [if_neg (by decide +kernel)]; exact ⟨rfl, rfl⟩)
    (fun os started H enc _ => lifted os started H enc)

theorem proved : Rows.TallySumsSaid := over
#print axioms proved
end Go.Proofs.Yteokepnkgdhkkaa.TallySums
