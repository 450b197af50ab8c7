/- Proved: WindowDoes answers true for every input, and leaves its arguments as they were; no condition. -/
import Derived.Test.YtnfkaflpakedmaaRows
import Derived.Test.YtnfkaflpakedmaaMem
import Derived.Test.YtnfkaflpakedmaaLift
import Derived.Test.YtnfkaflpakedmaaWindow
import Derived.WalkKit
import Derived.ProofKit
import Derived.OpenShut
import Derived.Handy
import Derived.Deep.QuietTactic
import Derived.BigQuiet
import Derived.Deep.RegionWith
import Derived.WalkLawsBesides
namespace Go.Proofs.Ytnfkaflpakedmaa.WindowDoes
open Go.ChangeShapes Go.WideShapes Go.ChangeAt Go.RowKit Go.Deep
set_option linter.unusedVariables false

set_option maxRecDepth 100000 in
set_option maxHeartbeats 4000000 in
theorem walk (w : World) (a0 : Int) (w0 : (Lit.int .i64 a0).wf = true) (v1 : Value) (n : Nat) (C : Nat → List Value) (h1 : RowsAt w v1 n 3 Three C) :
    Calls Try.prog 3 #[.int .i64 a0, v1] w fun e w' => e = .returned (.bool true) ∧ Below w.heap.size w w' := by
  obtain ⟨A, cap, rfl, hnc, hcap, hcells⟩ := h1
  have HC := Lib.hid hcells
  clear hcells
  obtain ⟨b1, b2⟩ := bounds_i64 w0
  clear w0
  by_cases hr1 : a0 < 0
  · go_enter Try.func3, Try.ntmps3
    go_wp2_with fail
    refine (new_no _ _ (.inl hr1)).mono ?_
    rintro e w1 ⟨rfl, rfl⟩
    go_wp2_with fail
    refine (awake_any _).mono ?_
    rintro e w2 ⟨rfl, hb2⟩
    go_wp2_with fail
    go_ret
    exact ⟨rfl, hb2⟩
  by_cases hr2 : 2147483647 < a0
  · go_enter Try.func3, Try.ntmps3
    go_wp2_with fail
    refine (new_no _ _ (.inr hr2)).mono ?_
    rintro e w1 ⟨rfl, rfl⟩
    go_wp2_with fail
    refine (awake_any _).mono ?_
    rintro e w2 ⟨rfl, hb2⟩
    go_wp2_with fail
    go_ret
    exact ⟨rfl, hb2⟩
  have hr3 : 0 ≤ a0 := by omega
  have hr4 : a0 ≤ 2147483647 := by omega
  clear hr1 hr2
  go_enter Try.func3, Try.ntmps3
  go_wp2_with fail
  refine (new_yes _ _ hr3 hr4).mono ?_
  rintro e w1 ⟨rfl, d1, hb1⟩
  go_wp2_with fail
  go_loopw [0, 7] (fun nv iv wr => ∃ (k : Nat) (m : Int), k ≤ 100 ∧ iv = .int .i64 k ∧ nv = .int .i64 m ∧ -2147483647 ≤ m ∧ m ≤ 2147483647 ∧ Win wr w.heap.size m ∧ Below w.heap.size w wr) (fun _ i _ => 100 - (intOf i).toNat)
  case atStart => exact ⟨0, a0, by omega, rfl, rfl, by omega, by omega, d1, hb1⟩
  case round =>
    obtain ⟨k, m, hk, rfl, rfl, hm0, hm1, dr, hbr⟩ := hrel
    by_cases hlt : k < n
    · by_cases hlt2 : k < 100
      · obtain ⟨b, off, kd, x, y, rfl, hbl, _, c0, c1, c2, _, ⟨x1, x2⟩, ⟨y1, y2⟩⟩ := RowsAt.three HC.out hlt
        rw [← hbr.cell (p := ⟨b, off + k * 3, none⟩) hbl] at c0
        rw [← hbr.cell (p := ⟨b, off + k * 3 + 1, none⟩) hbl] at c1
        rw [← hbr.cell (p := ⟨b, off + k * 3 + 2, none⟩) hbl] at c2
        go_wp2_with fail
        refine (do_any _ m kd x y _ dr hm0 hm1 x1 x2 y1 y2).mono ?_
        rintro e w2 ⟨m2, rfl, hm2, hm3, d2, o2⟩
        have hb2 : Below w.heap.size w w2 := bonly hbr o2 (by simp)
        by_cases hp : m2 < 0
        · have hF := fun W (hW : Win W w.heap.size m2) => free_any _ m2 W hW
          rw [Int.max_eq_right (by omega)] at hF
          have HF := Lib.hid hF
          clear hF
          go_wp2_with fail
          refine (size_any _ m2 _ d2).mono ?_
          rintro e w3 ⟨rfl, rfl⟩
          go_wp2_with fail
          refine (HF.out _ d2).mono ?_
          rintro e w3 ⟨rfl, rfl⟩
          go_wp2_with fail
          go_roundw
          case rel => exact ⟨k + 1, m2, by omega, by go_num, rfl, hm2, hm3, d2, hb2⟩
          case measure => simp [intOf]; omega
        · have hF := fun W (hW : Win W w.heap.size m2) => free_any _ m2 W hW
          rw [Int.max_eq_left (by omega)] at hF
          have HF := Lib.hid hF
          clear hF
          go_wp2_with fail
          refine (size_any _ m2 _ d2).mono ?_
          rintro e w3 ⟨rfl, rfl⟩
          go_wp2_with fail
          refine (HF.out _ d2).mono ?_
          rintro e w3 ⟨rfl, rfl⟩
          go_wp2_with fail
          go_roundw
          case rel => exact ⟨k + 1, m2, by omega, by go_num, rfl, hm2, hm3, d2, hb2⟩
          case measure => simp [intOf]; omega
      · go_wp2_with fail
        refine (awake_any _).mono ?_
        rintro e w2 ⟨rfl, hb2⟩
        go_wp2_with fail
        go_ret
        exact ⟨rfl, hbr.trans (hb2.mono hbr.size)⟩
    · go_wp2_with fail
      refine (awake_any _).mono ?_
      rintro e w2 ⟨rfl, hb2⟩
      go_wp2_with fail
      go_ret
      exact ⟨rfl, hbr.trans (hb2.mono hbr.size)⟩

theorem own : ownKnob Try.prog.godebug = none := by kernel_rfl

set_option maxRecDepth 100000 in
theorem lifted (os : Os) (started : os.Started) (H : Type) (enc : TypeId × Value → H) :
    ReturnsInHanded {} Try.checked os 3 .any (Rows.windowDoesSpec.pre6 enc Try.prog Try.f3 Rows.windowDoesRow.domain false) (Rows.windowDoesSpec.post enc Try.prog Try.f3 false true false false) := by
  refine returnsInHanded_of_change (C := Try.checked) own started (by kernel_rfl) Try.func3
    (ChangeSpec.witness6 (enc := enc) (C := Try.checked) false ⟨#[], #[.int .i64 0, .slice none 0 0], []⟩ 8 (by kernel_rfl) (by kernel_rfl) (by kernel_rfl) (by kernel_rfl)) ?_
  intro W base args ds gs before hval0 hW hcnd _
  have hval : ∀ (j : Nat) t v, Try.f3.params[j]? = some t → args[j]? = some v → Value.okWide Try.prog W .any base t v := hval0
  have hW' := hW
  obtain ⟨p, q, hA0, hV, rfl, hfz, hnd⟩ := hW
  have hA : DataW.TrodAll enc Try.prog W 0 (fun _ => true) true Try.f3.params.toList args.toList ds p := hA0
  rw [Try.params3] at hA hval
  obtain ⟨v0, vs0, d0, ds0, p0, q0, hargs, rfl, rfl, h0, r0⟩ := trodAll_cons hA
  obtain ⟨v1, vs1, d1, ds1, p1, q1, rfl, rfl, rfl, h1, r1⟩ := trodAll_cons r0
  obtain ⟨rfl, rfl, rfl⟩ := trodAll_nil r1
  obtain rfl : args = #[v0, v1] := by cases args; simp_all
  obtain ⟨rfl, rfl⟩ := trodVars_none hV
  have g0 := h0
  have g1 := h1
  obtain ⟨a0, rfl, _, _, w0⟩ := open_int Try.underlying3 (hval 0 3 v0 rfl rfl) h0
  obtain ⟨n1, C1, k1⟩ := open_rows Try.underlying22 (by kernel_rfl) (by decide) (three_of Try.underlying31 Try.underlying3 (by kernel_rfl) rfl rfl rfl rfl rfl rfl) (hval 1 22 v1 rfl rfl) h1
  clear hA0 hval0
  have hlt : ∀ x ∈ (p0 ++ (p1 ++ [])), x.block < W.heap.size := fun x hx => hW'.lt x (by simpa using hx)
  refine (walk W a0 w0 v1 n1 C1 k1).mono fun e W' ⟨he, hb⟩ => ?_
  subst he
  refine ⟨_, rfl, post_of_below (pa := (p0 ++ (p1 ++ []))) (pv := []) hW' (fun _ _ _ => (trodAll_cons_mk (shut_bool Try.underlying4 _) trodAll_mk0)) (fun sp hsp => ?_) (fun _ _ => rfl) (by simp) hb (ok_one (by kernel_rfl) rfl (okWide_bool_mk Try.underlying4 _))⟩
  exact trodAll_cons_mk (below_trod sp (by kernel_rfl) (by kernel_rfl) (of_decide_eq_true (by kernel_rfl)) g0 hb (fun x hx => hlt x (by simp [hx])) (fun x hx => hsp x (by simp [hx])))
    (trodAll_cons_mk (below_trod sp (by kernel_rfl) (by kernel_rfl) (of_decide_eq_true (by kernel_rfl)) g1 hb (fun x hx => hlt x (by simp [hx])) (fun x hx => hsp x (by simp [hx])))
    (trodAll_mk0))

theorem over : Rows.windowDoesRow.holds Try.pinned (OpenSpec.ofChange Rows.windowDoesSpec) :=
  OpenClaim.holds_of_wide 3 Try.f3 rfl rfl rfl rfl rfl rfl rfl ⟨rfl, rfl, rfl, rfl, rfl⟩ rfl rfl rfl rfl rfl (by kernel_rfl) Try.func3 (by kernel_rfl)
    (of_decide_eq_true (by kernel_rfl)) (by unfold Func.isWrapper; rw [if_neg (by decide +kernel)]; exact ⟨rfl, rfl⟩)
    (fun os started H enc _ => lifted os started H enc)

theorem proved : Rows.WindowDoesSaid := over
#print axioms proved
end Go.Proofs.Ytnfkaflpakedmaa.WindowDoes
