/- Proved: ShareFair answers true for every input, and leaves its arguments as they were; no condition. -/
import Derived.Test.YtodkifkphhfnpaaRows
import Derived.Test.YtodkifkphhfnpaaMem
import Derived.Test.YtodkifkphhfnpaaLift
import Derived.Test.YtodkifkphhfnpaaShareAw
import Derived.WalkKit
import Derived.ProofKit
import Derived.OpenShut
import Derived.Handy
import Derived.Deep.QuietTactic
import Derived.BigQuiet
import Derived.Deep.RegionWith
import Derived.WalkLawsBesides
import Derived.Test.YtodkifkphhfnpaaShare7
namespace Go.Proofs.Ytodkifkphhfnpaa.ShareFair
open Go.ChangeShapes Go.WideShapes Go.ChangeAt Go.RowKit Go.Deep
set_option linter.unusedVariables false

set_option maxRecDepth 100000 in
set_option maxHeartbeats 8000000 in
theorem walk (w : World) (a0 : Int) (w0 : (Lit.int .u32 a0).wf = true) (v1 : Value) (n : Nat) (C : Nat → List Value) (h1 : RowsAt w v1 n 2 Two C) :
    Calls Try.prog 3 #[.int .u32 a0, v1] w fun e w' => e = .returned (.bool true) ∧ Below w.heap.size w w' := by
  obtain ⟨X, Y, hc⟩ := claims_of h1
  clear h1 C
  obtain ⟨b1, b2⟩ := bounds_u32 w0
  clear w0
  have hCut := cut_any v1 n X Y w hc
  obtain ⟨⟨A0, cap0, rfl, hnc0, hcap0, _, _⟩, _, _⟩ := hc
  have HCut := Lib.hid hCut
  have hk : min n 40 ≤ 40 := Nat.min_le_right _ _
  generalize min n 40 = k at *
  have hm0 : 0 ≤ a0 % 2147483648 := by omega
  have hm1 : a0 % 2147483648 ≤ 2147483647 := by omega
  clear hCut
  go_enter Try.func3, Try.ntmps3
  go_wp2_with fail
  refine HCut.out.mono ?_
  rintro e w1 ⟨⟨v', rfl, hc⟩, rfl⟩
  generalize hK : a0 % 2147483648 = K at *
  have hc' := hc
  obtain ⟨⟨A, cap, rfl, hnc, hcap, hA0, hcells⟩, bx, bY⟩ := hc
  have HC := Lib.hid hc'
  have HS := Lib.hid (share_ok K _ k X Y w hc' (by omega) hm0 hm1)
  have HCE := Lib.hid (And.intro hcells (And.intro bx bY))
  clear hc' hA0 hcells bx bY
  go_wp2_with fail
  refine HS.out.mono ?_
  rintro e w2 ⟨A1, c1, h, rfl, hr1, hE, b1⟩
  have HR1 := Lib.hid hr1
  have HE := Lib.hid hE
  have HB1 := Lib.hid b1
  clear hr1 hE b1
  go_wp2_with fail
  refine (awake_any _).mono ?_
  rintro e w3 ⟨rfl, b3⟩
  have HR3 := Lib.hid (HR1.out.below b3)
  have hB3 := HB1.out.trans (b3.mono HB1.out.size)
  have HC3 := Lib.hid (HC.out.below hB3 (Nat.le_refl _))
  have HB3 := Lib.hid hB3
  clear hB3 b3
  have F := fits_of K k X Y hm0 hm1
  have I := HE.out.inv F.ok
  have FA := HE.out.fair F.ok
  have HI := Lib.hid (And.intro I.lo I.hi)
  have HBD := Lib.hid (fun j hj => F.want1 j hj)
  have HFA := Lib.hid FA
  clear F I FA
  go_wp2_with fail
  go_loopw [8] (fun iv wr => ∃ m q : Nat, m ≤ k ∧ iv = .int .i64 m ∧ wr = w3.drewN q) (fun i _ => k - (intOf i).toNat)
  case atStart => exact ⟨0, 0, by omega, rfl, rfl⟩
  case round =>
    obtain ⟨m, q, hm, rfl, rfl⟩ := hrel
    by_cases hlt : m < k
    · obtain ⟨g, rfl, i⟩ := HR3.out.2 (by omega)
      have x1 := i.cell hlt
      obtain ⟨b, off, rfl, hbl, c0, c1⟩ := HCE.out.1 m hlt
      have hx := HCE.out.2.1 m hlt
      have hy := HCE.out.2.2 m hlt
      rw [← HB3.out.cell (p := ⟨b, off + m * 2, none⟩) (by simp; omega)] at c0
      rw [← HB3.out.cell (p := ⟨b, off + m * 2 + 1, none⟩) (by simp; omega)] at c1
      have p1 := HI.out.1 m hlt
      have p2 : h m ≤ wantOf (X m) := HI.out.2 m hlt
      have p3 : wantOf (X m) ≤ 2147483647 := HBD.out m hlt
      have HIc := Lib.hid i
      clear i
      by_cases he : h m = wantOf (X m)
      · rw [he] at x1
        have HEq := Lib.hid he
        clear he
        go_wp2_with fail
        go_quiet ((go_at_call 10; first | exact quiet_left (want_any _ _) | exact quiet_add_left (want_any _ _)))
        go_wp2_with fail
        go_roundw
        case rel => exact ⟨m + 1, _, by omega, by go_num, rfl⟩
        case measure => simp [intOf]; omega
      · have hu : h m < wantOf (X m) := by omega
        have eb : (h m == wantOf (X m)) = false := by simp [he]
        have HW := Lib.hid (fun j (hj : j < k) (hw : wtOf (Y j) ≤ wtOf (Y m)) => HFA.out m hlt hu j hj hw)
        clear he
        go_wp2_with fail
        go_quiet ((go_at_call 10; first | exact quiet_left (want_any _ _) | exact quiet_add_left (want_any _ _)))
        go_wp2_with fail
        go_loopw [9] (fun iv wr => ∃ j q : Nat, j ≤ k ∧ iv = .int .i64 j ∧ wr = w3.drewN q) (fun i _ => k - (intOf i).toNat)
        case atStart => exact ⟨0, _, by omega, rfl, World.drewN_drewN _ _ _⟩
        case round =>
          obtain ⟨j, q', hj, rfl, rfl⟩ := hrel
          by_cases hlt2 : j < k
          · have y1 := HIc.out.cell hlt2
            obtain ⟨b', off', hA', hbl', d0, d1⟩ := HCE.out.1 j hlt2
            obtain ⟨rfl, rfl⟩ : b = b' ∧ off = off' := by simpa using hA'
            have hy' := HCE.out.2.2 j hlt2
            rw [← HB3.out.cell (p := ⟨b, off + j * 2 + 1, none⟩) (by simp; omega)] at d1
            have p1' := HI.out.1 j hlt2
            have p2' : h j ≤ wantOf (X j) := HI.out.2 j hlt2
            have p3' : wantOf (X j) ≤ 2147483647 := HBD.out j hlt2
            by_cases hw : wtOf (Y j) ≤ wtOf (Y m)
            · have hf := HW.out j hlt2 hw
              clear hA' d0
              go_wp2_with fail
              go_quiet ((go_at_call 11; first | exact quiet_left (weight_any _ _) | exact quiet_add_left (weight_any _ _)))
              go_wp2_with fail
              go_roundw
              case rel => exact ⟨j + 1, _, by omega, by go_num, rfl⟩
              case measure => simp [intOf]; omega
            · have hw' : wtOf (Y m) < wtOf (Y j) := by omega
              have hw2 : decide (wtOf (Y j) ≤ wtOf (Y m)) = false := by simp; omega
              clear hA' d0
              go_wp2_with fail
              go_quiet ((go_at_call 11; first | exact quiet_left (weight_any _ _) | exact quiet_add_left (weight_any _ _)))
              go_wp2_with fail
              go_roundw
              case rel => exact ⟨j + 1, _, by omega, by go_num, rfl⟩
              case measure => simp [intOf]; omega
          · obtain rfl : k = j := by omega
            go_wp2_with fail
            go_roundw
            case rel => exact ⟨m + 1, _, by omega, by go_num, rfl⟩
            case measure => simp [intOf]; omega
    · obtain rfl : k = m := by omega
      go_wp2_with fail
      go_ret
      exact ⟨rfl, below_drewN HB3.out q⟩

theorem own : ownKnob Try.prog.godebug = none := by kernel_rfl

set_option maxRecDepth 100000 in
theorem lifted (os : Os) (started : os.Started) (H : Type) (enc : TypeId × Value → H) :
    ReturnsInHanded {} Try.checked os 3 .any (Rows.shareFairSpec.pre6 enc Try.prog Try.f3 Rows.shareFairRow.domain false) (Rows.shareFairSpec.post enc Try.prog Try.f3 false true false false) := by
  refine returnsInHanded_of_change (C := Try.checked) own started (by kernel_rfl) Try.func3
    (ChangeSpec.witness6 (enc := enc) (C := Try.checked) false ⟨#[], #[.int .u32 0, .slice none 0 0], []⟩ 8 (by kernel_rfl) (by kernel_rfl) (by kernel_rfl) (by kernel_rfl)) ?_
  intro W base args ds gs before hval0 hW hcnd _
  have hval : ∀ (j : Nat) t v, Try.f3.params[j]? = some t → args[j]? = some v → Value.okWide Try.prog W .any base t v := hval0
  have hW' := hW
  obtain ⟨p, q, hA0, hV, rfl, hfz, hnd⟩ := hW
  have hA : DataW.TrodAll enc Try.prog W 0 (fun _ => true) true Try.f3.params.toList args.toList ds p := hA0
  rw [Try.params3] at hA hval
  obtain ⟨v0, vs0, d0, ds0, p0, q0, hargs, rfl, rfl, h0, r0⟩ := trodAll_cons hA
  obtain ⟨v1, vs1, d1, ds1, p1, q1, rfl, rfl, rfl, h1, r1⟩ := trodAll_cons r0
  obtain ⟨rfl, rfl, rfl⟩ := trodAll_nil r1
  obtain rfl : args = #[v0, v1] := by cases args; simp_all
  obtain ⟨rfl, rfl⟩ := trodVars_none hV
  have g0 := h0
  have g1 := h1
  obtain ⟨a0, rfl, _, _, w0⟩ := open_int Try.underlying22 (hval 0 22 v0 rfl rfl) h0
  obtain ⟨n1, C1, k1⟩ := open_rows Try.underlying23 (by kernel_rfl) (by decide) (two_of Try.underlying32 Try.underlying3 (by kernel_rfl) rfl rfl rfl rfl) (hval 1 23 v1 rfl rfl) h1
  clear hA0 hval0
  have hlt : ∀ x ∈ (p0 ++ (p1 ++ [])), x.block < W.heap.size := fun x hx => hW'.lt x (by simpa using hx)
  refine (walk W a0 w0 v1 n1 C1 k1).mono fun e W' ⟨he, hb⟩ => ?_
  subst he
  refine ⟨_, rfl, post_of_below (pa := (p0 ++ (p1 ++ []))) (pv := []) hW' (fun _ _ _ => (trodAll_cons_mk (shut_bool Try.underlying4 _) trodAll_mk0)) (fun sp hsp => ?_) (fun _ _ => rfl) (by simp) hb (ok_one (by kernel_rfl) rfl (okWide_bool_mk Try.underlying4 _))⟩
  exact trodAll_cons_mk (below_trod sp (by kernel_rfl) (by kernel_rfl) (of_decide_eq_true (by kernel_rfl)) g0 hb (fun x hx => hlt x (by simp [hx])) (fun x hx => hsp x (by simp [hx])))
    (trodAll_cons_mk (below_trod sp (by kernel_rfl) (by kernel_rfl) (of_decide_eq_true (by kernel_rfl)) g1 hb (fun x hx => hlt x (by simp [hx])) (fun x hx => hsp x (by simp [hx])))
    (trodAll_mk0))

theorem over : Rows.shareFairRow.holds Try.pinned (OpenSpec.ofChange Rows.shareFairSpec) :=
  OpenClaim.holds_of_wide 3 Try.f3 rfl rfl rfl rfl rfl rfl rfl ⟨rfl, rfl, rfl, rfl, rfl⟩ rfl rfl rfl rfl rfl (by kernel_rfl) Try.func3 (by kernel_rfl)
    (of_decide_eq_true (by kernel_rfl)) (by unfold Func.isWrapper; rw [if_neg (by decide +kernel)]; exact ⟨rfl, rfl⟩)
    (fun os started H enc _ => lifted os started H enc)

theorem proved : Rows.ShareFairSaid := over
#print axioms proved
end Go.Proofs.Ytodkifkphhfnpaa.ShareFair
