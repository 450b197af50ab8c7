/- Proved: CreditDoes answers true for every input, and leaves its arguments as they were; no condition. -/
import Derived.Test.YtpbahmnlhckgbaaRows
import Derived.Test.YtpbahmnlhckgbaaMem
import Derived.Test.YtpbahmnlhckgbaaLift
import Derived.Test.YtpbahmnlhckgbaaCredAw
import Derived.Test.YtpbahmnlhckgbaaCredAw2
import Derived.WalkKit
import Derived.ProofKit
import Derived.OpenShut
import Derived.Handy
import Derived.Deep.QuietTactic
import Derived.BigQuiet
import Derived.Deep.RegionWith
import Derived.WalkLawsBesides
import Derived.Deep.RegionHeld3
namespace Go.Proofs.Ytpbahmnlhckgbaa.CreditDoes
open Go.ChangeShapes Go.WideShapes Go.ChangeAt Go.RowKit Go.Deep
set_option linter.unusedVariables false

set_option maxRecDepth 100000 in
set_option maxHeartbeats 8000000 in
theorem walk (w : World) (a0 : Int) (w0 : (Lit.int .i64 a0).wf = true) (v1 : Value) (n : Nat) (C : Nat → List Value) (h1 : RowsAt w v1 n 4 Four C) :
    Calls Try.prog 4 #[.int .i64 a0, v1] w fun e w' => e = .returned (.bool true) ∧ Below w.heap.size w w' := by
  obtain ⟨A1, cap, rfl, hnc, hcap, hcells⟩ := h1
  have HC := Lib.hid hcells
  clear hcells
  obtain ⟨b1, b2⟩ := bounds_i64 w0
  clear w0
  by_cases hr : a0 < 0 ∨ 2147483647 < a0
  · have HN := Lib.hid (fun W => new_bad a0 W hr)
    have HR := Lib.hid (fun W => right_no a0 W hr)
    clear hr
    go_enter Try.func4, Try.ntmps4
    go_wp2_with fail
    refine (HN.out _).mono ?_
    rintro e w1 ⟨rfl, rfl⟩
    go_wp2_with fail
    refine (HR.out _).mono ?_
    rintro e w1 ⟨rfl, rfl⟩
    go_wp2_with fail
    refine (awake_any _).mono ?_
    rintro e w2 ⟨rfl, hb2⟩
    have HB := Lib.hid hb2
    clear hb2
    go_wp2_with fail
    go_ret
    exact ⟨rfl, HB.out⟩
  · have hr1 : 0 ≤ a0 := by omega
    have hr2 : a0 ≤ 2147483647 := by omega
    clear hr b1 b2
    go_enter Try.func4, Try.ntmps4
    go_wp2_with fail
    refine (new_ok a0 w hr1 hr2).mono ?_
    rintro e w1 ⟨⟨g, cw, rfl, k1, hgw⟩, bb1⟩
    have H1 := Lib.hid (And.intro (k1 w.heap.size (Nat.le_refl _)) bb1)
    have hs1 := bb1.size
    clear k1 bb1
    go_wp2_with fail
    refine (right_yes a0 _ hr1 hr2).mono ?_
    rintro e w2 ⟨rfl, rfl⟩
    go_wp2_with fail
    have H2 : Hid (Joint w.heap.size g w1.heap.size 0 (w1.alloc (.cells #[.int .i64 a0, .int .i64 0, .slice none 0 0] 41)) ∧ Below w.heap.size w (w1.alloc (.cells #[.int .i64 a0, .int .i64 0, .slice none 0 0] 41))) :=
      ⟨⟨cw, a0, 0, none, 0, none, 0, [], H1.out.1.alloc _, ⟨Blk.new _ _ _, Held.nil_ _ _ _, by simp, hs1⟩⟩, H1.out.2.alloc hs1 _⟩
    refine (awake_any _).mono ?_
    rintro e w2 ⟨rfl, bb2⟩
    have H3 : Hid (Joint w.heap.size g w1.heap.size 0 w2 ∧ Below w.heap.size w w2) := by
      obtain ⟨⟨cw, cn, sp, A, cap, B, c, l, k, r⟩, b⟩ := H2.out
      exact ⟨⟨cw, cn, sp, A, cap, B, c, l, k.below bb2, r.below bb2⟩, b.trans (bb2.mono b.size)⟩
    clear bb2
    go_wp2_with fail
    go_loopw [8] (fun iv wr => ∃ m : Nat, m ≤ 60 ∧ iv = .int .i64 m ∧ Joint w.heap.size g w1.heap.size (m * 2147483647) wr ∧ Below w.heap.size w wr) (fun i _ => 60 - (intOf i).toNat)
    case atStart => exact ⟨0, by omega, rfl, by have := H3.out.1; simpa using this, H3.out.2⟩
    case round =>
      obtain ⟨m, hm, rfl, jn, rb⟩ := hrel
      have HJ := Lib.hid (And.intro jn rb)
      clear jn rb
      by_cases hgo : m < n ∧ m < 60
      · obtain ⟨hlt, hlt2⟩ := hgo
        obtain ⟨bq, off, kd, x, y, z, rfl, hbl, _, c0, c1, c2, c3, _⟩ := RowsAt.four HC.out hlt
        rw [← HJ.out.2.cell (p := ⟨bq, off + m * 4, none⟩) hbl] at c0
        rw [← HJ.out.2.cell (p := ⟨bq, off + m * 4 + 1, none⟩) hbl] at c1
        rw [← HJ.out.2.cell (p := ⟨bq, off + m * 4 + 2, none⟩) hbl] at c2
        rw [← HJ.out.2.cell (p := ⟨bq, off + m * 4 + 3, none⟩) hbl] at c3
        have HD := Lib.hid (do_any w.heap.size g w1.heap.size (m * 2147483647) wr HJ.out.1 (by omega) kd x y z)
        have hm0 : (0 : Int) ≤ m := by omega
        have hm1 : (m : Int) < n := by omega
        go_wp2_with fail
        refine HD.out.mono ?_
        rintro e w3 ⟨rfl, j3, b3⟩
        have d1 := (b3.cell (p := ⟨bq, off + m * 4 + 1, none⟩) hbl).trans c1
        have HJ3 := Lib.hid (And.intro j3 (HJ.out.2.trans b3))
        clear j3 b3
        go_wp2_with fail
        refine (same_any w.heap.size g w1.heap.size _ w3 HJ3.out.1 x).mono ?_
        rintro e w4 ⟨rfl, b4⟩
        have HJ4 : Hid (Joint w.heap.size g w1.heap.size (m * 2147483647 + 2147483647) w4 ∧ Below w.heap.size w w4) := by
          obtain ⟨⟨cw, cn, sp, A, cap, B, c, l, k, r⟩, b⟩ := HJ3.out
          exact ⟨⟨cw, cn, sp, A, cap, B, c, l, k.below b4, r.below b4⟩, b.trans (b4.mono b.size)⟩
        clear b4
        go_wp2_with fail
        go_roundw
        case rel => exact ⟨m + 1, by omega, by go_num, by rw [show (((m + 1 : Nat) : Int)) * 2147483647 = (m : Int) * 2147483647 + 2147483647 by omega]; exact HJ4.out.1, HJ4.out.2⟩
        case measure => simp [intOf]; omega
      · have hend : ¬ m < n ∨ (m < n ∧ ¬ m < 60) := by omega
        clear hgo
        rcases hend with hend | ⟨hend, hend2⟩
        all_goals
          (go_wp2_with fail
           go_ret
           exact ⟨rfl, HJ.out.2⟩)

theorem own : ownKnob Try.prog.godebug = none := by kernel_rfl

set_option maxRecDepth 100000 in
theorem lifted (os : Os) (started : os.Started) (H : Type) (enc : TypeId × Value → H) :
    ReturnsInHanded {} Try.checked os 4 .any (Rows.creditDoesSpec.pre6 enc Try.prog Try.f4 Rows.creditDoesRow.domain false) (Rows.creditDoesSpec.post enc Try.prog Try.f4 false true false false) := by
  refine returnsInHanded_of_change (C := Try.checked) own started (by kernel_rfl) Try.func4
    (ChangeSpec.witness6 (enc := enc) (C := Try.checked) false ⟨#[], #[.int .i64 0, .slice none 0 0], []⟩ 8 (by kernel_rfl) (by kernel_rfl) (by kernel_rfl) (by kernel_rfl)) ?_
  intro W base args ds gs before hval0 hW hcnd _
  have hval : ∀ (j : Nat) t v, Try.f4.params[j]? = some t → args[j]? = some v → Value.okWide Try.prog W .any base t v := hval0
  have hW' := hW
  obtain ⟨p, q, hA0, hV, rfl, hfz, hnd⟩ := hW
  have hA : DataW.TrodAll enc Try.prog W 0 (fun _ => true) true Try.f4.params.toList args.toList ds p := hA0
  rw [Try.params4] at hA hval
  obtain ⟨v0, vs0, d0, ds0, p0, q0, hargs, rfl, rfl, h0, r0⟩ := trodAll_cons hA
  obtain ⟨v1, vs1, d1, ds1, p1, q1, rfl, rfl, rfl, h1, r1⟩ := trodAll_cons r0
  obtain ⟨rfl, rfl, rfl⟩ := trodAll_nil r1
  obtain rfl : args = #[v0, v1] := by cases args; simp_all
  obtain ⟨rfl, rfl⟩ := trodVars_none hV
  have g0 := h0
  have g1 := h1
  obtain ⟨a0, rfl, _, _, w0⟩ := open_int Try.underlying3 (hval 0 3 v0 rfl rfl) h0
  obtain ⟨n1, C1, k1⟩ := open_rows Try.underlying23 (by kernel_rfl) (by decide) (four_of Try.underlying31 Try.underlying3 (by kernel_rfl) rfl rfl rfl rfl rfl rfl rfl rfl) (hval 1 23 v1 rfl rfl) h1
  clear hA0 hval0
  have hlt : ∀ x ∈ (p0 ++ (p1 ++ [])), x.block < W.heap.size := fun x hx => hW'.lt x (by simpa using hx)
  refine (walk W a0 w0 v1 n1 C1 k1).mono fun e W' ⟨he, hb⟩ => ?_
  subst he
  refine ⟨_, rfl, post_of_below (pa := (p0 ++ (p1 ++ []))) (pv := []) hW' (fun _ _ _ => (trodAll_cons_mk (shut_bool Try.underlying4 _) trodAll_mk0)) (fun sp hsp => ?_) (fun _ _ => rfl) (by simp) hb (ok_one (by kernel_rfl) rfl (okWide_bool_mk Try.underlying4 _))⟩
  exact trodAll_cons_mk (below_trod sp (by kernel_rfl) (by kernel_rfl) (of_decide_eq_true (by kernel_rfl)) g0 hb (fun x hx => hlt x (by simp [hx])) (fun x hx => hsp x (by simp [hx])))
    (trodAll_cons_mk (below_trod sp (by kernel_rfl) (by kernel_rfl) (of_decide_eq_true (by kernel_rfl)) g1 hb (fun x hx => hlt x (by simp [hx])) (fun x hx => hsp x (by simp [hx])))
    (trodAll_mk0))

theorem over : Rows.creditDoesRow.holds Try.pinned (OpenSpec.ofChange Rows.creditDoesSpec) :=
  OpenClaim.holds_of_wide 4 Try.f4 rfl rfl rfl rfl rfl rfl rfl ⟨rfl, rfl, rfl, rfl, rfl⟩ rfl rfl rfl rfl rfl (by kernel_rfl) Try.func4 (by kernel_rfl)
    (of_decide_eq_true (by kernel_rfl)) (by unfold Func.isWrapper; rw [if_neg (by decide +kernel)]; exact ⟨rfl, rfl⟩)
    (fun os started H enc _ => lifted os started H enc)

theorem proved : Rows.CreditDoesSaid := over
#print axioms proved
end Go.Proofs.Ytpbahmnlhckgbaa.CreditDoes
