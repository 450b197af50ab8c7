/- Proved: ParamsApply answers true for every input, and leaves its arguments as they were; no condition. -/
import Derived.Test.YtgmnhiofenpafaaRows
import Derived.Test.YtgmnhiofenpafaaMem
import Derived.Test.YtgmnhiofenpafaaLift
import Derived.Test.YtgmnhiofenpafaaParams2
import Derived.WalkKit
import Derived.ProofKit
import Derived.OpenShut
import Derived.Handy
import Derived.Deep.QuietTactic
import Derived.BigQuiet
import Derived.Deep.RegionWith
import Derived.WalkLawsBesides
namespace Go.Proofs.Ytgmnhiofenpafaa.ParamsApply
open Go.ChangeShapes Go.WideShapes Go.ChangeAt Go.RowKit Go.Deep
set_option linter.unusedVariables false

set_option maxRecDepth 100000 in
set_option maxHeartbeats 8000000 in
theorem core (w : World) (x y z : Int) (A : Option Addr) (cap : Nat) (L : List (Int × Int)) (hL : Pairs w A cap L) :
    Calls Try.prog 5 #[.agg #[.int .i64 x, .int .i64 y, .int .i64 z], .slice A L.length cap] w fun e w' => e = .returned (.bool true) ∧ Below w.heap.size w w' := by
  have hL1 := hL.1
  have hL2 := hL.2.1
  have hC := fun W => check_any x y z W
  have hR := fun W => rright_any x y z W
  by_cases hn : 200 < L.length
  · have hlen : (L.take 200).length = 200 := by simp; omega
    have hA := fun (W : World) (hW : Pairs W A cap (L.take 200)) => apply_any x y z A cap (L.take 200) W hW
    have hB := fun (W : World) (hW : Pairs W A cap (L.take 200)) => rapply_any x y z A cap (L.take 200) W hW
    rw [hlen] at hA hB
    generalize app x y z (L.take 200) = r at hA hB
    obtain ⟨⟨ra, rb, rc⟩, rd⟩ := r
    have HA := Lib.hid hA
    have HB := Lib.hid hB
    have HL := Lib.hid (hL.take 200)
    clear hA hB hlen hL
    cases hr : rightB x y z
    · rw [hr] at hC hR
      simp only [Bool.false_eq_true, if_false] at hC
      have HC := Lib.hid hC
      have HR := Lib.hid hR
      clear hC hR hr
      go_enter Try.func5, Try.ntmps5
      go_wp2_with fail
      refine (HA.out _ (HL.out.below ((Below.refl _ _).alloc (Nat.le_refl _) _))).mono ?_
      rintro e w1 ⟨rfl, b1⟩
      have x1 : Blk w1 w.heap.size 23 #[.int .i64 x, .int .i64 y, .int .i64 z] := Blk.below (Blk.new _ _ _) b1 (by simp)
      have B1 : Below w.heap.size w w1 := ((Below.refl _ _).alloc (Nat.le_refl _) _).trans (b1.mono (by simp))
      have lt1 := Blk.lt x1
      have c0 := Blk.cell x1 0
      have c1 := Blk.cell x1 1
      have c2 := Blk.cell x1 2
      simp at c0 c1 c2
      go_wp2_with fail
      refine (HB.out _ (HL.out.below (B1.alloc B1.size _))).mono ?_
      rintro e w2 ⟨rfl, b2⟩
      have x2 := Blk.below (Blk.alloc x1 _) b2 (by simp; omega)
      have a2 : Blk w2 w1.heap.size 23 #[.int .i64 ra, .int .i64 rb, .int .i64 rc] := Blk.below (Blk.new _ _ _) b2 (by simp)
      have B2 : Below w.heap.size w w2 := (B1.alloc B1.size _).trans (b2.mono (by simp; omega))
      have lt2 := Blk.lt a2
      have lt2' := Blk.lt x2
      clear c0 c1 c2
      have c0 := Blk.cell x2 0
      have c1 := Blk.cell x2 1
      have c2 := Blk.cell x2 2
      simp at c0 c1 c2
      go_wp2_with fail
      refine (HC.out _).mono ?_
      rintro e w3 ⟨rfl, b3⟩
      have x3 := Blk.below (Blk.alloc x2 _) b3 (by simp; omega)
      have a3 := Blk.below (Blk.alloc a2 _) b3 (by simp; omega)
      have e3 : Blk w3 w2.heap.size 23 #[.int .i64 ra, .int .i64 rb, .int .i64 rc] := Blk.below (Blk.new _ _ _) b3 (by simp)
      have B3 : Below w.heap.size w w3 := (B2.alloc B2.size _).trans (b3.mono (by simp; exact Nat.le_succ_of_le B2.size))
      have lt3 := Blk.lt e3
      have lt3' := Blk.lt x3
      have lt3'' := Blk.lt a3
      clear c0 c1 c2
      go_wp2_with fail
      refine (awake_any _).mono ?_
      rintro e w4 ⟨rfl, b4⟩
      have x4 := Blk.below x3 b4 (by omega)
      have a4 := Blk.below a3 b4 (by omega)
      have e4 := Blk.below e3 b4 (by omega)
      have B4 := B3.trans (b4.mono B3.size)
      have c0 := Blk.cell x4 0
      have c1 := Blk.cell x4 1
      have c2 := Blk.cell x4 2
      have d0 := Blk.cell a4 0
      have d1 := Blk.cell a4 1
      have d2 := Blk.cell a4 2
      have f0 := Blk.cell e4 0
      have f1 := Blk.cell e4 1
      have f2 := Blk.cell e4 2
      simp at c0 c1 c2 d0 d1 d2 f0 f1 f2
      go_wp2_with fail
      refine (HR.out _).mono ?_
      rintro e w5 ⟨rfl, b5⟩
      go_wp2_with fail
      go_ret
      exact ⟨rfl, B4.trans (b5.mono B4.size)⟩
    · rw [hr] at hC hR
      simp only [if_true] at hC
      have HC := Lib.hid hC
      have HR := Lib.hid hR
      clear hC hR hr
      go_enter Try.func5, Try.ntmps5
      go_wp2_with fail
      refine (HA.out _ (HL.out.below ((Below.refl _ _).alloc (Nat.le_refl _) _))).mono ?_
      rintro e w1 ⟨rfl, b1⟩
      have x1 : Blk w1 w.heap.size 23 #[.int .i64 x, .int .i64 y, .int .i64 z] := Blk.below (Blk.new _ _ _) b1 (by simp)
      have B1 : Below w.heap.size w w1 := ((Below.refl _ _).alloc (Nat.le_refl _) _).trans (b1.mono (by simp))
      have lt1 := Blk.lt x1
      have c0 := Blk.cell x1 0
      have c1 := Blk.cell x1 1
      have c2 := Blk.cell x1 2
      simp at c0 c1 c2
      go_wp2_with fail
      refine (HB.out _ (HL.out.below (B1.alloc B1.size _))).mono ?_
      rintro e w2 ⟨rfl, b2⟩
      have x2 := Blk.below (Blk.alloc x1 _) b2 (by simp; omega)
      have a2 : Blk w2 w1.heap.size 23 #[.int .i64 ra, .int .i64 rb, .int .i64 rc] := Blk.below (Blk.new _ _ _) b2 (by simp)
      have B2 : Below w.heap.size w w2 := (B1.alloc B1.size _).trans (b2.mono (by simp; omega))
      have lt2 := Blk.lt a2
      have lt2' := Blk.lt x2
      clear c0 c1 c2
      have c0 := Blk.cell x2 0
      have c1 := Blk.cell x2 1
      have c2 := Blk.cell x2 2
      simp at c0 c1 c2
      go_wp2_with fail
      refine (HC.out _).mono ?_
      rintro e w3 ⟨rfl, b3⟩
      have x3 := Blk.below (Blk.alloc x2 _) b3 (by simp; omega)
      have a3 := Blk.below (Blk.alloc a2 _) b3 (by simp; omega)
      have e3 : Blk w3 w2.heap.size 23 #[.int .i64 ra, .int .i64 rb, .int .i64 rc] := Blk.below (Blk.new _ _ _) b3 (by simp)
      have B3 : Below w.heap.size w w3 := (B2.alloc B2.size _).trans (b3.mono (by simp; exact Nat.le_succ_of_le B2.size))
      have lt3 := Blk.lt e3
      have lt3' := Blk.lt x3
      have lt3'' := Blk.lt a3
      clear c0 c1 c2
      go_wp2_with fail
      refine (awake_any _).mono ?_
      rintro e w4 ⟨rfl, b4⟩
      have x4 := Blk.below x3 b4 (by omega)
      have a4 := Blk.below a3 b4 (by omega)
      have e4 := Blk.below e3 b4 (by omega)
      have B4 := B3.trans (b4.mono B3.size)
      have c0 := Blk.cell x4 0
      have c1 := Blk.cell x4 1
      have c2 := Blk.cell x4 2
      have d0 := Blk.cell a4 0
      have d1 := Blk.cell a4 1
      have d2 := Blk.cell a4 2
      have f0 := Blk.cell e4 0
      have f1 := Blk.cell e4 1
      have f2 := Blk.cell e4 2
      simp at c0 c1 c2 d0 d1 d2 f0 f1 f2
      go_wp2_with fail
      refine (HR.out _).mono ?_
      rintro e w5 ⟨rfl, b5⟩
      go_wp2_with fail
      go_ret
      exact ⟨rfl, B4.trans (b5.mono B4.size)⟩
  · have hn' : L.length ≤ 200 := by omega
    have hA := fun (W : World) (hW : Pairs W A cap L) => apply_any x y z A cap L W hW
    have hB := fun (W : World) (hW : Pairs W A cap L) => rapply_any x y z A cap L W hW
    generalize app x y z L = r at hA hB
    obtain ⟨⟨ra, rb, rc⟩, rd⟩ := r
    have HA := Lib.hid hA
    have HB := Lib.hid hB
    have HL := Lib.hid hL
    clear hA hB hL hn
    cases hr : rightB x y z
    · rw [hr] at hC hR
      simp only [Bool.false_eq_true, if_false] at hC
      have HC := Lib.hid hC
      have HR := Lib.hid hR
      clear hC hR hr
      go_enter Try.func5, Try.ntmps5
      go_wp2_with fail
      refine (HA.out _ (HL.out.below ((Below.refl _ _).alloc (Nat.le_refl _) _))).mono ?_
      rintro e w1 ⟨rfl, b1⟩
      have x1 : Blk w1 w.heap.size 23 #[.int .i64 x, .int .i64 y, .int .i64 z] := Blk.below (Blk.new _ _ _) b1 (by simp)
      have B1 : Below w.heap.size w w1 := ((Below.refl _ _).alloc (Nat.le_refl _) _).trans (b1.mono (by simp))
      have lt1 := Blk.lt x1
      have c0 := Blk.cell x1 0
      have c1 := Blk.cell x1 1
      have c2 := Blk.cell x1 2
      simp at c0 c1 c2
      go_wp2_with fail
      refine (HB.out _ (HL.out.below (B1.alloc B1.size _))).mono ?_
      rintro e w2 ⟨rfl, b2⟩
      have x2 := Blk.below (Blk.alloc x1 _) b2 (by simp; omega)
      have a2 : Blk w2 w1.heap.size 23 #[.int .i64 ra, .int .i64 rb, .int .i64 rc] := Blk.below (Blk.new _ _ _) b2 (by simp)
      have B2 : Below w.heap.size w w2 := (B1.alloc B1.size _).trans (b2.mono (by simp; omega))
      have lt2 := Blk.lt a2
      have lt2' := Blk.lt x2
      clear c0 c1 c2
      have c0 := Blk.cell x2 0
      have c1 := Blk.cell x2 1
      have c2 := Blk.cell x2 2
      simp at c0 c1 c2
      go_wp2_with fail
      refine (HC.out _).mono ?_
      rintro e w3 ⟨rfl, b3⟩
      have x3 := Blk.below (Blk.alloc x2 _) b3 (by simp; omega)
      have a3 := Blk.below (Blk.alloc a2 _) b3 (by simp; omega)
      have e3 : Blk w3 w2.heap.size 23 #[.int .i64 ra, .int .i64 rb, .int .i64 rc] := Blk.below (Blk.new _ _ _) b3 (by simp)
      have B3 : Below w.heap.size w w3 := (B2.alloc B2.size _).trans (b3.mono (by simp; exact Nat.le_succ_of_le B2.size))
      have lt3 := Blk.lt e3
      have lt3' := Blk.lt x3
      have lt3'' := Blk.lt a3
      clear c0 c1 c2
      go_wp2_with fail
      refine (awake_any _).mono ?_
      rintro e w4 ⟨rfl, b4⟩
      have x4 := Blk.below x3 b4 (by omega)
      have a4 := Blk.below a3 b4 (by omega)
      have e4 := Blk.below e3 b4 (by omega)
      have B4 := B3.trans (b4.mono B3.size)
      have c0 := Blk.cell x4 0
      have c1 := Blk.cell x4 1
      have c2 := Blk.cell x4 2
      have d0 := Blk.cell a4 0
      have d1 := Blk.cell a4 1
      have d2 := Blk.cell a4 2
      have f0 := Blk.cell e4 0
      have f1 := Blk.cell e4 1
      have f2 := Blk.cell e4 2
      simp at c0 c1 c2 d0 d1 d2 f0 f1 f2
      go_wp2_with fail
      refine (HR.out _).mono ?_
      rintro e w5 ⟨rfl, b5⟩
      go_wp2_with fail
      go_ret
      exact ⟨rfl, B4.trans (b5.mono B4.size)⟩
    · rw [hr] at hC hR
      simp only [if_true] at hC
      have HC := Lib.hid hC
      have HR := Lib.hid hR
      clear hC hR hr
      go_enter Try.func5, Try.ntmps5
      go_wp2_with fail
      refine (HA.out _ (HL.out.below ((Below.refl _ _).alloc (Nat.le_refl _) _))).mono ?_
      rintro e w1 ⟨rfl, b1⟩
      have x1 : Blk w1 w.heap.size 23 #[.int .i64 x, .int .i64 y, .int .i64 z] := Blk.below (Blk.new _ _ _) b1 (by simp)
      have B1 : Below w.heap.size w w1 := ((Below.refl _ _).alloc (Nat.le_refl _) _).trans (b1.mono (by simp))
      have lt1 := Blk.lt x1
      have c0 := Blk.cell x1 0
      have c1 := Blk.cell x1 1
      have c2 := Blk.cell x1 2
      simp at c0 c1 c2
      go_wp2_with fail
      refine (HB.out _ (HL.out.below (B1.alloc B1.size _))).mono ?_
      rintro e w2 ⟨rfl, b2⟩
      have x2 := Blk.below (Blk.alloc x1 _) b2 (by simp; omega)
      have a2 : Blk w2 w1.heap.size 23 #[.int .i64 ra, .int .i64 rb, .int .i64 rc] := Blk.below (Blk.new _ _ _) b2 (by simp)
      have B2 : Below w.heap.size w w2 := (B1.alloc B1.size _).trans (b2.mono (by simp; omega))
      have lt2 := Blk.lt a2
      have lt2' := Blk.lt x2
      clear c0 c1 c2
      have c0 := Blk.cell x2 0
      have c1 := Blk.cell x2 1
      have c2 := Blk.cell x2 2
      simp at c0 c1 c2
      go_wp2_with fail
      refine (HC.out _).mono ?_
      rintro e w3 ⟨rfl, b3⟩
      have x3 := Blk.below (Blk.alloc x2 _) b3 (by simp; omega)
      have a3 := Blk.below (Blk.alloc a2 _) b3 (by simp; omega)
      have e3 : Blk w3 w2.heap.size 23 #[.int .i64 ra, .int .i64 rb, .int .i64 rc] := Blk.below (Blk.new _ _ _) b3 (by simp)
      have B3 : Below w.heap.size w w3 := (B2.alloc B2.size _).trans (b3.mono (by simp; exact Nat.le_succ_of_le B2.size))
      have lt3 := Blk.lt e3
      have lt3' := Blk.lt x3
      have lt3'' := Blk.lt a3
      clear c0 c1 c2
      go_wp2_with fail
      refine (awake_any _).mono ?_
      rintro e w4 ⟨rfl, b4⟩
      have x4 := Blk.below x3 b4 (by omega)
      have a4 := Blk.below a3 b4 (by omega)
      have e4 := Blk.below e3 b4 (by omega)
      have B4 := B3.trans (b4.mono B3.size)
      have c0 := Blk.cell x4 0
      have c1 := Blk.cell x4 1
      have c2 := Blk.cell x4 2
      have d0 := Blk.cell a4 0
      have d1 := Blk.cell a4 1
      have d2 := Blk.cell a4 2
      have f0 := Blk.cell e4 0
      have f1 := Blk.cell e4 1
      have f2 := Blk.cell e4 2
      simp at c0 c1 c2 d0 d1 d2 f0 f1 f2
      go_wp2_with fail
      refine (HR.out _).mono ?_
      rintro e w5 ⟨rfl, b5⟩
      go_wp2_with fail
      go_ret
      exact ⟨rfl, B4.trans (b5.mono B4.size)⟩

theorem walk (w : World) (x y z : Int) (bx : -9223372036854775808 ≤ x ∧ x ≤ 9223372036854775807) (by_ : -9223372036854775808 ≤ y ∧ y ≤ 9223372036854775807) (bz : -9223372036854775808 ≤ z ∧ z ≤ 9223372036854775807) (v1 : Value) (n : Nat) (C : Nat → List Value) (h1 : RowsAt w v1 n 2 Two C) :
    Calls Try.prog 5 #[.agg #[.int .i64 x, .int .i64 y, .int .i64 z], v1] w fun e w' => e = .returned (.bool true) ∧ Below w.heap.size w w' := by
  obtain ⟨A, cap, L, rfl, hL⟩ := pairs_of_rows h1
  exact core w x y z A cap L hL

theorem own : ownKnob Try.prog.godebug = none := by kernel_rfl

set_option maxRecDepth 100000 in
theorem lifted (os : Os) (started : os.Started) (H : Type) (enc : TypeId × Value → H) :
    ReturnsInHanded {} Try.checked os 5 .any (Rows.paramsApplySpec.pre6 enc Try.prog Try.f5 Rows.paramsApplyRow.domain false) (Rows.paramsApplySpec.post enc Try.prog Try.f5 false true false false) := by
  refine returnsInHanded_of_change (C := Try.checked) own started (by kernel_rfl) Try.func5
    (ChangeSpec.witness6 (enc := enc) (C := Try.checked) false ⟨#[], #[.agg #[.int .i64 0, .int .i64 0, .int .i64 0], .slice none 0 0], []⟩ 8 (by kernel_rfl) (by kernel_rfl) (by kernel_rfl) (by kernel_rfl)) ?_
  intro W base args ds gs before hval0 hW hcnd _
  have hval : ∀ (j : Nat) t v, Try.f5.params[j]? = some t → args[j]? = some v → Value.okWide Try.prog W .any base t v := hval0
  have hW' := hW
  obtain ⟨p, q, hA0, hV, rfl, hfz, hnd⟩ := hW
  have hA : DataW.TrodAll enc Try.prog W 0 (fun _ => true) true Try.f5.params.toList args.toList ds p := hA0
  rw [Try.params5] at hA hval
  obtain ⟨v0, vs0, d0, ds0, p0, q0, hargs, rfl, rfl, h0, r0⟩ := trodAll_cons hA
  obtain ⟨v1, vs1, d1, ds1, p1, q1, rfl, rfl, rfl, h1, r1⟩ := trodAll_cons r0
  obtain ⟨rfl, rfl, rfl⟩ := trodAll_nil r1
  obtain rfl : args = #[v0, v1] := by cases args; simp_all
  obtain ⟨rfl, rfl⟩ := trodVars_none hV
  have g0 := h0
  have g1 := h1
  obtain ⟨x0, y0, z0, rfl, bx0, by0, bz0⟩ := open_ints3 Try.underlying23 Try.underlying3 (by kernel_rfl) (by kernel_rfl) rfl rfl rfl rfl rfl rfl (hval 0 23 v0 rfl rfl) h0
  obtain ⟨n1, C1, k1⟩ := open_rows Try.underlying24 (by kernel_rfl) (by decide) (two_of Try.underlying27 Try.underlying3 (by kernel_rfl) rfl rfl rfl rfl) (hval 1 24 v1 rfl rfl) h1
  clear hA0 hval0
  have hlt : ∀ x ∈ (p0 ++ (p1 ++ [])), x.block < W.heap.size := fun x hx => hW'.lt x (by simpa using hx)
  refine (walk W x0 y0 z0 bx0 by0 bz0 v1 n1 C1 k1).mono fun e W' ⟨he, hb⟩ => ?_
  subst he
  refine ⟨_, rfl, post_of_below (pa := (p0 ++ (p1 ++ []))) (pv := []) hW' (fun _ _ _ => (trodAll_cons_mk (shut_bool Try.underlying4 _) trodAll_mk0)) (fun sp hsp => ?_) (fun _ _ => rfl) (by simp) hb (ok_one (by kernel_rfl) rfl (okWide_bool_mk Try.underlying4 _))⟩
  exact trodAll_cons_mk (below_trod sp (by kernel_rfl) (by kernel_rfl) (of_decide_eq_true (by kernel_rfl)) g0 hb (fun x hx => hlt x (by simp [hx])) (fun x hx => hsp x (by simp [hx])))
    (trodAll_cons_mk (below_trod sp (by kernel_rfl) (by kernel_rfl) (of_decide_eq_true (by kernel_rfl)) g1 hb (fun x hx => hlt x (by simp [hx])) (fun x hx => hsp x (by simp [hx])))
    (trodAll_mk0))

theorem over : Rows.paramsApplyRow.holds Try.pinned (OpenSpec.ofChange Rows.paramsApplySpec) :=
  OpenClaim.holds_of_wide 5 Try.f5 rfl rfl rfl rfl rfl rfl rfl ⟨rfl, rfl, rfl, rfl, rfl⟩ rfl rfl rfl rfl rfl (by kernel_rfl) Try.func5 (by kernel_rfl)
    (of_decide_eq_true (by kernel_rfl)) (by unfold Func.isWrapper; rw [if_neg (by decide +kernel)]; exact ⟨rfl, rfl⟩)
    (fun os started H enc _ => lifted os started H enc)

theorem proved : Rows.ParamsApplySaid := over
#print axioms proved
end Go.Proofs.Ytgmnhiofenpafaa.ParamsApply
