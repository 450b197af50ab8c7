/- Proved: DemandSums answers true for every input, and leaves its arguments as they were; no condition. -/
import Derived.Test.YtamjmnoejledbaaRows
import Derived.Test.YtamjmnoejledbaaMem
import Derived.Test.YtamjmnoejledbaaLift
import Derived.Test.YtamjmnoejledbaaDemand
import Derived.WalkKit
import Derived.ProofKit
import Derived.OpenShut
import Derived.Handy
import Derived.Deep.QuietTactic
import Derived.BigQuiet
import Derived.Deep.RegionWith
import Derived.WalkLawsBesides
namespace Go.Proofs.Ytamjmnoejledbaa.DemandSums
open Go.ChangeShapes Go.WideShapes Go.ChangeAt Go.RowKit Go.Deep
set_option linter.unusedVariables false

set_option maxRecDepth 100000 in
set_option maxHeartbeats 4000000 in
theorem walk (w : World) (a0 : Int) (w0 : (Lit.int .u32 a0).wf = true) (v1 : Value) (n : Nat) (C : Nat → List Value) (h1 : RowsAt w v1 n 1 (OneNum .u32) C) :
    Calls Try.prog 3 #[.int .u32 a0, v1] w fun e w' => e = .returned (.bool true) ∧ Below w.heap.size w w' := by
  obtain ⟨A, cap, rfl, hnc, hcap, hcells⟩ := h1
  have HC := Lib.hid hcells
  clear hcells
  obtain ⟨b1, b2⟩ := bounds_u32 w0
  clear w0
  have hq : 0 ≤ a0 % 2147483647 ∧ a0 % 2147483647 < 2147483647 := by omega
  go_enter Try.func3, Try.ntmps3
  go_wp2_with fail
  refine (new_yes _ _ (by omega) (by omega)).mono ?_
  rintro e w1 ⟨rfl, d1, hb1⟩
  go_wp2_with fail
  go_loopw [8, 9] (fun sv iv wr => ∃ (k : Nat) (s m : Int), k ≤ 100 ∧ iv = .int .i64 k ∧ sv = .int .i64 s ∧ 0 ≤ s ∧ s ≤ k * 4294967296 ∧ 0 ≤ m ∧ m ≤ s ∧ m ≤ a0 % 2147483647 + 1 ∧ (m = s ∨ m = a0 % 2147483647 + 1) ∧ Dem wr w.heap.size m (a0 % 2147483647 + 1) ∧ Below w.heap.size w wr) (fun _ i _ => 100 - (intOf i).toNat)
  case atStart => exact ⟨0, 0, 0, by omega, rfl, rfl, by omega, by omega, by omega, by omega, by omega, by omega, d1, hb1⟩
  case round =>
    obtain ⟨k, s, m, hk, rfl, rfl, hs0, hs1, hm0, hm1, hm2, hm3, dr, hbr⟩ := hrel
    by_cases hlt : k < n
    · by_cases hlt2 : k < 100
      · obtain ⟨⟨x, hx, hxw⟩, _, b, off, rfl, hbl, hc⟩ := HC.out k hlt
        have c0 := hc 0 (.int .u32 x) (by rw [hx]; rfl)
        clear hc hx
        obtain ⟨x1, x2⟩ := bounds_u32 hxw
        clear hxw
        simp only [Nat.mul_one, Nat.add_zero] at c0
        rw [← hbr.cell (p := ⟨b, off + k, none⟩) hbl] at c0
        have hA := fun (W : World) (hW : Dem W w.heap.size m (a0 % 2147483647 + 1)) => add_any _ m (a0 % 2147483647 + 1) (x + 1) W hW (by omega) (by omega) hm0 hm2 (by omega)
        by_cases hs : s + (x + 1) ≤ a0 % 2147483647 + 1
        · rw [show m + min (x + 1) (a0 % 2147483647 + 1 - m) = s + (x + 1) by omega] at hA
          generalize min (x + 1) (a0 % 2147483647 + 1 - m) = y at hA
          have HA := Lib.hid hA
          clear hA hm3
          go_wp2_with fail
          refine (HA.out _ dr).mono ?_
          rintro e w2 ⟨rfl, d2, o2⟩
          have hb2 : Below w.heap.size w w2 := bonly hbr o2 (by simp)
          go_wp2_with fail
          refine (left_any _ _ _ _ d2).mono ?_
          rintro e w3 ⟨rfl, rfl⟩
          go_wp2_with fail
          go_roundw
          case rel => exact ⟨k + 1, s + (x + 1), s + (x + 1), by omega, by go_num, rfl, by omega, by omega, by omega, by omega, by omega, by omega, d2, hb2⟩
          case measure => simp [intOf]; omega
        · rw [show m + min (x + 1) (a0 % 2147483647 + 1 - m) = a0 % 2147483647 + 1 by omega] at hA
          generalize min (x + 1) (a0 % 2147483647 + 1 - m) = y at hA
          have HA := Lib.hid hA
          clear hA hm3
          go_wp2_with fail
          refine (HA.out _ dr).mono ?_
          rintro e w2 ⟨rfl, d2, o2⟩
          have hb2 : Below w.heap.size w w2 := bonly hbr o2 (by simp)
          go_wp2_with fail
          refine (left_any _ _ _ _ d2).mono ?_
          rintro e w3 ⟨rfl, rfl⟩
          go_wp2_with fail
          go_roundw
          case rel => exact ⟨k + 1, s + (x + 1), a0 % 2147483647 + 1, by omega, by go_num, rfl, by omega, by omega, by omega, by omega, by omega, by omega, d2, hb2⟩
          case measure => simp [intOf]; omega
      · go_wp2_with fail
        refine (awake_any _).mono ?_
        rintro e w2 ⟨rfl, hb2⟩
        go_wp2_with fail
        go_ret
        exact ⟨rfl, hbr.trans (hb2.mono hbr.size)⟩
    · go_wp2_with fail
      refine (awake_any _).mono ?_
      rintro e w2 ⟨rfl, hb2⟩
      go_wp2_with fail
      go_ret
      exact ⟨rfl, hbr.trans (hb2.mono hbr.size)⟩

theorem own : ownKnob Try.prog.godebug = none := by kernel_rfl

set_option maxRecDepth 100000 in
theorem lifted (os : Os) (started : os.Started) (H : Type) (enc : TypeId × Value → H) :
    ReturnsInHanded {} Try.checked os 3 .any (Rows.demandSumsSpec.pre6 enc Try.prog Try.f3 Rows.demandSumsRow.domain false) (Rows.demandSumsSpec.post enc Try.prog Try.f3 false true false false) := by
  refine returnsInHanded_of_change (C := Try.checked) own started (by kernel_rfl) Try.func3
    (ChangeSpec.witness6 (enc := enc) (C := Try.checked) false ⟨#[], #[.int .u32 0, .slice none 0 0], []⟩ 8 (by kernel_rfl) (by kernel_rfl) (by kernel_rfl) (by kernel_rfl)) ?_
  intro W base args ds gs before hval0 hW hcnd _
  have hval : ∀ (j : Nat) t v, Try.f3.params[j]? = some t → args[j]? = some v → Value.okWide Try.prog W .any base t v := hval0
  have hW' := hW
  obtain ⟨p, q, hA0, hV, rfl, hfz, hnd⟩ := hW
  have hA : DataW.TrodAll enc Try.prog W 0 (fun _ => true) true Try.f3.params.toList args.toList ds p := hA0
  rw [Try.params3] at hA hval
  obtain ⟨v0, vs0, d0, ds0, p0, q0, hargs, rfl, rfl, h0, r0⟩ := trodAll_cons hA
  obtain ⟨v1, vs1, d1, ds1, p1, q1, rfl, rfl, rfl, h1, r1⟩ := trodAll_cons r0
  obtain ⟨rfl, rfl, rfl⟩ := trodAll_nil r1
  obtain rfl : args = #[v0, v1] := by cases args; simp_all
  obtain ⟨rfl, rfl⟩ := trodVars_none hV
  have g0 := h0
  have g1 := h1
  obtain ⟨a0, rfl, _, _, w0⟩ := open_int Try.underlying22 (hval 0 22 v0 rfl rfl) h0
  obtain ⟨n1, C1, k1⟩ := open_rows Try.underlying23 (by kernel_rfl) (by decide) (one_of Try.underlying22) (hval 1 23 v1 rfl rfl) h1
  clear hA0 hval0
  have hlt : ∀ x ∈ (p0 ++ (p1 ++ [])), x.block < W.heap.size := fun x hx => hW'.lt x (by simpa using hx)
  refine (walk W a0 w0 v1 n1 C1 k1).mono fun e W' ⟨he, hb⟩ => ?_
  subst he
  refine ⟨_, rfl, post_of_below (pa := (p0 ++ (p1 ++ []))) (pv := []) hW' (fun _ _ _ => (trodAll_cons_mk (shut_bool Try.underlying4 _) trodAll_mk0)) (fun sp hsp => ?_) (fun _ _ => rfl) (by simp) hb (ok_one (by kernel_rfl) rfl (okWide_bool_mk Try.underlying4 _))⟩
  exact trodAll_cons_mk (below_trod sp (by kernel_rfl) (by kernel_rfl) (of_decide_eq_true (by kernel_rfl)) g0 hb (fun x hx => hlt x (by simp [hx])) (fun x hx => hsp x (by simp [hx])))
    (trodAll_cons_mk (below_trod sp (by kernel_rfl) (by kernel_rfl) (of_decide_eq_true (by kernel_rfl)) g1 hb (fun x hx => hlt x (by simp [hx])) (fun x hx => hsp x (by simp [hx])))
    (trodAll_mk0))

theorem over : Rows.demandSumsRow.holds Try.pinned (OpenSpec.ofChange Rows.demandSumsSpec) :=
  OpenClaim.holds_of_wide 3 Try.f3 rfl rfl rfl rfl rfl rfl rfl ⟨rfl, rfl, rfl, rfl, rfl⟩ rfl rfl rfl rfl rfl (by kernel_rfl) Try.func3 (by kernel_rfl)
    (of_decide_eq_true (by kernel_rfl)) (by unfold Func.isWrapper; rw [if_neg (by decide +kernel)]; exact ⟨rfl, rfl⟩)
    (fun os started H enc _ => lifted os started H enc)

theorem proved : Rows.DemandSumsSaid := over
#print axioms proved
end Go.Proofs.Ytamjmnoejledbaa.DemandSums
