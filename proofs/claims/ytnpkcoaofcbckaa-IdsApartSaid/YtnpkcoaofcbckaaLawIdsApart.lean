/- Proved: IdsApart answers true for every input, and leaves its arguments as they were; no condition. -/
import Derived.Test.YtnpkcoaofcbckaaRows
import Derived.Test.YtnpkcoaofcbckaaMem
import Derived.Test.YtnpkcoaofcbckaaLift
import Derived.Test.YtnpkcoaofcbckaaIds
import Derived.WalkKit
import Derived.ProofKit
import Derived.OpenShut
import Derived.Handy
import Derived.Deep.QuietTactic
import Derived.BigQuiet
import Derived.Deep.RegionWith
import Derived.WalkLawsBesides
namespace Go.Proofs.Ytnpkcoaofcbckaa.IdsApart
open Go.ChangeShapes Go.WideShapes Go.ChangeAt Go.RowKit Go.Deep
set_option linter.unusedVariables false

set_option maxRecDepth 100000 in
set_option maxHeartbeats 8000000 in
theorem walk (w : World) (a0 : Int) (w0 : (Lit.int .u8 a0).wf = true) (a1 : Int) (w1 : (Lit.int .i64 a1).wf = true) :
    Calls Try.prog 3 #[.int .u8 a0, .int .i64 a1] w fun e w' => e = .returned (.bool true) ∧ Below w.heap.size w w' := by
  obtain ⟨u1, u2⟩ := bounds_u8 w0
  obtain ⟨b1, b2⟩ := bounds_i64 w1
  clear w0 w1
  go_enter Try.func3, Try.ntmps3
  go_wp2_with fail
  refine (new_yes 0 _ (.inl rfl)).mono ?_
  rintro e w1 ⟨rfl, d1, hb1⟩
  rw [show (0 : Int) + 1 = 1 by decide] at d1
  go_wp2_with fail
  refine (new_yes 1 _ (.inr rfl)).mono ?_
  rintro e w2 ⟨rfl, d2, hb2⟩
  rw [show (1 : Int) + 1 = 2 by decide] at d2
  have d1' := Blk.below d1 hb2 (Blk.lt d1)
  have hlt := Blk.lt d1
  have hB2 := hb1.trans (hb2.mono hb1.size)
  go_wp2_with fail
  refine (awake_any _).mono ?_
  rintro e w3 ⟨rfl, hb3⟩
  have e1 : IDs w3 w.heap.size 0 1 0 := Blk.below d1' hb3 (Blk.lt d1')
  have e2 : IDs w3 w1.heap.size 1 2 0 := Blk.below d2 hb3 (Blk.lt d2)
  have hB3 := hB2.trans (hb3.mono hB2.size)
  go_wp2_with fail
  go_loopw [9] (fun iv wr => ∃ (k : Nat) (lb : Int), k ≤ a0 ∧ iv = .int .i64 k ∧ 0 ≤ lb ∧ lb ≤ 2 * k ∧ (lb = 2 * k - 1 ∨ lb = 0 ∧ k = 0) ∧ IDs wr w.heap.size 0 (1 + 2 * k) (2 * k) ∧ IDs wr w1.heap.size 1 (2 + 2 * k) lb ∧ Below w.heap.size w wr) (fun i _ => a0.toNat - (intOf i).toNat)
  case atStart => exact ⟨0, 0, by omega, rfl, by omega, by omega, by omega, e1, e2, hB3⟩
  case round =>
    obtain ⟨k, lb, hk, rfl, hlb0, hlb1, hlb2, ea, eb, hbr⟩ := hrel
    by_cases hlt2 : k < a0
    · have H := Lib.hid hlb2
      clear hlb2
      go_wp2_with fail
      refine (use_yes _ 0 (1 + 2 * k) (2 * k) _ ea (by omega) (by omega)).mono ?_
      rintro e x1 ⟨rfl, ea1, o1⟩
      have eb1 : IDs x1 w1.heap.size 1 (2 + 2 * k) lb := Blk.only eb o1 (by simp; omega)
      have c1 := bonly hbr o1 (by simp)
      go_wp2_with fail
      refine (use_yes _ 1 (2 + 2 * k) lb _ eb1 (by omega) (by omega)).mono ?_
      rintro e x2 ⟨rfl, eb2, o2⟩
      have ea2 : IDs x2 w.heap.size 0 (1 + 2 * k + 2) (2 * k) := Blk.only ea1 o2 (by simp; omega)
      have c2 := bonly c1 o2 (by simp; exact hb1.size)
      go_wp2_with fail
      refine (peer_yes _ 1 (2 + 2 * k + 2) lb (1 + 2 * k) _ eb2 (.inr rfl) (by simp [ofB]; omega) (by omega)).mono ?_
      rintro e x3 ⟨rfl, eb3, o3⟩
      have ea3 : IDs x3 w.heap.size 0 (1 + 2 * k + 2) (2 * k) := Blk.only ea2 o3 (by simp; omega)
      have c3 := bonly c2 o3 (by simp; exact hb1.size)
      go_wp2_with fail
      refine (peer_yes _ 0 (1 + 2 * k + 2) (2 * k) (2 + 2 * k) _ ea3 (.inl rfl) (by simp [ofB]; omega) (by omega)).mono ?_
      rintro e x4 ⟨rfl, ea4, o4⟩
      have eb4 : IDs x4 w1.heap.size 1 (2 + 2 * k + 2) (1 + 2 * k) := Blk.only eb3 o4 (by simp; omega)
      have c4 := bonly c3 o4 (by simp)
      go_wp2_with fail
      refine (peer_no _ 1 (2 + 2 * k + 2) (1 + 2 * k) (1 + 2 * k) _ eb4 (.inr rfl) (.inr (by omega))).mono ?_
      rintro e x5 ⟨rfl, hb5⟩
      have ea5 : IDs x5 w.heap.size 0 (1 + 2 * k + 2) (2 + 2 * k) := Blk.below ea4 hb5 (Blk.lt ea4)
      have eb5 : IDs x5 w1.heap.size 1 (2 + 2 * k + 2) (1 + 2 * k) := Blk.below eb4 hb5 (Blk.lt eb4)
      have c5 := c4.trans (hb5.mono c4.size)
      go_wp2_with fail
      go_roundw
      case rel => exact ⟨k + 1, 1 + 2 * k, by omega, by go_num, by omega, by omega, by omega, by rw [show 1 + 2 * ((k + 1 : Nat) : Int) = 1 + 2 * k + 2 by omega, show 2 * ((k + 1 : Nat) : Int) = 2 + 2 * k by omega]; exact ea5, by rw [show 2 + 2 * ((k + 1 : Nat) : Int) = 2 + 2 * k + 2 by omega]; exact eb5, c5⟩
      case measure => simp [intOf]; omega
    · by_cases hr : 1 ≤ a1 ∧ a1 ≤ 2147483647
      · obtain ⟨hr1, hr2⟩ := hr
        rcases (by omega : a1 % 2 = 0 ∨ a1 % 2 = 1) with hp | hp
        · have hMA := fun W (hW : IDs W w.heap.size 0 (1 + 2 * k) (2 * k)) => mine_any w.heap.size 0 (1 + 2 * k) (2 * k) a1 W hW (.inl rfl)
          have hMB := fun W (hW : IDs W w1.heap.size 1 (2 + 2 * k) lb) => mine_any w1.heap.size 1 (2 + 2 * k) lb a1 W hW (.inr rfl)
          have hPA := fun W (hW : IDs W w.heap.size 0 (1 + 2 * k) (2 * k)) => past_any w.heap.size 0 (1 + 2 * k) (2 * k) a1 W hW (.inl rfl)
          have hPB := fun W (hW : IDs W w1.heap.size 1 (2 + 2 * k) lb) => past_any w1.heap.size 1 (2 + 2 * k) lb a1 W hW (.inr rfl)
          rw [show ofB 0 a1 = false by simp [ofB]; omega] at hMA
          rw [show ofB 1 a1 = true by simp [ofB]; omega] at hMB
          rw [show pastB 0 (1 + 2 * k) (2 * k) a1 = decide (a1 < 1 + 2 * k) by unfold pastB; rw [show ofB 0 a1 = false by simp [ofB]; omega, show ofB (1 - 0) a1 = true by simp [ofB]; omega]; simp; omega] at hPA
          rw [show pastB 1 (2 + 2 * k) lb a1 = decide (a1 < 1 + 2 * k) by unfold pastB; rw [show ofB 1 a1 = true by simp [ofB]; omega]; simp; omega] at hPB
          generalize decide (a1 < 1 + 2 * (k : Int)) = pp at *
          have HMA := Lib.hid hMA
          have HMB := Lib.hid hMB
          have HPA := Lib.hid hPA
          have HPB := Lib.hid hPB
          clear hMA hMB hPA hPB
          have a0 := ea
          have b0 := eb
          have B0 := hbr
          go_wp2_with fail
          refine (HMA.out _ a0).mono ?_
          rintro e m1 ⟨rfl, hm1⟩
          have a1 := Blk.below a0 hm1 (Blk.lt a0)
          have b1 := Blk.below b0 hm1 (Blk.lt b0)
          have B1 := B0.trans (hm1.mono B0.size)
          go_wp2_with fail
          refine (HMB.out _ b1).mono ?_
          rintro e m2 ⟨rfl, hm2⟩
          have a2 := Blk.below a1 hm2 (Blk.lt a1)
          have b2 := Blk.below b1 hm2 (Blk.lt b1)
          have B2 := B1.trans (hm2.mono B1.size)
          go_wp2_with fail
          refine (HMA.out _ a2).mono ?_
          rintro e m3 ⟨rfl, hm3⟩
          have a3 := Blk.below a2 hm3 (Blk.lt a2)
          have b3 := Blk.below b2 hm3 (Blk.lt b2)
          have B3 := B2.trans (hm3.mono B2.size)
          go_wp2_with fail
          refine (HPA.out _ a3).mono ?_
          rintro e m4 ⟨rfl, hm4⟩
          have a4 := Blk.below a3 hm4 (Blk.lt a3)
          have b4 := Blk.below b3 hm4 (Blk.lt b3)
          have B4 := B3.trans (hm4.mono B3.size)
          go_wp2_with fail
          refine (HPB.out _ b4).mono ?_
          rintro e m5 ⟨rfl, hm5⟩
          have a5 := Blk.below a4 hm5 (Blk.lt a4)
          have b5 := Blk.below b4 hm5 (Blk.lt b4)
          have B5 := B4.trans (hm5.mono B4.size)
          go_wp2_with fail
          go_ret
          exact ⟨rfl, B5⟩
        · have hMA := fun W (hW : IDs W w.heap.size 0 (1 + 2 * k) (2 * k)) => mine_any w.heap.size 0 (1 + 2 * k) (2 * k) a1 W hW (.inl rfl)
          have hMB := fun W (hW : IDs W w1.heap.size 1 (2 + 2 * k) lb) => mine_any w1.heap.size 1 (2 + 2 * k) lb a1 W hW (.inr rfl)
          have hPA := fun W (hW : IDs W w.heap.size 0 (1 + 2 * k) (2 * k)) => past_any w.heap.size 0 (1 + 2 * k) (2 * k) a1 W hW (.inl rfl)
          have hPB := fun W (hW : IDs W w1.heap.size 1 (2 + 2 * k) lb) => past_any w1.heap.size 1 (2 + 2 * k) lb a1 W hW (.inr rfl)
          rw [show ofB 0 a1 = true by simp [ofB]; omega] at hMA
          rw [show ofB 1 a1 = false by simp [ofB]; omega] at hMB
          rw [show pastB 0 (1 + 2 * k) (2 * k) a1 = decide (a1 < 1 + 2 * k) by unfold pastB; rw [show ofB 0 a1 = true by simp [ofB]; omega]; rfl] at hPA
          rw [show pastB 1 (2 + 2 * k) lb a1 = decide (a1 < 1 + 2 * k) by unfold pastB; rw [show ofB 1 a1 = false by simp [ofB]; omega, show ofB (1 - 1) a1 = true by simp [ofB]; omega]; simp; omega] at hPB
          generalize decide (a1 < 1 + 2 * (k : Int)) = pp at *
          have HMA := Lib.hid hMA
          have HMB := Lib.hid hMB
          have HPA := Lib.hid hPA
          have HPB := Lib.hid hPB
          clear hMA hMB hPA hPB
          have a0 := ea
          have b0 := eb
          have B0 := hbr
          go_wp2_with fail
          refine (HMA.out _ a0).mono ?_
          rintro e m1 ⟨rfl, hm1⟩
          have a1 := Blk.below a0 hm1 (Blk.lt a0)
          have b1 := Blk.below b0 hm1 (Blk.lt b0)
          have B1 := B0.trans (hm1.mono B0.size)
          go_wp2_with fail
          refine (HMA.out _ a1).mono ?_
          rintro e m2 ⟨rfl, hm2⟩
          have a2 := Blk.below a1 hm2 (Blk.lt a1)
          have b2 := Blk.below b1 hm2 (Blk.lt b1)
          have B2 := B1.trans (hm2.mono B1.size)
          go_wp2_with fail
          refine (HMB.out _ b2).mono ?_
          rintro e m3 ⟨rfl, hm3⟩
          have a3 := Blk.below a2 hm3 (Blk.lt a2)
          have b3 := Blk.below b2 hm3 (Blk.lt b2)
          have B3 := B2.trans (hm3.mono B2.size)
          go_wp2_with fail
          refine (HPA.out _ a3).mono ?_
          rintro e m4 ⟨rfl, hm4⟩
          have a4 := Blk.below a3 hm4 (Blk.lt a3)
          have b4 := Blk.below b3 hm4 (Blk.lt b3)
          have B4 := B3.trans (hm4.mono B3.size)
          go_wp2_with fail
          refine (HPB.out _ b4).mono ?_
          rintro e m5 ⟨rfl, hm5⟩
          have a5 := Blk.below a4 hm5 (Blk.lt a4)
          have b5 := Blk.below b4 hm5 (Blk.lt b4)
          have B5 := B4.trans (hm5.mono B4.size)
          go_wp2_with fail
          go_ret
          exact ⟨rfl, B5⟩
      · by_cases hr1 : a1 < 1
        · have hMA := fun W (hW : IDs W w.heap.size 0 (1 + 2 * k) (2 * k)) => mine_any w.heap.size 0 (1 + 2 * k) (2 * k) a1 W hW (.inl rfl)
          have hMB := fun W (hW : IDs W w1.heap.size 1 (2 + 2 * k) lb) => mine_any w1.heap.size 1 (2 + 2 * k) lb a1 W hW (.inr rfl)
          have hPA := fun W (hW : IDs W w.heap.size 0 (1 + 2 * k) (2 * k)) => past_any w.heap.size 0 (1 + 2 * k) (2 * k) a1 W hW (.inl rfl)
          have hPB := fun W (hW : IDs W w1.heap.size 1 (2 + 2 * k) lb) => past_any w1.heap.size 1 (2 + 2 * k) lb a1 W hW (.inr rfl)
          rw [show ofB 0 a1 = false by simp [ofB]; omega] at hMA
          rw [show ofB 1 a1 = false by simp [ofB]; omega] at hMB
          rw [show pastB 0 (1 + 2 * k) (2 * k) a1 = false by unfold pastB; rw [show ofB 0 a1 = false by simp [ofB]; omega, show ofB (1 - 0) a1 = false by simp [ofB]; omega]; rfl] at hPA
          rw [show pastB 1 (2 + 2 * k) lb a1 = false by unfold pastB; rw [show ofB 1 a1 = false by simp [ofB]; omega, show ofB (1 - 1) a1 = false by simp [ofB]; omega]; rfl] at hPB
          have HMA := Lib.hid hMA
          have HMB := Lib.hid hMB
          have HPA := Lib.hid hPA
          have HPB := Lib.hid hPB
          clear hMA hMB hPA hPB
          have a0 := ea
          have b0 := eb
          have B0 := hbr
          go_wp2_with fail
          refine (HMA.out _ a0).mono ?_
          rintro e m1 ⟨rfl, hm1⟩
          have a1 := Blk.below a0 hm1 (Blk.lt a0)
          have b1 := Blk.below b0 hm1 (Blk.lt b0)
          have B1 := B0.trans (hm1.mono B0.size)
          go_wp2_with fail
          refine (HMB.out _ b1).mono ?_
          rintro e m2 ⟨rfl, hm2⟩
          have a2 := Blk.below a1 hm2 (Blk.lt a1)
          have b2 := Blk.below b1 hm2 (Blk.lt b1)
          have B2 := B1.trans (hm2.mono B1.size)
          go_wp2_with fail
          refine (HMA.out _ a2).mono ?_
          rintro e m3 ⟨rfl, hm3⟩
          have a3 := Blk.below a2 hm3 (Blk.lt a2)
          have b3 := Blk.below b2 hm3 (Blk.lt b2)
          have B3 := B2.trans (hm3.mono B2.size)
          go_wp2_with fail
          refine (HPA.out _ a3).mono ?_
          rintro e m4 ⟨rfl, hm4⟩
          have a4 := Blk.below a3 hm4 (Blk.lt a3)
          have b4 := Blk.below b3 hm4 (Blk.lt b3)
          have B4 := B3.trans (hm4.mono B3.size)
          go_wp2_with fail
          refine (HPB.out _ b4).mono ?_
          rintro e m5 ⟨rfl, hm5⟩
          have a5 := Blk.below a4 hm5 (Blk.lt a4)
          have b5 := Blk.below b4 hm5 (Blk.lt b4)
          have B5 := B4.trans (hm5.mono B4.size)
          go_wp2_with fail
          go_ret
          exact ⟨rfl, B5⟩
        · have hr2 : 2147483647 < a1 := by omega
          have hd : decide (a1 ≤ 2147483647) = false := by simp; omega
          have hMA := fun W (hW : IDs W w.heap.size 0 (1 + 2 * k) (2 * k)) => mine_any w.heap.size 0 (1 + 2 * k) (2 * k) a1 W hW (.inl rfl)
          have hMB := fun W (hW : IDs W w1.heap.size 1 (2 + 2 * k) lb) => mine_any w1.heap.size 1 (2 + 2 * k) lb a1 W hW (.inr rfl)
          have hPA := fun W (hW : IDs W w.heap.size 0 (1 + 2 * k) (2 * k)) => past_any w.heap.size 0 (1 + 2 * k) (2 * k) a1 W hW (.inl rfl)
          have hPB := fun W (hW : IDs W w1.heap.size 1 (2 + 2 * k) lb) => past_any w1.heap.size 1 (2 + 2 * k) lb a1 W hW (.inr rfl)
          rw [show ofB 0 a1 = false by simp [ofB]; omega] at hMA
          rw [show ofB 1 a1 = false by simp [ofB]; omega] at hMB
          rw [show pastB 0 (1 + 2 * k) (2 * k) a1 = false by unfold pastB; rw [show ofB 0 a1 = false by simp [ofB]; omega, show ofB (1 - 0) a1 = false by simp [ofB]; omega]; rfl] at hPA
          rw [show pastB 1 (2 + 2 * k) lb a1 = false by unfold pastB; rw [show ofB 1 a1 = false by simp [ofB]; omega, show ofB (1 - 1) a1 = false by simp [ofB]; omega]; rfl] at hPB
          have HMA := Lib.hid hMA
          have HMB := Lib.hid hMB
          have HPA := Lib.hid hPA
          have HPB := Lib.hid hPB
          clear hMA hMB hPA hPB
          have a0 := ea
          have b0 := eb
          have B0 := hbr
          go_wp2_with fail
          refine (HMA.out _ a0).mono ?_
          rintro e m1 ⟨rfl, hm1⟩
          have a1 := Blk.below a0 hm1 (Blk.lt a0)
          have b1 := Blk.below b0 hm1 (Blk.lt b0)
          have B1 := B0.trans (hm1.mono B0.size)
          go_wp2_with fail
          refine (HMB.out _ b1).mono ?_
          rintro e m2 ⟨rfl, hm2⟩
          have a2 := Blk.below a1 hm2 (Blk.lt a1)
          have b2 := Blk.below b1 hm2 (Blk.lt b1)
          have B2 := B1.trans (hm2.mono B1.size)
          go_wp2_with fail
          refine (HMA.out _ a2).mono ?_
          rintro e m3 ⟨rfl, hm3⟩
          have a3 := Blk.below a2 hm3 (Blk.lt a2)
          have b3 := Blk.below b2 hm3 (Blk.lt b2)
          have B3 := B2.trans (hm3.mono B2.size)
          go_wp2_with fail
          refine (HPA.out _ a3).mono ?_
          rintro e m4 ⟨rfl, hm4⟩
          have a4 := Blk.below a3 hm4 (Blk.lt a3)
          have b4 := Blk.below b3 hm4 (Blk.lt b3)
          have B4 := B3.trans (hm4.mono B3.size)
          go_wp2_with fail
          refine (HPB.out _ b4).mono ?_
          rintro e m5 ⟨rfl, hm5⟩
          have a5 := Blk.below a4 hm5 (Blk.lt a4)
          have b5 := Blk.below b4 hm5 (Blk.lt b4)
          have B5 := B4.trans (hm5.mono B4.size)
          go_wp2_with fail
          go_ret
          exact ⟨rfl, B5⟩

theorem own : ownKnob Try.prog.godebug = none := by kernel_rfl

set_option maxRecDepth 100000 in
theorem lifted (os : Os) (started : os.Started) (H : Type) (enc : TypeId × Value → H) :
    ReturnsInHanded {} Try.checked os 3 .any (Rows.idsApartSpec.pre6 enc Try.prog Try.f3 Rows.idsApartRow.domain false) (Rows.idsApartSpec.post enc Try.prog Try.f3 false true false false) := by
  refine returnsInHanded_of_change (C := Try.checked) own started (by kernel_rfl) Try.func3
    (ChangeSpec.witness6 (enc := enc) (C := Try.checked) false ⟨#[], #[.int .u8 0, .int .i64 0], []⟩ 8 (by kernel_rfl) (by kernel_rfl) (by kernel_rfl) (by kernel_rfl)) ?_
  intro W base args ds gs before hval0 hW hcnd _
  have hval : ∀ (j : Nat) t v, Try.f3.params[j]? = some t → args[j]? = some v → Value.okWide Try.prog W .any base t v := hval0
  have hW' := hW
  obtain ⟨p, q, hA0, hV, rfl, hfz, hnd⟩ := hW
  have hA : DataW.TrodAll enc Try.prog W 0 (fun _ => true) true Try.f3.params.toList args.toList ds p := hA0
  rw [Try.params3] at hA hval
  obtain ⟨v0, vs0, d0, ds0, p0, q0, hargs, rfl, rfl, h0, r0⟩ := trodAll_cons hA
  obtain ⟨v1, vs1, d1, ds1, p1, q1, rfl, rfl, rfl, h1, r1⟩ := trodAll_cons r0
  obtain ⟨rfl, rfl, rfl⟩ := trodAll_nil r1
  obtain rfl : args = #[v0, v1] := by cases args; simp_all
  obtain ⟨rfl, rfl⟩ := trodVars_none hV
  have g0 := h0
  have g1 := h1
  obtain ⟨a0, rfl, _, _, w0⟩ := open_int Try.underlying5 (hval 0 5 v0 rfl rfl) h0
  obtain ⟨a1, rfl, _, _, w1⟩ := open_int Try.underlying3 (hval 1 3 v1 rfl rfl) h1
  clear hA0 hval0
  have hlt : ∀ x ∈ (p0 ++ (p1 ++ [])), x.block < W.heap.size := fun x hx => hW'.lt x (by simpa using hx)
  refine (walk W a0 w0 a1 w1).mono fun e W' ⟨he, hb⟩ => ?_
  subst he
  refine ⟨_, rfl, post_of_below (pa := (p0 ++ (p1 ++ []))) (pv := []) hW' (fun _ _ _ => (trodAll_cons_mk (shut_bool Try.underlying4 _) trodAll_mk0)) (fun sp hsp => ?_) (fun _ _ => rfl) (by simp) hb (ok_one (by kernel_rfl) rfl (okWide_bool_mk Try.underlying4 _))⟩
  exact trodAll_cons_mk (below_trod sp (by kernel_rfl) (by kernel_rfl) (of_decide_eq_true (by kernel_rfl)) g0 hb (fun x hx => hlt x (by simp [hx])) (fun x hx => hsp x (by simp [hx])))
    (trodAll_cons_mk (below_trod sp (by kernel_rfl) (by kernel_rfl) (of_decide_eq_true (by kernel_rfl)) g1 hb (fun x hx => hlt x (by simp [hx])) (fun x hx => hsp x (by simp [hx])))
    (trodAll_mk0))

theorem over : Rows.idsApartRow.holds Try.pinned (OpenSpec.ofChange Rows.idsApartSpec) :=
  OpenClaim.holds_of_wide 3 Try.f3 rfl rfl rfl rfl rfl rfl rfl ⟨rfl, rfl, rfl, rfl, rfl⟩ rfl rfl rfl rfl rfl (by kernel_rfl) Try.func3 (by kernel_rfl)
    (of_decide_eq_true (by kernel_rfl)) (by unfold Func.isWrapper; rw [if_neg (by decide +kernel)]; exact ⟨rfl, rfl⟩)
    (fun os started H enc _ => lifted os started H enc)

theorem proved : Rows.IdsApartSaid := over
#print axioms proved
end Go.Proofs.Ytnpkcoaofcbckaa.IdsApart
