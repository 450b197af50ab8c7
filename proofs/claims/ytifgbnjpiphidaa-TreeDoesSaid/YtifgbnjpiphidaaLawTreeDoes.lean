/- Proved: TreeDoes answers true for every input, and leaves its arguments as they were; no condition. -/
import Derived.Test.YtifgbnjpiphidaaRows
import Derived.Test.YtifgbnjpiphidaaMem
import Derived.Test.YtifgbnjpiphidaaLift
import Derived.Test.YtifgbnjpiphidaaTreK
import Derived.WalkKit
import Derived.ProofKit
import Derived.OpenShut
import Derived.Handy
import Derived.Deep.QuietTactic
import Derived.BigQuiet
import Derived.Deep.RegionWith
import Derived.WalkLawsBesides
import Derived.Deep.RegionHeld3
namespace Go.Proofs.Ytifgbnjpiphidaa.TreeDoes
open Go.ChangeShapes Go.WideShapes Go.ChangeAt Go.RowKit Go.Deep
set_option linter.unusedVariables false

set_option maxRecDepth 100000 in
set_option maxHeartbeats 16000000 in
theorem walk (w : World) (most : Int) (w0 : (Lit.int .i64 most).wf = true) (v1 : Value) (n : Nat) (C : Nat → List Value) (h1 : RowsAt w v1 n 5 AcOk C) :
    Calls Try.prog 4 #[.int .i64 most, v1] w fun e w' => e = .returned (.bool true) ∧ Below w.heap.size w w' := by
  obtain ⟨A, cap, rfl, hnc, hcap, hcells⟩ := h1
  have HC := Lib.hid hcells
  clear hcells w0
  by_cases hm : 1 ≤ most ∧ most ≤ 256
  · have HN := Lib.hid (new_any most hm w)
    have hm1 := hm.1
    have hm2 := hm.2
    clear hm
    go_enter Try.func4, Try.ntmps4
    go_wp2_with fail
    refine HN.out.mono ?_
    rintro e w1 ⟨g, b, rfl, hg, hb, k1, b1⟩
    have z2 := Blk.new w1 39 #[.slice none 0 0]
    have B2 : Below w1.heap.size w1 (w1.alloc (.cells #[.slice none 0 0] 39)) := (Below.refl _ _).alloc (Nat.le_refl _) _
    have K2 : Hid (Bth (w1.alloc (.cells #[.slice none 0 0] 39)) g b most w1.heap.size none 0 [] ∧ Below w.heap.size w (w1.alloc (.cells #[.slice none 0 0] 39))) := ⟨⟨k1.below B2, ⟨z2, Held.nil_ _ _ _, by simp⟩, ⟨fun _ => 0, List.Pairwise.nil, (fun p hp => by cases hp), (fun p hp => by cases hp), rfl⟩⟩, b1.trans (B2.mono b1.size)⟩
    obtain ⟨h, hh⟩ : ∃ h, h = w1.heap.size := ⟨_, rfl⟩
    have HS := Lib.hid (show ∀ i ∈ [b, h], w.heap.size ≤ i by intro i hi; simp at hi; rcases hi with rfl | rfl; exact hb; rw [hh]; exact b1.size)
    clear k1 b1 z2 B2 HN
    go_upto_region 5 with fail
    generalize w1.alloc (.cells #[.slice none 0 0] 39) = w2 at *
    rw [← hh] at K2 ⊢
    clear hh
    go_wp2_with fail
    refine (awake_any _).mono ?_
    rintro e w3 ⟨rfl, b3⟩
    have K3 := Lib.hid (And.intro (K2.out.1.below b3) (K2.out.2.trans (b3.mono K2.out.2.size)))
    clear b3 K2
    go_wp2_with fail
    go_loopw [8] (fun iv wr => ∃ (k c : Nat) (B : Option Addr) (l : List Nd), iv = .int .i64 k ∧ k ≤ 40 ∧ Bth wr g b most h B c l ∧ Below w.heap.size w wr) (fun iv _ => 40 - (intOf iv).toNat)
    case atStart => exact ⟨0, 0, none, [], rfl, by omega, K3.out⟩
    case round =>
      obtain ⟨k, c, B, l, rfl, hk, kb, bb⟩ := hrel
      have HM := Lib.hid (And.intro kb bb)
      clear kb bb K3
      have hk0 : (0 : Int) ≤ k := by omega
      by_cases hlt : k < n
      · by_cases hlt2 : k < 40
        · obtain ⟨⟨a, hCa, hin⟩, _, bq, off, rfl, hbl, hc⟩ := HC.out k hlt
          have hk1 : (k : Int) < n := by omega
          have hk2 : (k : Int) < 40 := by omega
          have cc : ∀ j u, (av a)[j]? = some u → wr.cell? ⟨bq, off + k * 5 + j, none⟩ = some u := fun j u hu => (HM.out.2.cell (p := ⟨bq, off + k * 5 + j, none⟩) hbl).trans (hc j u (by rw [hCa]; exact hu))
          have HD := Lib.hid (do_any g b most h c B l wr HM.out.1 a hin)
          obtain ⟨kd, id, ⟨on, wt, ex⟩⟩ := a
          have c0 := cc 0 (.int .i64 kd) rfl
          have c1 := cc 1 (.int .i64 id) rfl
          have c2 := cc 2 (.int .i64 on) rfl
          have c3 := cc 3 (.int .i64 wt) rfl
          have c4 := cc 4 (.bool ex) rfl
          clear cc hc hin hCa
          simp only [Nat.add_zero] at c0
          go_wp2_with fail
          refine HD.out.mono ?_
          rintro e w4 ⟨rfl, B4, c4', l4, k4, o4⟩
          have K4 := Lib.hid (And.intro k4 (bonly HM.out.2 o4 HS.out))
          clear k4 o4 HD c0 c1 c2 c3 c4
          go_wp2_with fail
          refine (same_any g b most h c4' B4 l4 w4 K4.out.1).mono ?_
          rintro e w5 ⟨rfl, b5⟩
          have K5 := Lib.hid (And.intro (K4.out.1.below b5) (K4.out.2.trans (b5.mono K4.out.2.size)))
          clear b5
          go_wp2_with fail
          go_roundw
          case rel => exact ⟨k + 1, c4', B4, l4, by go_num, by omega, K5.out⟩
          case measure => simp [intOf]; omega
        · go_wp2_with fail
          go_ret
          exact ⟨rfl, HM.out.2⟩
      · go_wp2_with fail
        go_ret
        exact ⟨rfl, HM.out.2⟩
  · have hm' : most < 1 ∨ 256 < most := by omega
    have HN := Lib.hid (new_bad most hm' w)
    by_cases h1 : most < 1
    · clear hm hm'
      go_enter Try.func4, Try.ntmps4
      go_wp2_with fail
      refine HN.out.mono ?_
      rintro e w1 ⟨rfl, rfl⟩
      go_wp2_with fail
      refine (awake_any _).mono ?_
      rintro e w3 ⟨rfl, b3⟩
      have H3 := Lib.hid b3
      clear b3
      go_wp2_with fail
      go_ret
      exact ⟨rfl, H3.out⟩
    · have h2 : 256 < most := by omega
      clear hm hm'
      go_enter Try.func4, Try.ntmps4
      go_wp2_with fail
      refine HN.out.mono ?_
      rintro e w1 ⟨rfl, rfl⟩
      go_wp2_with fail
      refine (awake_any _).mono ?_
      rintro e w3 ⟨rfl, b3⟩
      have H3 := Lib.hid b3
      clear b3
      go_wp2_with fail
      go_ret
      exact ⟨rfl, H3.out⟩

theorem own : ownKnob Try.prog.godebug = none := by kernel_rfl

set_option maxRecDepth 100000 in
theorem lifted (os : Os) (started : os.Started) (H : Type) (enc : TypeId × Value → H) :
    ReturnsInHanded {} Try.checked os 4 .any (Rows.treeDoesSpec.pre6 enc Try.prog Try.f4 Rows.treeDoesRow.domain false) (Rows.treeDoesSpec.post enc Try.prog Try.f4 false true false false) := by
  refine returnsInHanded_of_change (C := Try.checked) own started (by kernel_rfl) Try.func4
    (ChangeSpec.witness6 (enc := enc) (C := Try.checked) false ⟨#[], #[.int .i64 0, .slice none 0 0], []⟩ 8 (by kernel_rfl) (by kernel_rfl) (by kernel_rfl) (by kernel_rfl)) ?_
  intro W base args ds gs before hval0 hW hcnd _
  have hval : ∀ (j : Nat) t v, Try.f4.params[j]? = some t → args[j]? = some v → Value.okWide Try.prog W .any base t v := hval0
  have hW' := hW
  obtain ⟨p, q, hA0, hV, rfl, hfz, hnd⟩ := hW
  have hA : DataW.TrodAll enc Try.prog W 0 (fun _ => true) true Try.f4.params.toList args.toList ds p := hA0
  rw [Try.params4] at hA hval
  obtain ⟨v0, vs0, d0, ds0, p0, q0, hargs, rfl, rfl, h0, r0⟩ := trodAll_cons hA
  obtain ⟨v1, vs1, d1, ds1, p1, q1, rfl, rfl, rfl, h1, r1⟩ := trodAll_cons r0
  obtain ⟨rfl, rfl, rfl⟩ := trodAll_nil r1
  obtain rfl : args = #[v0, v1] := by cases args; simp_all
  obtain ⟨rfl, rfl⟩ := trodVars_none hV
  have g0 := h0
  have g1 := h1
  obtain ⟨a0, rfl, _, _, w0⟩ := open_int Try.underlying3 (hval 0 3 v0 rfl rfl) h0
  obtain ⟨n1, C1, k1⟩ := open_rows Try.underlying35 (by kernel_rfl) (by decide) (ac_of Try.underlying42 Try.underlying30 Try.underlying3 Try.underlying4 (by kernel_rfl) (by kernel_rfl) (by kernel_rfl) rfl rfl rfl rfl rfl rfl rfl rfl rfl rfl rfl rfl) (hval 1 35 v1 rfl rfl) h1
  clear hA0 hval0
  have hlt : ∀ x ∈ (p0 ++ (p1 ++ [])), x.block < W.heap.size := fun x hx => hW'.lt x (by simpa using hx)
  refine (walk W a0 w0 v1 n1 C1 k1).mono fun e W' ⟨he, hb⟩ => ?_
  subst he
  refine ⟨_, rfl, post_of_below (pa := (p0 ++ (p1 ++ []))) (pv := []) hW' (fun _ _ _ => (trodAll_cons_mk (shut_bool Try.underlying4 _) trodAll_mk0)) (fun sp hsp => ?_) (fun _ _ => rfl) (by simp) hb (ok_one (by kernel_rfl) rfl (okWide_bool_mk Try.underlying4 _))⟩
  exact trodAll_cons_mk (below_trod sp (by kernel_rfl) (by kernel_rfl) (of_decide_eq_true (by kernel_rfl)) g0 hb (fun x hx => hlt x (by simp [hx])) (fun x hx => hsp x (by simp [hx])))
    (trodAll_cons_mk (below_trod sp (by kernel_rfl) (by kernel_rfl) (of_decide_eq_true (by kernel_rfl)) g1 hb (fun x hx => hlt x (by simp [hx])) (fun x hx => hsp x (by simp [hx])))
    (trodAll_mk0))

theorem over : Rows.treeDoesRow.holds Try.pinned (OpenSpec.ofChange Rows.treeDoesSpec) :=
  OpenClaim.holds_of_wide 4 Try.f4 rfl rfl rfl rfl rfl rfl rfl ⟨rfl, rfl, rfl, rfl, rfl⟩ rfl rfl rfl rfl rfl (by kernel_rfl) Try.func4 (by kernel_rfl)
    (of_decide_eq_true (by kernel_rfl)) (by unfold Func.isWrapper; rw [if_neg (by decide +kernel)]; exact ⟨rfl, rfl⟩)
    (fun os started H enc _ => lifted os started H enc)

theorem proved : Rows.TreeDoesSaid := over
#print axioms proved
end Go.Proofs.Ytifgbnjpiphidaa.TreeDoes
