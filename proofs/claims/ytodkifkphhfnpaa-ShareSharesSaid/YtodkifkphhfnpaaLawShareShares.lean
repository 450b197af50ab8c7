/- Proved: ShareShares answers true for every input, and leaves its arguments as they were; no condition. -/
import Derived.Test.YtodkifkphhfnpaaRows
import Derived.Test.YtodkifkphhfnpaaMem
import Derived.Test.YtodkifkphhfnpaaLift
import Derived.Test.YtodkifkphhfnpaaShareAw
import Derived.WalkKit
import Derived.ProofKit
import Derived.OpenShut
import Derived.Handy
import Derived.Deep.QuietTactic
import Derived.BigQuiet
import Derived.Deep.RegionWith
import Derived.WalkLawsBesides
import Derived.Test.YtodkifkphhfnpaaShare7
namespace Go.Proofs.Ytodkifkphhfnpaa.ShareShares
open Go.ChangeShapes Go.WideShapes Go.ChangeAt Go.RowKit Go.Deep
set_option linter.unusedVariables false

set_option maxRecDepth 100000 in
set_option maxHeartbeats 8000000 in
theorem walk (w : World) (a0 : Int) (w0 : (Lit.int .i64 a0).wf = true) (v1 : Value) (n : Nat) (C : Nat → List Value) (h1 : RowsAt w v1 n 2 Two C) :
    Calls Try.prog 5 #[.int .i64 a0, v1] w fun e w' => e = .returned (.bool true) ∧ Below w.heap.size w w' := by
  obtain ⟨X, Y, hc⟩ := claims_of h1
  clear h1 C
  obtain ⟨b1, b2⟩ := bounds_i64 w0
  clear w0
  have hc' := hc
  obtain ⟨⟨A, cap, rfl, hnc, hcap, hA0, _⟩, _, _⟩ := hc
  have HC := Lib.hid hc'
  clear hc' hA0
  by_cases hr : (40 < n ∧ n ≤ 256) ∨ 400 < n
  · have fin : ∀ (k : Nat), 40 < k → (k ≤ 256 ∨ 400 < k) → True := fun _ _ _ => trivial
    rcases hr with ⟨hr1, hr2⟩ | hr1
    · go_enter Try.func5, Try.ntmps5
      go_wp2_with fail
      refine (awake_any _).mono ?_
      rintro e w1 ⟨rfl, hb1⟩
      go_wp2_with fail
      go_ret
      exact ⟨rfl, hb1⟩
    · go_enter Try.func5, Try.ntmps5
      go_wp2_with fail
      refine (awake_any _).mono ?_
      rintro e w1 ⟨rfl, hb1⟩
      go_wp2_with fail
      go_ret
      exact ⟨rfl, hb1⟩
  · by_cases hw : a0 < 0 ∨ 2147483647 < a0
    · have hS := fun W => share_arg a0 (.slice A n cap) W hw
      have hL := fun W => left_no a0 A n cap W (by omega) (by omega)
      have HS := Lib.hid hS
      have HL := Lib.hid hL
      clear hS hL
      have hg : ∀ (P : Prop), (n ≤ 40 → P) → (256 < n → n ≤ 400 → P) → P := fun P f g => by
        by_cases h : n ≤ 40
        · exact f h
        · exact g (by omega) (by omega)
      clear hr
      rcases hw with hw | hw <;>
      (refine hg _ (fun hn => ?_) (fun hn hn' => ?_) <;>
       (clear hg
        go_enter Try.func5, Try.ntmps5
        go_wp2_with fail
        refine (HS.out _).mono ?_
        rintro e w1 ⟨rfl, rfl⟩
        go_wp2_with fail
        refine (HL.out _).mono ?_
        rintro e w1 ⟨rfl, rfl⟩
        go_wp2_with fail
        refine (awake_any _).mono ?_
        rintro e w1 ⟨rfl, hb1⟩
        go_wp2_with fail
        go_ret
        exact ⟨rfl, hb1⟩))
    · have hw0 : 0 ≤ a0 := by omega
      have hw1 : a0 ≤ 2147483647 := by omega
      by_cases hn : n ≤ 40
      · clear hr hw
        have hS := share_ok a0 _ n X Y w HC.out (by omega) hw0 hw1
        have HS := Lib.hid hS
        clear hS
        go_enter Try.func5, Try.ntmps5
        go_wp2_with fail
        refine HS.out.mono ?_
        rintro e w1 ⟨A1, c1, h, rfl, hr1, hE1, b1⟩
        have hc1 := HC.out.below b1 (Nat.le_refl _)
        have HL := Lib.hid (left_ok a0 _ n X Y w1 hc1 (by omega) hw0 hw1)
        have HC1 := Lib.hid hc1
        have HR1 := Lib.hid hr1
        have HE1 := Lib.hid hE1
        have HB1 := Lib.hid b1
        clear hc1 hr1 hE1 b1
        go_wp2_with fail
        refine HL.out.mono ?_
        rintro e w2 ⟨h2, rfl, hE2, b2'⟩
        obtain rfl := SH.Deal.End.one HE1.out hE2
        have hc2 := HC1.out.below b2' (Nat.le_refl _)
        have HR := Lib.hid (rshare_any a0 _ n X Y w2 hc2 (by omega) hw0 hw1)
        have HR2 := Lib.hid (HR1.out.below b2')
        have HB2 := Lib.hid (HB1.out.trans (b2'.mono HB1.out.size))
        clear hc2 b2' hE2
        go_wp2_with fail
        refine HR.out.mono ?_
        rintro e w3 ⟨A3, c3, h3, rfl, hr3, hE3, b3⟩
        obtain rfl := SH.Deal.End.one HE1.out hE3
        have I := HE1.out.inv (fits_of a0 n X Y hw0 hw1).ok
        have hsum := sum_bound (h := h) (n := n) (fun j hj => ⟨I.lo j hj, by
          have h1 := I.hi j hj
          have h2 := (fits_of a0 n X Y hw0 hw1).want1 j hj
          omega⟩)
        have hsm : ∀ m, m ≤ n → SH.sumF h m ≤ a0 := fun m hm => by
          have h1 := SH.sumF_pre (f := h) (i := m) n I.lo hm
          have h2 : SH.sumF h n ≤ a0 := I.le
          omega
        have hl : (dealOf a0 n X Y).left h = a0 - SH.sumF h n := rfl
        have HLo := Lib.hid (And.intro I.lo (And.intro hsm (fun m hm => SH.sumF_nonneg (f := h) m (fun j (hj : j < m) => I.lo j (Nat.lt_of_lt_of_le hj hm)))))
        have HR3 := Lib.hid hr3
        have HR4 := Lib.hid (HR2.out.below b3)
        have HB3 := Lib.hid (HB2.out.trans (b3.mono HB2.out.size))
        clear hr3 b3 hE3 I hsum hsm
        rw [hl]
        clear hl
        go_wp2_with fail
        go_loopw [0, 9] (fun lv iv wr => ∃ m : Nat, m ≤ n ∧ iv = .int .i64 m ∧ lv = .int .i64 (a0 - SH.sumF h m) ∧ wr = w3) (fun _ i _ => n - (intOf i).toNat)
        case atStart => exact ⟨0, by omega, rfl, by simp [SH.sumF], rfl⟩
        case round =>
          obtain ⟨m, hm, rfl, rfl, rfl⟩ := hrel
          by_cases hlt : m < n
          · obtain ⟨g3, rfl, i3⟩ := HR3.out.2 (by omega)
            have x3 := i3.cell hlt
            have q1 := HLo.out.1 m hlt
            have q2 := HLo.out.2.1 (m + 1) (by omega)
            have q3 := HLo.out.2.2 m hm
            simp only [SH.sumF] at q2
            clear i3
            go_wp2_with fail
            go_roundw
            case rel => exact ⟨m + 1, by omega, by go_num, by simp only [SH.sumF]; congr 1; omega, by first | rfl | trivial⟩
            case measure => simp [intOf]; omega
          · obtain rfl : n = m := by omega
            go_wp2_with fail
            refine (awake_any _).mono ?_
            rintro e w4 ⟨rfl, b4⟩
            have HI := Lib.hid (ints_any A1 A3 n c1 c3 h h w4 (HR4.out.below b4) (HR3.out.below b4) (by omega) (fun _ _ => rfl))
            have HB4 := Lib.hid (HB3.out.trans (b4.mono HB3.out.size))
            clear b4
            go_wp2_with fail
            refine HI.out.mono ?_
            rintro e w5 ⟨rfl, q, rfl⟩
            go_wp2_with fail
            go_ret
            exact ⟨rfl, below_drewN HB4.out q⟩
      · have hS := fun W => share_big a0 A n cap W hw0 hw1 (by omega) (by omega)
        have hL := fun W => left_no a0 A n cap W (by omega) (by omega)
        have HS := Lib.hid hS
        have HL := Lib.hid hL
        have hn1 : 256 < n := by omega
        have hn2 : n ≤ 400 := by omega
        clear hS hL hr hw hn
        go_enter Try.func5, Try.ntmps5
        go_wp2_with fail
        refine (HS.out _).mono ?_
        rintro e w1 ⟨rfl, rfl⟩
        go_wp2_with fail
        refine (HL.out _).mono ?_
        rintro e w1 ⟨rfl, rfl⟩
        go_wp2_with fail
        refine (awake_any _).mono ?_
        rintro e w1 ⟨rfl, hb1⟩
        go_wp2_with fail
        go_ret
        exact ⟨rfl, hb1⟩

theorem own : ownKnob Try.prog.godebug = none := by kernel_rfl

set_option maxRecDepth 100000 in
theorem lifted (os : Os) (started : os.Started) (H : Type) (enc : TypeId × Value → H) :
    ReturnsInHanded {} Try.checked os 5 .any (Rows.shareSharesSpec.pre6 enc Try.prog Try.f5 Rows.shareSharesRow.domain false) (Rows.shareSharesSpec.post enc Try.prog Try.f5 false true false false) := by
  refine returnsInHanded_of_change (C := Try.checked) own started (by kernel_rfl) Try.func5
    (ChangeSpec.witness6 (enc := enc) (C := Try.checked) false ⟨#[], #[.int .i64 0, .slice none 0 0], []⟩ 8 (by kernel_rfl) (by kernel_rfl) (by kernel_rfl) (by kernel_rfl)) ?_
  intro W base args ds gs before hval0 hW hcnd _
  have hval : ∀ (j : Nat) t v, Try.f5.params[j]? = some t → args[j]? = some v → Value.okWide Try.prog W .any base t v := hval0
  have hW' := hW
  obtain ⟨p, q, hA0, hV, rfl, hfz, hnd⟩ := hW
  have hA : DataW.TrodAll enc Try.prog W 0 (fun _ => true) true Try.f5.params.toList args.toList ds p := hA0
  rw [Try.params5] at hA hval
  obtain ⟨v0, vs0, d0, ds0, p0, q0, hargs, rfl, rfl, h0, r0⟩ := trodAll_cons hA
  obtain ⟨v1, vs1, d1, ds1, p1, q1, rfl, rfl, rfl, h1, r1⟩ := trodAll_cons r0
  obtain ⟨rfl, rfl, rfl⟩ := trodAll_nil r1
  obtain rfl : args = #[v0, v1] := by cases args; simp_all
  obtain ⟨rfl, rfl⟩ := trodVars_none hV
  have g0 := h0
  have g1 := h1
  obtain ⟨a0, rfl, _, _, w0⟩ := open_int Try.underlying3 (hval 0 3 v0 rfl rfl) h0
  obtain ⟨n1, C1, k1⟩ := open_rows Try.underlying23 (by kernel_rfl) (by decide) (two_of Try.underlying32 Try.underlying3 (by kernel_rfl) rfl rfl rfl rfl) (hval 1 23 v1 rfl rfl) h1
  clear hA0 hval0
  have hlt : ∀ x ∈ (p0 ++ (p1 ++ [])), x.block < W.heap.size := fun x hx => hW'.lt x (by simpa using hx)
  refine (walk W a0 w0 v1 n1 C1 k1).mono fun e W' ⟨he, hb⟩ => ?_
  subst he
  refine ⟨_, rfl, post_of_below (pa := (p0 ++ (p1 ++ []))) (pv := []) hW' (fun _ _ _ => (trodAll_cons_mk (shut_bool Try.underlying4 _) trodAll_mk0)) (fun sp hsp => ?_) (fun _ _ => rfl) (by simp) hb (ok_one (by kernel_rfl) rfl (okWide_bool_mk Try.underlying4 _))⟩
  exact trodAll_cons_mk (below_trod sp (by kernel_rfl) (by kernel_rfl) (of_decide_eq_true (by kernel_rfl)) g0 hb (fun x hx => hlt x (by simp [hx])) (fun x hx => hsp x (by simp [hx])))
    (trodAll_cons_mk (below_trod sp (by kernel_rfl) (by kernel_rfl) (of_decide_eq_true (by kernel_rfl)) g1 hb (fun x hx => hlt x (by simp [hx])) (fun x hx => hsp x (by simp [hx])))
    (trodAll_mk0))

theorem over : Rows.shareSharesRow.holds Try.pinned (OpenSpec.ofChange Rows.shareSharesSpec) :=
  OpenClaim.holds_of_wide 5 Try.f5 rfl rfl rfl rfl rfl rfl rfl ⟨rfl, rfl, rfl, rfl, rfl⟩ rfl rfl rfl rfl rfl (by kernel_rfl) Try.func5 (by kernel_rfl)
    (of_decide_eq_true (by kernel_rfl)) (by unfold Func.isWrapper; rw [if_neg (by decide +kernel)]; exact ⟨rfl, rfl⟩)
    (fun os started H enc _ => lifted os started H enc)

theorem proved : Rows.ShareSharesSaid := over
#print axioms proved
end Go.Proofs.Ytodkifkphhfnpaa.ShareShares
