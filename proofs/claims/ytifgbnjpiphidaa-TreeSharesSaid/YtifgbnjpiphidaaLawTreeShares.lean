/- Proved: TreeShares answers true for every input, and leaves its arguments as they were; no condition. -/
import Derived.Test.YtifgbnjpiphidaaRows
import Derived.Test.YtifgbnjpiphidaaMem
import Derived.Test.YtifgbnjpiphidaaLift
import Derived.Test.YtifgbnjpiphidaaTre8
import Derived.Test.YtifgbnjpiphidaaTreS
import Derived.WalkKit
import Derived.ProofKit
import Derived.OpenShut
import Derived.Handy
import Derived.Deep.QuietTactic
import Derived.BigQuiet
import Derived.Deep.RegionWith
import Derived.WalkLawsBesides
namespace Go.Proofs.Ytifgbnjpiphidaa.TreeShares
open Go.ChangeShapes Go.WideShapes Go.ChangeAt Go.RowKit Go.Deep
set_option linter.unusedVariables false

def byteOf : List Value → Int
  | .int _ x :: _ => x
  | _ => 0
def vOf (C : Nat → List Value) (i : Nat) : Int := byteOf (C i) % 256 + 1
theorem vOf_bd (C : Nat → List Value) (i : Nat) : 1 ≤ vOf C i ∧ vOf C i ≤ 256 := by unfold vOf; omega
set_option maxRecDepth 100000 in
set_option maxHeartbeats 16000000 in
theorem walk (w : World) (a0 : Int) (w0 : (Lit.int .u8 a0).wf = true) (v1 : Value) (n : Nat) (C : Nat → List Value) (h1 : RowsAt w v1 n 1 (OneNum .u8) C) :
    Calls Try.prog 3 #[.int .u8 a0, v1] w fun e w' => e = .returned (.bool true) ∧ Below w.heap.size w w' := by
  obtain ⟨A, cap, rfl, hnc, hcap, hcells⟩ := h1
  have HC := Lib.hid hcells
  clear hcells
  obtain ⟨b1, b2⟩ := bounds_u8 w0
  clear w0
  go_enter Try.func3, Try.ntmps3
  go_wp2_with fail
  refine (new_any 100 (by omega) w).mono ?_
  rintro e w1 ⟨g, b, rfl, hg, hb, k1, b1'⟩
  have H1 := Lib.hid (And.intro k1 b1')
  have HS := Lib.hid (show ∀ i ∈ [b], w.heap.size ≤ i by intro i hi; simp at hi; rw [hi]; exact hb)
  clear k1 b1'
  go_wp2_with fail
  refine (awake_any _).mono ?_
  rintro e w2 ⟨rfl, b2'⟩
  have H2 := Lib.hid (And.intro (H1.out.1.below b2') (H1.out.2.trans (b2'.mono H1.out.2.size)))
  clear b2' H1
  by_cases hn : 40 < n
  · go_wp2_with fail
    refine (awake_any _).mono ?_
    rintro e w3 ⟨rfl, b3'⟩
    have H3 := Lib.hid (H2.out.2.trans (b3'.mono H2.out.2.size))
    clear b3'
    go_wp2_with fail
    go_ret
    exact ⟨rfl, H3.out⟩
  · have hn' : n ≤ 40 := by omega
    clear hn
    obtain ⟨wt, hwt⟩ : ∃ wt, a0 + 1 = wt := ⟨_, rfl⟩
    have hwt1 : 1 ≤ wt := by omega
    have hwt2 : wt ≤ 256 := by omega
    have HW := Lib.hid (show 1 ≤ wt ∧ wt ≤ 256 from ⟨hwt1, hwt2⟩)
    go_wp2_with fail
    refine (insert_rest g b 100 [] w2 H2.out.1 1 ⟨0, wt, false⟩ (by omega) (decide_eq_true (by simp only; omega)) (by simp)).mono ?_
    rintro e w3 hq
    obtain ⟨rfl, t3⟩ := hq.2.2 (getN_nil _) (by simp)
    rw [shL_start wt (vOf C)] at t3
    have H3 := Lib.hid (And.intro t3.1 (bonly H2.out.2 t3.2 HS.out))
    clear hq t3 H2
    go_wp2_with fail
    go_loopw [8] (fun iv wr => ∃ k : Nat, k ≤ n ∧ iv = .int .i64 k ∧ Trs wr g b 100 (shL wt (vOf C) k) ∧ Below w.heap.size w wr) (fun i _ => n - (intOf i).toNat)
    case atStart => exact ⟨0, by omega, rfl, H3.out⟩
    case round =>
      obtain ⟨k, hk, rfl, kt, kb⟩ := hrel
      have HM := Lib.hid (And.intro kt kb)
      clear kt kb H3
      have hk0 : (0 : Int) ≤ k := by omega
      have hkn : (k : Int) ≤ n := by omega
      by_cases hlt : k < n
      · obtain ⟨⟨x, hx, hxw⟩, _, bq, off, rfl, hbl, hc⟩ := HC.out k hlt
        have c0 := hc 0 (.int .u8 x) (by rw [hx]; rfl)
        obtain ⟨x1, x2⟩ := bounds_u8 hxw
        have HV : Hid (vOf C k = x + 1) := by
          show byteOf (C k) % 256 + 1 = x + 1
          rw [hx]
          show x % 256 + 1 = x + 1
          omega
        clear hxw hc hx
        simp only [Nat.mul_one, Nat.add_zero] at c0
        rw [← HM.out.2.cell (p := ⟨bq, off + k, none⟩) hbl] at c0
        have hk1 : (k : Int) < n := by omega
        go_wp2_with fail
        refine (insert_rest g b 100 (shL wt (vOf C) k) wr HM.out.1 ((k : Int) + 2) ⟨1, x + 1, false⟩ (by omega) (decide_eq_true (by simp only; omega)) (by simp; omega)).mono ?_
        rintro e w4 hq
        obtain ⟨rfl, t4⟩ := hq.2.2 (shL_no _ _ _) (by rw [shL_length]; omega)
        rw [← HV.out, shL_more] at t4
        have H4 := Lib.hid (And.intro t4.1 (bonly HM.out.2 t4.2 HS.out))
        clear hq t4
        go_wp2_with fail
        go_roundw
        case rel => exact ⟨k + 1, by omega, by go_num, H4.out⟩
        case measure => simp [intOf]; omega
      · obtain rfl : n = k := by omega
        go_wp2_with fail
        refine (remove_ok g b 100 (shL wt (vOf C) n) wr HM.out.1 1 (by decide) ⟨1, 0, wt⟩ (shL_one _ _ _)).mono ?_
        rintro e w4 ⟨rfl, t4⟩
        have H4 : Hid (Trs w4 g b 100 (shR wt (vOf C) n) ∧ Below w.heap.size w w4) := ⟨t4.1, bonly HM.out.2 t4.2 HS.out⟩
        clear t4 HM
        go_wp2_with fail
        go_loopw [9, 10, 11] (fun sv lv iv wr => ∃ (k : Nat) (s t : Int), k ≤ n ∧ iv = .int .i64 k ∧ sv = .int .i64 s ∧ lv = .int .i64 t ∧ ShS wt (vOf C) n k s t ∧ Trs wr g b 100 (shR wt (vOf C) n) ∧ Below w.heap.size w wr) (fun _ _ i _ => n - (intOf i).toNat)
        case atStart => exact ⟨0, 0, 0, by omega, rfl, rfl, rfl, ShS.start _ _ _, H4.out⟩
        case round =>
          obtain ⟨k, s, t, hk, rfl, rfl, rfl, hs, kt, kb⟩ := hrel
          have hs1 := hs.1
          have hs2 := hs.2.1
          have hs3 : s ≤ 256 * k := hs.2.2.1
          have HM := Lib.hid (And.intro hs (And.intro kt kb))
          clear kt kb hs H4
          have hk0 : (0 : Int) ≤ k := by omega
          by_cases hlt : k < n
          · have hk1 : (k : Int) < n := by omega
            have hat := shR_at wt (vOf C) n k hlt
            have hbd := share_bd (vOf_bd C k).1 (psum_mono (vOf C) (vOf_bd C) hlt) HW.out
            obtain ⟨y, hy⟩ : ∃ y, y = shareI (vOf C k) wt (psum (vOf C) n) := ⟨_, rfl⟩
            rw [← hy] at hat hbd
            have HY := Lib.hid (And.intro hy hat)
            obtain ⟨hy1, hy2⟩ := hbd
            clear hat hy
            go_wp2_with fail
            refine (weight_any g b 100 (shR wt (vOf C) n) wr HM.out.2.1 ((k : Int) + 2) (wf31 (by omega) (by omega))).mono ?_
            rintro e w5 ⟨rfl, b5⟩
            rw [HY.out.2]
            have H5 := Lib.hid (And.intro (HM.out.2.1.below b5) (HM.out.2.2.trans (b5.mono HM.out.2.2.size)))
            clear b5
            simp only [Option.getD_some]
            go_wp2_with fail
            refine (parent_any g b 100 (shR wt (vOf C) n) w5 H5.out.1 ((k : Int) + 2) (wf31 (by omega) (by omega))).mono ?_
            rintro e w6 ⟨rfl, b6⟩
            rw [HY.out.2]
            have H6 := Lib.hid (And.intro (H5.out.1.below b6) (H5.out.2.trans (b6.mono H5.out.2.size)))
            clear b6 H5
            simp only [Option.getD_some]
            by_cases h1 : y = 1
            · have HF : Hid (ShS wt (vOf C) n (k + 1) (s + 1) (t + 1)) := HM.out.1.one (vOf_bd C) HW.out
              subst h1
              go_wp2_with fail
              go_roundw
              case rel => exact ⟨k + 1, s + 1, t + 1, by omega, by go_num, rfl, rfl, HF.out, H6.out⟩
              case measure => simp [intOf]; omega
            · have HF : Hid (ShS wt (vOf C) n (k + 1) (s + y) t) := by
                rw [HY.out.1]
                exact HM.out.1.more (vOf_bd C) HW.out hlt (by rw [← HY.out.1]; exact h1)
              have hne : (y == 1) = false := by simp [h1]
              clear h1
              go_wp2_with fail
              go_roundw
              case rel => exact ⟨k + 1, s + y, t, by omega, by go_num, rfl, rfl, HF.out, H6.out⟩
              case measure => simp [intOf]; omega
          · obtain rfl : n = k := by omega
            have hle := HM.out.1.end_ (vOf_bd C) HW.out
            have HL := Lib.hid (shR_length wt (vOf C) n)
            go_wp2_with fail
            refine (len_any g b 100 (shR wt (vOf C) n) wr HM.out.2.1).mono ?_
            rintro e w5 ⟨rfl, rfl⟩
            rw [HL.out]
            go_wp2_with fail
            go_ret
            exact ⟨rfl, HM.out.2.2⟩

theorem own : ownKnob Try.prog.godebug = none := by kernel_rfl

set_option maxRecDepth 100000 in
theorem lifted (os : Os) (started : os.Started) (H : Type) (enc : TypeId × Value → H) :
    ReturnsInHanded {} Try.checked os 3 .any (Rows.treeSharesSpec.pre6 enc Try.prog Try.f3 Rows.treeSharesRow.domain false) (Rows.treeSharesSpec.post enc Try.prog Try.f3 false true false false) := by
  refine returnsInHanded_of_change (C := Try.checked) own started (by kernel_rfl) Try.func3
    (ChangeSpec.witness6 (enc := enc) (C := Try.checked) false ⟨#[], #[.int .u8 0, .slice none 0 0], []⟩ 8 (by kernel_rfl) (by kernel_rfl) (by kernel_rfl) (by kernel_rfl)) ?_
  intro W base args ds gs before hval0 hW hcnd _
  have hval : ∀ (j : Nat) t v, Try.f3.params[j]? = some t → args[j]? = some v → Value.okWide Try.prog W .any base t v := hval0
  have hW' := hW
  obtain ⟨p, q, hA0, hV, rfl, hfz, hnd⟩ := hW
  have hA : DataW.TrodAll enc Try.prog W 0 (fun _ => true) true Try.f3.params.toList args.toList ds p := hA0
  rw [Try.params3] at hA hval
  obtain ⟨v0, vs0, d0, ds0, p0, q0, hargs, rfl, rfl, h0, r0⟩ := trodAll_cons hA
  obtain ⟨v1, vs1, d1, ds1, p1, q1, rfl, rfl, rfl, h1, r1⟩ := trodAll_cons r0
  obtain ⟨rfl, rfl, rfl⟩ := trodAll_nil r1
  obtain rfl : args = #[v0, v1] := by cases args; simp_all
  obtain ⟨rfl, rfl⟩ := trodVars_none hV
  have g0 := h0
  have g1 := h1
  obtain ⟨a0, rfl, _, _, w0⟩ := open_int Try.underlying5 (hval 0 5 v0 rfl rfl) h0
  obtain ⟨n1, C1, k1⟩ := open_rows Try.underlying22 (by kernel_rfl) (by decide) (one_of Try.underlying5) (hval 1 22 v1 rfl rfl) h1
  clear hA0 hval0
  have hlt : ∀ x ∈ (p0 ++ (p1 ++ [])), x.block < W.heap.size := fun x hx => hW'.lt x (by simpa using hx)
  refine (walk W a0 w0 v1 n1 C1 k1).mono fun e W' ⟨he, hb⟩ => ?_
  subst he
  refine ⟨_, rfl, post_of_below (pa := (p0 ++ (p1 ++ []))) (pv := []) hW' (fun _ _ _ => (trodAll_cons_mk (shut_bool Try.underlying4 _) trodAll_mk0)) (fun sp hsp => ?_) (fun _ _ => rfl) (by simp) hb (ok_one (by kernel_rfl) rfl (okWide_bool_mk Try.underlying4 _))⟩
  exact trodAll_cons_mk (below_trod sp (by kernel_rfl) (by kernel_rfl) (of_decide_eq_true (by kernel_rfl)) g0 hb (fun x hx => hlt x (by simp [hx])) (fun x hx => hsp x (by simp [hx])))
    (trodAll_cons_mk (below_trod sp (by kernel_rfl) (by kernel_rfl) (of_decide_eq_true (by kernel_rfl)) g1 hb (fun x hx => hlt x (by simp [hx])) (fun x hx => hsp x (by simp [hx])))
    (trodAll_mk0))

theorem over : Rows.treeSharesRow.holds Try.pinned (OpenSpec.ofChange Rows.treeSharesSpec) :=
  OpenClaim.holds_of_wide 3 Try.f3 rfl rfl rfl rfl rfl rfl rfl ⟨rfl, rfl, rfl, rfl, rfl⟩ rfl rfl rfl rfl rfl (by kernel_rfl) Try.func3 (by kernel_rfl)
    (of_decide_eq_true (by kernel_rfl)) (by unfold Func.isWrapper; rw [if_neg (by decide +kernel)]; exact ⟨rfl, rfl⟩)
    (fun os started H enc _ => lifted os started H enc)

theorem proved : Rows.TreeSharesSaid := over
#print axioms proved
end Go.Proofs.Ytifgbnjpiphidaa.TreeShares
