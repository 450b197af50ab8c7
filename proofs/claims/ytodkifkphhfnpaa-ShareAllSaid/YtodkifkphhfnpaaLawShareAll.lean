/- Proved: ShareAll answers true for every input, and leaves its arguments as they were; no condition. -/
import Derived.Test.YtodkifkphhfnpaaRows
import Derived.Test.YtodkifkphhfnpaaMem
import Derived.Test.YtodkifkphhfnpaaLift
import Derived.Test.YtodkifkphhfnpaaShareAw
import Derived.WalkKit
import Derived.ProofKit
import Derived.OpenShut
import Derived.Handy
import Derived.Deep.QuietTactic
import Derived.BigQuiet
import Derived.Deep.RegionWith
import Derived.WalkLawsBesides
import Derived.Test.YtodkifkphhfnpaaShare7
namespace Go.Proofs.Ytodkifkphhfnpaa.ShareAll
open Go.ChangeShapes Go.WideShapes Go.ChangeAt Go.RowKit Go.Deep
set_option linter.unusedVariables false

set_option maxRecDepth 100000 in
set_option maxHeartbeats 8000000 in
theorem walk (w : World) (a0 : Int) (w0 : (Lit.int .u32 a0).wf = true) (v1 : Value) (n : Nat) (C : Nat → List Value) (h1 : RowsAt w v1 n 2 Two C) :
    Calls Try.prog 6 #[.int .u32 a0, v1] w fun e w' => e = .returned (.bool true) ∧ Below w.heap.size w w' := by
  obtain ⟨X, Y, hc⟩ := claims_of h1
  clear h1 C
  obtain ⟨b1, b2⟩ := bounds_u32 w0
  clear w0
  have hCut := cut_any v1 n X Y w hc
  obtain ⟨⟨A0, cap0, rfl, hnc0, hcap0, _, _⟩, _, _⟩ := hc
  have HCut := Lib.hid hCut
  have hk : min n 40 ≤ 40 := Nat.min_le_right _ _
  generalize min n 40 = k at *
  have hm0 : 0 ≤ a0 % 2147483648 := by omega
  have hm1 : a0 % 2147483648 ≤ 2147483647 := by omega
  clear hCut
  go_enter Try.func6, Try.ntmps6
  go_wp2_with fail
  refine HCut.out.mono ?_
  rintro e w1 ⟨⟨v', rfl, hc⟩, rfl⟩
  generalize hK : a0 % 2147483648 = K at *
  have hc' := hc
  obtain ⟨⟨A, cap, rfl, hnc, hcap, hA0, hcells⟩, bx, bY⟩ := hc
  have HC := Lib.hid hc'
  have HS := Lib.hid (share_ok K _ k X Y w hc' (by omega) hm0 hm1)
  have HCE := Lib.hid (And.intro hcells bx)
  clear hc' hA0 hcells bx bY
  go_wp2_with fail
  refine HS.out.mono ?_
  rintro e w2 ⟨A1, c1, h, rfl, hr1, hE, b1⟩
  have HR1 := Lib.hid hr1
  have HE := Lib.hid hE
  have HB1 := Lib.hid b1
  clear hr1 hE b1
  go_wp2_with fail
  refine (awake_any _).mono ?_
  rintro e w3 ⟨rfl, b3⟩
  have HR3 := Lib.hid (HR1.out.below b3)
  have hB3 := HB1.out.trans (b3.mono HB1.out.size)
  have HC3 := Lib.hid (HC.out.below hB3 (Nat.le_refl _))
  have HB3 := Lib.hid hB3
  clear hB3 b3
  have F := fits_of K k X Y hm0 hm1
  have I := HE.out.inv F.ok
  have hbh := fun m (hm : m ≤ k) => sum_bound (h := h) (n := k) (fun j hj => ⟨I.lo j hj, by
      have h1 := I.hi j hj
      have h2 := F.want1 j hj
      omega⟩) m hm
  have hbw := fun m (hm : m ≤ k) => sum_bound (h := fun j => wantOf (X j)) (n := k) (fun j hj => by simp only [wantOf]; omega) m hm
  have hsum : SH.sumF h k = min K (SH.sumF (fun j => wantOf (X j)) k) := HE.out.sum F.ok
  have HBH := Lib.hid hbh
  have HBW := Lib.hid hbw
  have HSUM := Lib.hid hsum
  have HI := Lib.hid (And.intro I.lo I.hi)
  have HL := Lib.hid (left_ok K _ k X Y w3 HC3.out (by omega) hm0 hm1)
  clear F I hbh hbw hsum
  go_wp2_with fail
  go_loopw [8, 9, 10] (fun sv wv iv wr => ∃ m : Nat, m ≤ k ∧ iv = .int .i64 m ∧ sv = .int .i64 (SH.sumF h m) ∧ wv = .int .i64 (SH.sumF (fun j => wantOf (X j)) m) ∧ wr = w3) (fun _ _ i _ => k - (intOf i).toNat)
  case atStart => exact ⟨0, by omega, rfl, rfl, rfl, rfl⟩
  case round =>
    obtain ⟨m, hm, rfl, rfl, rfl, rfl⟩ := hrel
    by_cases hlt : m < k
    · obtain ⟨g, rfl, i⟩ := HR3.out.2 (by omega)
      have x1 := i.cell hlt
      obtain ⟨b, off, rfl, hbl, c0, _⟩ := HCE.out.1 m hlt
      have hx := HCE.out.2 m hlt
      rw [← HB3.out.cell (p := ⟨b, off + m * 2, none⟩) (by simp; omega)] at c0
      have p1 := HI.out.1 m hlt
      have p2 : h m ≤ wantOf (X m) := HI.out.2 m hlt
      have p3 := HBH.out m (by omega)
      have p4 := HBW.out m (by omega)
      have p5 := HBH.out (m + 1) (by omega)
      have p6 := HBW.out (m + 1) (by omega)
      have p7 : 0 ≤ wantOf (X m) ∧ wantOf (X m) ≤ 2147483647 := by simp only [wantOf]; omega
      have p8 : (decide (h m < 0) || decide (wantOf (X m) < h m)) = false := by simp; omega
      simp only [SH.sumF] at p5 p6
      clear i
      go_wp2_with fail
      refine (want_any _ _).mono ?_
      rintro e w4 ⟨rfl, rfl⟩
      go_wp2_with fail
      go_roundw
      case rel => exact ⟨m + 1, by omega, by go_num, rfl, rfl, by first | rfl | trivial⟩
      case measure => simp [intOf]; omega
    · obtain rfl : k = m := by omega
      have q1 := HSUM.out
      have q2 := HBW.out k (Nat.le_refl _)
      have q3 := HBH.out k (Nat.le_refl _)
      by_cases hKS : K ≤ SH.sumF (fun j => wantOf (X j)) k
      · have hs : SH.sumF h k = K := by rw [q1]; omega
        rw [hs]
        have HS' := Lib.hid hs
        clear q1 q3 hs
        go_wp2_with fail
        refine HL.out.mono ?_
        rintro e w4 ⟨h4, rfl, hE4, b4⟩
        obtain rfl := SH.Deal.End.one HE.out hE4
        have hl : (dealOf K k X Y).left h = K - K := by show K - SH.sumF h k = _; rw [HS'.out]
        rw [hl]
        have HB4 := Lib.hid (HB3.out.trans (b4.mono HB3.out.size))
        clear b4 hE4 hl
        go_wp2_with fail
        go_ret
        exact ⟨rfl, HB4.out⟩
      · have hs : SH.sumF h k = SH.sumF (fun j => wantOf (X j)) k := by rw [q1]; omega
        rw [hs]
        have HS' := Lib.hid hs
        have hKS' : SH.sumF (fun j => wantOf (X j)) k < K := by omega
        clear q1 q3 hs hKS
        generalize SH.sumF (fun j => wantOf (X j)) k = SW at *
        go_wp2_with fail
        refine HL.out.mono ?_
        rintro e w4 ⟨h4, rfl, hE4, b4⟩
        obtain rfl := SH.Deal.End.one HE.out hE4
        have hl : (dealOf K k X Y).left h = K - SW := by show K - SH.sumF h k = _; rw [HS'.out]
        rw [hl]
        have HB4 := Lib.hid (HB3.out.trans (b4.mono HB3.out.size))
        clear b4 hE4 hl
        go_wp2_with fail
        go_ret
        exact ⟨rfl, HB4.out⟩

theorem own : ownKnob Try.prog.godebug = none := by kernel_rfl

set_option maxRecDepth 100000 in
theorem lifted (os : Os) (started : os.Started) (H : Type) (enc : TypeId × Value → H) :
    ReturnsInHanded {} Try.checked os 6 .any (Rows.shareAllSpec.pre6 enc Try.prog Try.f6 Rows.shareAllRow.domain false) (Rows.shareAllSpec.post enc Try.prog Try.f6 false true false false) := by
  refine returnsInHanded_of_change (C := Try.checked) own started (by kernel_rfl) Try.func6
    (ChangeSpec.witness6 (enc := enc) (C := Try.checked) false ⟨#[], #[.int .u32 0, .slice none 0 0], []⟩ 8 (by kernel_rfl) (by kernel_rfl) (by kernel_rfl) (by kernel_rfl)) ?_
  intro W base args ds gs before hval0 hW hcnd _
  have hval : ∀ (j : Nat) t v, Try.f6.params[j]? = some t → args[j]? = some v → Value.okWide Try.prog W .any base t v := hval0
  have hW' := hW
  obtain ⟨p, q, hA0, hV, rfl, hfz, hnd⟩ := hW
  have hA : DataW.TrodAll enc Try.prog W 0 (fun _ => true) true Try.f6.params.toList args.toList ds p := hA0
  rw [Try.params6] at hA hval
  obtain ⟨v0, vs0, d0, ds0, p0, q0, hargs, rfl, rfl, h0, r0⟩ := trodAll_cons hA
  obtain ⟨v1, vs1, d1, ds1, p1, q1, rfl, rfl, rfl, h1, r1⟩ := trodAll_cons r0
  obtain ⟨rfl, rfl, rfl⟩ := trodAll_nil r1
  obtain rfl : args = #[v0, v1] := by cases args; simp_all
  obtain ⟨rfl, rfl⟩ := trodVars_none hV
  have g0 := h0
  have g1 := h1
  obtain ⟨a0, rfl, _, _, w0⟩ := open_int Try.underlying22 (hval 0 22 v0 rfl rfl) h0
  obtain ⟨n1, C1, k1⟩ := open_rows Try.underlying23 (by kernel_rfl) (by decide) (two_of Try.underlying32 Try.underlying3 (by kernel_rfl) rfl rfl rfl rfl) (hval 1 23 v1 rfl rfl) h1
  clear hA0 hval0
  have hlt : ∀ x ∈ (p0 ++ (p1 ++ [])), x.block < W.heap.size := fun x hx => hW'.lt x (by simpa using hx)
  refine (walk W a0 w0 v1 n1 C1 k1).mono fun e W' ⟨he, hb⟩ => ?_
  subst he
  refine ⟨_, rfl, post_of_below (pa := (p0 ++ (p1 ++ []))) (pv := []) hW' (fun _ _ _ => (trodAll_cons_mk (shut_bool Try.underlying4 _) trodAll_mk0)) (fun sp hsp => ?_) (fun _ _ => rfl) (by simp) hb (ok_one (by kernel_rfl) rfl (okWide_bool_mk Try.underlying4 _))⟩
  exact trodAll_cons_mk (below_trod sp (by kernel_rfl) (by kernel_rfl) (of_decide_eq_true (by kernel_rfl)) g0 hb (fun x hx => hlt x (by simp [hx])) (fun x hx => hsp x (by simp [hx])))
    (trodAll_cons_mk (below_trod sp (by kernel_rfl) (by kernel_rfl) (of_decide_eq_true (by kernel_rfl)) g1 hb (fun x hx => hlt x (by simp [hx])) (fun x hx => hsp x (by simp [hx])))
    (trodAll_mk0))

theorem over : Rows.shareAllRow.holds Try.pinned (OpenSpec.ofChange Rows.shareAllSpec) :=
  OpenClaim.holds_of_wide 6 Try.f6 rfl rfl rfl rfl rfl rfl rfl ⟨rfl, rfl, rfl, rfl, rfl⟩ rfl rfl rfl rfl rfl (by kernel_rfl) Try.func6 (by kernel_rfl)
    (of_decide_eq_true (by kernel_rfl)) (by unfold Func.isWrapper; rw [if_neg (by decide +kernel)]; exact ⟨rfl, rfl⟩)
    (fun os started H enc _ => lifted os started H enc)

theorem proved : Rows.ShareAllSaid := over
#print axioms proved
end Go.Proofs.Ytodkifkphhfnpaa.ShareAll
