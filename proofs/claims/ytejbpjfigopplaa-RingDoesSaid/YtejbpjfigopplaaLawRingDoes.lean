/- Proved: RingDoes answers true for every input, and leaves its arguments as they were; no condition. -/
import Derived.Test.YtejbpjfigopplaaRows
import Derived.Test.YtejbpjfigopplaaMem
import Derived.Test.YtejbpjfigopplaaLift
import Derived.Test.YtejbpjfigopplaaRingL
import Derived.WalkKit
import Derived.ProofKit
import Derived.OpenShut
import Derived.Handy
import Derived.Deep.QuietTactic
import Derived.BigQuiet
import Derived.Deep.RegionWith
import Derived.WalkLawsBesides
namespace Go.Proofs.Ytejbpjfigopplaa.RingDoes
open Go.ChangeShapes Go.WideShapes Go.ChangeAt Go.RowKit Go.Deep
set_option linter.unusedVariables false

set_option maxRecDepth 100000 in
set_option maxHeartbeats 8000000 in
theorem walk (w : World) (a0 : Int) (w0 : (Lit.int .i64 a0).wf = true) (v1 : Value) (n : Nat) (C : Nat → List Value) (h1 : RowsAt w v1 n 3 KNS C) :
    Calls Try.prog 4 #[.int .i64 a0, v1] w fun e w' => e = .returned (.bool true) ∧ Below w.heap.size w w' := by
  obtain ⟨A, cap, rfl, hnc, hcap, hcells⟩ := h1
  have HC := Lib.hid hcells
  clear hcells
  obtain ⟨b1, b2⟩ := bounds_i64 w0
  clear w0
  by_cases hr : a0 < 0 ∨ 65536 < a0
  · have HN := Lib.hid (fun W => new_no a0 W hr)
    rcases hr with hr | hr
    all_goals
      (go_enter Try.func4, Try.ntmps4
       go_wp2_with fail
       refine (HN.out _).mono ?_
       rintro e w1 ⟨rfl, rfl⟩
       go_wp2_with fail
       refine (awake_any _).mono ?_
       rintro e w2 ⟨rfl, hb2⟩
       go_wp2_with fail
       go_ret
       exact ⟨rfl, hb2⟩)
  · obtain ⟨c, rfl⟩ : ∃ c : Nat, a0 = (c : Int) := ⟨a0.toNat, by omega⟩
    have hc : c ≤ 65536 := by omega
    have hc' : (c : Int) ≤ 65536 := by omega
    clear hr b1 b2
    go_enter Try.func4, Try.ntmps4
    go_wp2_with fail
    refine (new_ok c w hc).mono ?_
    rintro e w1 ⟨g, gb, rfl, hg, hgb, k1, bb1⟩
    have H1 := Lib.hid (And.intro k1 bb1)
    clear k1 bb1
    go_wp2_with fail
    refine (awake_any _).mono ?_
    rintro e w2 ⟨rfl, bb2⟩
    have H2 := Lib.hid (And.intro (H1.out.1.below bb2) (H1.out.2.trans (bb2.mono H1.out.2.size)))
    clear bb2
    go_wp2_with fail
    go_loopw [7, 8] (fun sv iv wr => ∃ (m : Nat) (s : ByteArray) (f : Nat), m ≤ 60 ∧ iv = .int .i64 m ∧ sv = .string s ∧ RingAt wr g gb c s.data.toList f ∧ Below w.heap.size w wr) (fun _ i _ => 60 - (intOf i).toNat)
    case atStart => exact ⟨0, ByteArray.empty, 0, by omega, rfl, rfl, H2.out.1, H2.out.2⟩
    case round =>
      obtain ⟨m, s, f, hm, rfl, rfl, k, rb⟩ := hrel
      have HK := Lib.hid (And.intro k rb)
      have hsz : s.size ≤ c := by have := k.len; rw [← Go.Lib.size_eq] at this; exact this
      clear k rb
      have HP := Lib.hid (peek_any g gb c f s.data.toList c s.size wr HK.out.1 (by rw [← Go.Lib.size_eq]; omega))
      have hstr : (⟨(s.data.toList.take s.size).toArray⟩ : ByteArray) = s := by rw [List.take_of_length_le (by rw [← Go.Lib.size_eq]; omega)]
      have HST := Lib.hid hstr
      clear hstr
      by_cases hgo : m < n ∧ m < 60
      · obtain ⟨hlt, hlt2⟩ := hgo
        obtain ⟨bq, off, kd, y, S, rfl, hbl, c0, c1, c2, hy, hS⟩ := kns_at HC.out hlt
        rw [← HK.out.2.cell (p := ⟨bq, off + m * 3, none⟩) hbl] at c0
        rw [← HK.out.2.cell (p := ⟨bq, off + m * 3 + 1, none⟩) hbl] at c1
        rw [← HK.out.2.cell (p := ⟨bq, off + m * 3 + 2, none⟩) hbl] at c2
        have HD := Lib.hid (do_any g gb c f s S kd y wr HK.out.1 hy hS)
        go_wp2_with fail
        refine HD.out.mono ?_
        rintro e w3 ⟨s', f', rfl, k3, o3⟩
        have B3 : Below w.heap.size w w3 := bonly HK.out.2 o3 (by simp; omega)
        have H3 := Lib.hid (And.intro k3 B3)
        have hl := len_any g gb c f' _ w3 k3
        have hro := room_any g gb c f' _ w3 k3
        have hs' : s'.size ≤ c := by have := k3.len; rw [← Go.Lib.size_eq] at this; exact this
        have HCp := Lib.hid (cap_any g gb c f' _ w3 k3)
        rw [← Go.Lib.size_eq] at hl hro
        have HL := Lib.hid hl
        have HR := Lib.hid hro
        clear k3 B3 o3 hl hro
        go_wp2_with fail
        refine HL.out.mono ?_
        rintro e w4 ⟨rfl, rfl⟩
        go_wp2_with fail
        refine HR.out.mono ?_
        rintro e w4 ⟨rfl, rfl⟩
        go_wp2_with fail
        refine HCp.out.mono ?_
        rintro e w4 ⟨rfl, rfl⟩
        go_wp2_with fail
        go_roundw
        case rel => exact ⟨m + 1, s', f', by omega, by go_num, rfl, H3.out.1, H3.out.2⟩
        case measure => simp [intOf]; omega
      · have hend : ¬ m < n ∨ (m < n ∧ ¬ m < 60) := by omega
        clear hgo
        rcases hend with hend | ⟨hend, hend2⟩
        all_goals
          (go_wp2_with fail
           refine HP.out.mono ?_
           rintro e w3 ⟨rfl, b3⟩
           rw [HST.out]
           have HB3 := Lib.hid (HK.out.2.trans (b3.mono HK.out.2.size))
           clear b3
           go_wp2_with fail
           go_ret
           exact ⟨rfl, HB3.out⟩)

theorem own : ownKnob Try.prog.godebug = none := by kernel_rfl

set_option maxRecDepth 100000 in
theorem lifted (os : Os) (started : os.Started) (H : Type) (enc : TypeId × Value → H) :
    ReturnsInHanded {} Try.checked os 4 .any (Rows.ringDoesSpec.pre6 enc Try.prog Try.f4 Rows.ringDoesRow.domain false) (Rows.ringDoesSpec.post enc Try.prog Try.f4 false true false false) := by
  refine returnsInHanded_of_change (C := Try.checked) own started (by kernel_rfl) Try.func4
    (ChangeSpec.witness6 (enc := enc) (C := Try.checked) false ⟨#[], #[.int .i64 0, .slice none 0 0], []⟩ 8 (by kernel_rfl) (by kernel_rfl) (by kernel_rfl) (by kernel_rfl)) ?_
  intro W base args ds gs before hval0 hW hcnd _
  have hval : ∀ (j : Nat) t v, Try.f4.params[j]? = some t → args[j]? = some v → Value.okWide Try.prog W .any base t v := hval0
  have hW' := hW
  obtain ⟨p, q, hA0, hV, rfl, hfz, hnd⟩ := hW
  have hA : DataW.TrodAll enc Try.prog W 0 (fun _ => true) true Try.f4.params.toList args.toList ds p := hA0
  rw [Try.params4] at hA hval
  obtain ⟨v0, vs0, d0, ds0, p0, q0, hargs, rfl, rfl, h0, r0⟩ := trodAll_cons hA
  obtain ⟨v1, vs1, d1, ds1, p1, q1, rfl, rfl, rfl, h1, r1⟩ := trodAll_cons r0
  obtain ⟨rfl, rfl, rfl⟩ := trodAll_nil r1
  obtain rfl : args = #[v0, v1] := by cases args; simp_all
  obtain ⟨rfl, rfl⟩ := trodVars_none hV
  have g0 := h0
  have g1 := h1
  obtain ⟨a0, rfl, _, _, w0⟩ := open_int Try.underlying3 (hval 0 3 v0 rfl rfl) h0
  obtain ⟨n1, C1, k1⟩ := open_rows Try.underlying32 (by kernel_rfl) (by decide) (kns_of Try.underlying36 Try.underlying3 Try.underlying9 (by kernel_rfl) (by kernel_rfl) rfl rfl rfl rfl rfl rfl) (hval 1 32 v1 rfl rfl) h1
  clear hA0 hval0
  have hlt : ∀ x ∈ (p0 ++ (p1 ++ [])), x.block < W.heap.size := fun x hx => hW'.lt x (by simpa using hx)
  refine (walk W a0 w0 v1 n1 C1 k1).mono fun e W' ⟨he, hb⟩ => ?_
  subst he
  refine ⟨_, rfl, post_of_below (pa := (p0 ++ (p1 ++ []))) (pv := []) hW' (fun _ _ _ => (trodAll_cons_mk (shut_bool Try.underlying4 _) trodAll_mk0)) (fun sp hsp => ?_) (fun _ _ => rfl) (by simp) hb (ok_one (by kernel_rfl) rfl (okWide_bool_mk Try.underlying4 _))⟩
  exact trodAll_cons_mk (below_trod sp (by kernel_rfl) (by kernel_rfl) (of_decide_eq_true (by kernel_rfl)) g0 hb (fun x hx => hlt x (by simp [hx])) (fun x hx => hsp x (by simp [hx])))
    (trodAll_cons_mk (below_trod sp (by kernel_rfl) (by kernel_rfl) (of_decide_eq_true (by kernel_rfl)) g1 hb (fun x hx => hlt x (by simp [hx])) (fun x hx => hsp x (by simp [hx])))
    (trodAll_mk0))

theorem over : Rows.ringDoesRow.holds Try.pinned (OpenSpec.ofChange Rows.ringDoesSpec) :=
  OpenClaim.holds_of_wide 4 Try.f4 rfl rfl rfl rfl rfl rfl rfl ⟨rfl, rfl, rfl, rfl, rfl⟩ rfl rfl rfl rfl rfl (by kernel_rfl) Try.func4 (by kernel_rfl)
    (of_decide_eq_true (by kernel_rfl)) (by unfold Func.isWrapper; rw [if_neg (by decide +kernel)]; exact ⟨rfl, rfl⟩)
    (fun os started H enc _ => lifted os started H enc)

theorem proved : Rows.RingDoesSaid := over
#print axioms proved
end Go.Proofs.Ytejbpjfigopplaa.RingDoes
