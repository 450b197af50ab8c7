/- Proved: TimerFull answers true for every input, and leaves its arguments as they were; no condition. -/
import Derived.Test.YtjiodpbefimnlaaRows
import Derived.Test.YtjiodpbefimnlaaMem
import Derived.Test.YtjiodpbefimnlaaLift
import Derived.Test.YtjiodpbefimnlaaTimAw
import Derived.WalkKit
import Derived.ProofKit
import Derived.OpenShut
import Derived.Handy
import Derived.Deep.QuietTactic
import Derived.BigQuiet
import Derived.Deep.RegionWith
import Derived.WalkLawsBesides
namespace Go.Proofs.Ytjiodpbefimnlaa.TimerFull
open Go.ChangeShapes Go.WideShapes Go.ChangeAt Go.RowKit Go.Deep
set_option linter.unusedVariables false

/-- The keys 0 .. i-1, and no others. -/
def Upto (l : List (Int × Int)) (i : Nat) : Prop := l.length = i ∧ ∀ x, (getT l x).isSome = true ↔ 0 ≤ x ∧ x < i
theorem Upto.none_ {l : List (Int × Int)} {i : Nat} (h : Upto l i) (x : Int) (hx : (i : Int) ≤ x) : getT l x = none := by
  cases e : getT l x with
  | none => rfl
  | some a =>
    have := (h.2 x).1 (by rw [e]; rfl)
    omega
theorem Upto.step {l : List (Int × Int)} {i : Nat} (hs : Sd l) (h : Upto l i) (a : Int) : Upto (setT l i a) (i + 1) := by
  obtain ⟨s1, s2, s3⟩ := hs.set (setT_is l i a)
  have hn := h.none_ i (Int.le_refl _)
  refine ⟨by rw [s3, hn, h.1]; rfl, fun x => ?_⟩
  rw [s2]
  by_cases hx : x = i
  · subst hx
    rw [upd_same]
    simp
    omega
  · rw [upd_other _ _ hx, h.2]
    omega
set_option maxRecDepth 100000 in
set_option maxHeartbeats 8000000 in
theorem walk (w : World) (a0 : Int) (w0 : (Lit.int .i64 a0).wf = true) (a1 : Int) (w1 : (Lit.int .i64 a1).wf = true) :
    Calls Try.prog 6 #[.int .i64 a0, .int .i64 a1] w fun e w' => e = .returned (.bool true) ∧ Below w.heap.size w w' := by
  clear w0 w1
  go_enter Try.func6, Try.ntmps6
  go_wp2_with fail
  refine (new_any _).mono ?_
  rintro e w1 ⟨g, b, rfl, hg, hb, k1, b1⟩
  have H1 := Lib.hid (And.intro k1 b1)
  clear k1 b1
  go_wp2_with fail
  refine (awake_any _).mono ?_
  rintro e w2 ⟨rfl, b2⟩
  have H2 := Lib.hid (And.intro (H1.out.1.below b2) (H1.out.2.trans (b2.mono H1.out.2.size)))
  clear b2 H1
  go_wp2_with fail
  go_loopw [6] (fun iv wr => ∃ (m : Nat) (l : List (Int × Int)), m ≤ 1024 ∧ iv = .int .i64 m ∧ Whl wr g b l 0 ∧ Upto l m ∧ Below w.heap.size w wr) (fun i _ => 1024 - (intOf i).toNat)
  case atStart => exact ⟨0, [], by omega, rfl, H2.out.1, ⟨rfl, fun x => by simp [getT_nil]⟩, H2.out.2⟩
  case round =>
    obtain ⟨m, l, hm, rfl, k, hu, rb⟩ := hrel
    have HK := Lib.hid (And.intro k (And.intro hu rb))
    clear k hu rb
    by_cases hlt : m < 1024
    · have hm0 : (0 : Int) ≤ m := by omega
      have hm7 : 0 ≤ (m : Int) % 7 := by omega
      have hm8 : (m : Int) % 7 ≤ 1099511627776 := by omega
      have HS := Lib.hid (set_ok' g b l 0 wr HK.out.1 m ((m : Int) % 7) (wf_key (by omega) (by omega)) hm7 hm8 (fun _ => by have := HK.out.2.1.1; omega))
      clear hm7 hm8
      generalize hq : (m : Int) % 7 = r at *
      have HQ := Lib.hid hq
      clear hq
      go_wp2_with fail
      rw [HQ.out]
      refine HS.out.mono ?_
      rintro e w3 ⟨rfl, k3, g3⟩
      have H3 := Lib.hid (And.intro k3 (And.intro (HK.out.2.1.step HK.out.1.sd r) (bonly HK.out.2.2 (only_grown (S := [b]) g3 (by simp)) (by simpa using hb))))
      clear k3 g3
      go_wp2_with fail
      go_roundw
      case rel => exact ⟨m + 1, _, by omega, by go_num, H3.out⟩
      case measure => simp [intOf]; omega
    · obtain rfl : m = 1024 := by omega
      have hn2 := HK.out.2.1.none_ 2000 (by decide)
      have HS1 := Lib.hid (set_limit g b l 0 wr HK.out.1 2000 5 (by decide) (by decide) (by decide) hn2 (by rw [HK.out.2.1.1]; exact Nat.le_refl _))
      have HS2 := Lib.hid (set_ok' g b l 0 wr HK.out.1 1000 6 (by decide) (by decide) (by decide) (fun h => by
        have := (HK.out.2.1.2 1000).2 (by decide)
        rw [h] at this
        cases this))
      clear hn2
      go_wp2_with fail
      refine HS1.out.mono ?_
      rintro e w3 ⟨rfl, rfl⟩
      go_wp2_with fail
      refine HS2.out.mono ?_
      rintro e w4 ⟨rfl, k4, g4⟩
      have HL : Hid ((setT l 1000 6).length = 1024) := by
        obtain ⟨s1, s2, s3⟩ := HK.out.1.sd.set (setT_is l 1000 6)
        rw [(HK.out.2.1.2 1000).2 (by decide)] at s3
        rw [if_pos rfl, HK.out.2.1.1] at s3
        exact s3
      have H4 := Lib.hid (And.intro k4 (bonly HK.out.2.2 (only_grown (S := [b]) g4 (by simp)) (by simpa using hb)))
      clear k4 g4
      go_wp2_with fail
      refine (at_nil _ _).mono ?_
      rintro e w5 ⟨rfl, rfl⟩
      go_wp2_with fail
      refine (next_nil _).mono ?_
      rintro e w6 ⟨rfl, b6⟩
      have H6 := Lib.hid (And.intro (H4.out.1.below b6) (H4.out.2.trans (b6.mono H4.out.2.size)))
      clear b6
      go_wp2_with fail
      have hlen := len_any g b _ 0 w6 H6.out.1
      rw [HL.out] at hlen
      refine hlen.mono ?_
      rintro e w7 ⟨rfl, rfl⟩
      go_wp2_with fail
      refine (set_nil _ _ _).mono ?_
      rintro e w7 ⟨rfl, rfl⟩
      go_wp2_with fail
      refine (stop_nil _ _).mono ?_
      rintro e w7 ⟨rfl, rfl⟩
      go_wp2_with fail
      refine (advance_nil _ _).mono ?_
      rintro e w7 ⟨A, c, rfl, hh, b7⟩
      have H7 := Lib.hid (H6.out.2.trans (b7.mono H6.out.2.size))
      clear hh b7 hlen
      simp only [List.length_nil]
      go_wp2_with fail
      refine (now_nil _).mono ?_
      rintro e w8 ⟨rfl, rfl⟩
      go_wp2_with fail
      refine (len_nil _).mono ?_
      rintro e w8 ⟨rfl, rfl⟩
      go_wp2_with fail
      go_ret
      exact ⟨rfl, H7.out⟩

theorem own : ownKnob Try.prog.godebug = none := by kernel_rfl

set_option maxRecDepth 100000 in
theorem lifted (os : Os) (started : os.Started) (H : Type) (enc : TypeId × Value → H) :
    ReturnsInHanded {} Try.checked os 6 .any (Rows.timerFullSpec.pre6 enc Try.prog Try.f6 Rows.timerFullRow.domain false) (Rows.timerFullSpec.post enc Try.prog Try.f6 false true false false) := by
  refine returnsInHanded_of_change (C := Try.checked) own started (by kernel_rfl) Try.func6
    (ChangeSpec.witness6 (enc := enc) (C := Try.checked) false ⟨#[], #[.int .i64 0, .int .i64 0], []⟩ 8 (by kernel_rfl) (by kernel_rfl) (by kernel_rfl) (by kernel_rfl)) ?_
  intro W base args ds gs before hval0 hW hcnd _
  have hval : ∀ (j : Nat) t v, Try.f6.params[j]? = some t → args[j]? = some v → Value.okWide Try.prog W .any base t v := hval0
  have hW' := hW
  obtain ⟨p, q, hA0, hV, rfl, hfz, hnd⟩ := hW
  have hA : DataW.TrodAll enc Try.prog W 0 (fun _ => true) true Try.f6.params.toList args.toList ds p := hA0
  rw [Try.params6] at hA hval
  obtain ⟨v0, vs0, d0, ds0, p0, q0, hargs, rfl, rfl, h0, r0⟩ := trodAll_cons hA
  obtain ⟨v1, vs1, d1, ds1, p1, q1, rfl, rfl, rfl, h1, r1⟩ := trodAll_cons r0
  obtain ⟨rfl, rfl, rfl⟩ := trodAll_nil r1
  obtain rfl : args = #[v0, v1] := by cases args; simp_all
  obtain ⟨rfl, rfl⟩ := trodVars_none hV
  have g0 := h0
  have g1 := h1
  obtain ⟨a0, rfl, _, _, w0⟩ := open_int Try.underlying3 (hval 0 3 v0 rfl rfl) h0
  obtain ⟨a1, rfl, _, _, w1⟩ := open_int Try.underlying3 (hval 1 3 v1 rfl rfl) h1
  clear hA0 hval0
  have hlt : ∀ x ∈ (p0 ++ (p1 ++ [])), x.block < W.heap.size := fun x hx => hW'.lt x (by simpa using hx)
  refine (walk W a0 w0 a1 w1).mono fun e W' ⟨he, hb⟩ => ?_
  subst he
  refine ⟨_, rfl, post_of_below (pa := (p0 ++ (p1 ++ []))) (pv := []) hW' (fun _ _ _ => (trodAll_cons_mk (shut_bool Try.underlying4 _) trodAll_mk0)) (fun sp hsp => ?_) (fun _ _ => rfl) (by simp) hb (ok_one (by kernel_rfl) rfl (okWide_bool_mk Try.underlying4 _))⟩
  exact trodAll_cons_mk (below_trod sp (by kernel_rfl) (by kernel_rfl) (of_decide_eq_true (by kernel_rfl)) g0 hb (fun x hx => hlt x (by simp [hx])) (fun x hx => hsp x (by simp [hx])))
    (trodAll_cons_mk (below_trod sp (by kernel_rfl) (by kernel_rfl) (of_decide_eq_true (by kernel_rfl)) g1 hb (fun x hx => hlt x (by simp [hx])) (fun x hx => hsp x (by simp [hx])))
    (trodAll_mk0))

theorem over : Rows.timerFullRow.holds Try.pinned (OpenSpec.ofChange Rows.timerFullSpec) :=
  OpenClaim.holds_of_wide 6 Try.f6 rfl rfl rfl rfl rfl rfl rfl ⟨rfl, rfl, rfl, rfl, rfl⟩ rfl rfl rfl rfl rfl (by kernel_rfl) Try.func6 (by kernel_rfl)
    (of_decide_eq_true (by kernel_rfl)) (by unfold Func.isWrapper; rw [if_neg (by decide +kernel)]; exact ⟨rfl, rfl⟩)
    (fun os started H enc _ => lifted os started H enc)

theorem proved : Rows.TimerFullSaid := over
#print axioms proved
end Go.Proofs.Ytjiodpbefimnlaa.TimerFull
