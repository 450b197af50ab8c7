/- Proved: QueueDoes answers true for every input, and leaves its arguments as they were; no condition. -/
import Derived.Test.YtlncapddimehiaaRows
import Derived.Test.YtlncapddimehiaaMem
import Derived.Test.YtlncapddimehiaaLift
import Derived.Test.YtlncapddimehiaaQueueL
import Derived.WalkKit
import Derived.ProofKit
import Derived.OpenShut
import Derived.Handy
import Derived.Deep.QuietTactic
import Derived.BigQuiet
import Derived.Deep.RegionWith
import Derived.WalkLawsBesides
import Derived.Deep.RegionHeld3
namespace Go.Proofs.Ytlncapddimehiaa.QueueDoes
open Go.ChangeShapes Go.WideShapes Go.ChangeAt Go.RowKit Go.Deep
set_option linter.unusedVariables false

set_option maxRecDepth 100000 in
set_option maxHeartbeats 16000000 in
theorem walk (w : World) (a0 : Int) (w0 : (Lit.int .i64 a0).wf = true) (a1 : Int) (w1 : (Lit.int .i64 a1).wf = true) (v2 : Value) (n : Nat) (C : Nat → List Value) (h2 : RowsAt w v2 n 2 KS C) :
    Calls Try.prog 4 #[.int .i64 a0, .int .i64 a1, v2] w fun e w' => e = .returned (.bool true) ∧ Below w.heap.size w w' := by
  obtain ⟨A, cap, rfl, hnc, hcap, hcells⟩ := h2
  have HC := Lib.hid hcells
  clear hcells
  obtain ⟨b1, b2⟩ := bounds_i64 w0
  obtain ⟨b3, b4⟩ := bounds_i64 w1
  clear w0 w1
  by_cases hr : a0 < 0 ∨ 64 < a0
  · have HN := Lib.hid (fun W => new_range a0 a1 W hr)
    rcases hr with hr | hr
    all_goals
      (go_enter Try.func4, Try.ntmps4
       go_wp2_with fail
       refine (HN.out _).mono ?_
       rintro e w1 ⟨rfl, rfl⟩
       go_wp2_with fail
       refine (awake_any _).mono ?_
       rintro e w2 ⟨rfl, hb2⟩
       go_wp2_with fail
       go_ret
       exact ⟨rfl, hb2⟩)
  · have h0 : 0 ≤ a0 := by omega
    have h1 : a0 ≤ 64 := by omega
    clear hr
    by_cases hs : a1 < 0 ∨ 2 < a1
    · have HN := Lib.hid (fun W => new_arg a0 a1 W h0 h1 hs)
      rcases hs with hs | hs
      all_goals
        (go_enter Try.func4, Try.ntmps4
         go_wp2_with fail
         refine (HN.out _).mono ?_
         rintro e w1 ⟨rfl, rfl⟩
         go_wp2_with fail
         refine (awake_any _).mono ?_
         rintro e w2 ⟨rfl, hb2⟩
         go_wp2_with fail
         go_ret
         exact ⟨rfl, hb2⟩)
    · have s0 : 0 ≤ a1 := by omega
      have s1 : a1 ≤ 2 := by omega
      clear hs
      go_enter Try.func4, Try.ntmps4
      go_wp2_with fail
      refine (new_ok a0 a1 w h0 h1 s0 s1).mono ?_
      rintro e w1 ⟨rfl, k1, bb1⟩
      have r1 : QAt 40 (w1.alloc (.cells #[.int .i64 a0, .int .i64 a1, .slice none 0 0, .int .i64 0, .int .i64 0, .int .i64 0] 40)) w1.heap.size a0 a1 [] 0 0 0 := ⟨none, 0, Blk.new _ _ _, Held.nil_ _ _ _⟩
      have k1' := k1.alloc (.cells #[.int .i64 a0, .int .i64 a1, .slice none 0 0, .int .i64 0, .int .i64 0, .int .i64 0] 40)
      have B1 := bb1.alloc bb1.size (.cells #[.int .i64 a0, .int .i64 a1, .slice none 0 0, .int .i64 0, .int .i64 0, .int .i64 0] 40)
      have hh1 : w.heap.size ≤ w1.heap.size := bb1.size
      have H1 := Lib.hid (And.intro k1' (And.intro r1 B1))
      clear k1 bb1 r1 k1' B1
      go_wp2_with fail
      refine (awake_any _).mono ?_
      rintro e w2 ⟨rfl, bb2⟩
      have k2 : Both w2 w.heap.size w1.heap.size a0 a1 [] 0 0 0 := ⟨H1.out.1.below bb2, H1.out.2.1.below bb2⟩
      have B2 := H1.out.2.2.trans (bb2.mono H1.out.2.2.size)
      have H2 := Lib.hid (And.intro k2 B2)
      clear k2 B2 bb2
      generalize w1.heap.size = h at *
      go_wp2_with fail
      go_loopw [10] (fun iv wr => ∃ (m : Nat) (L : List ByteArray) (a b c : Int), m ≤ 150 ∧ iv = .int .i64 m ∧ Both wr w.heap.size h a0 a1 L a b c ∧ QInv a0 a1 L a b c m ∧ Below w.heap.size w wr) (fun i _ => 150 - (intOf i).toNat)
      case atStart => exact ⟨0, [], 0, 0, 0, by omega, rfl, H2.out.1, ⟨h0, h1, s0, s1, by simpa using h0, by omega, by omega, by simp, by simp⟩, H2.out.2⟩
      case round =>
        obtain ⟨m, L, a, b, c, hm, rfl, k, I, rb⟩ := hrel
        have HK := Lib.hid (And.intro k (And.intro I rb))
        clear k I rb
        by_cases hlt : m < n
        · by_cases hlt2 : m < 150
          · obtain ⟨bq, off, kd, s, rfl, hbl, c0, c1, hx, hsz⟩ := ks_at HC.out hlt
            rw [← HK.out.2.2.cell (p := ⟨bq, off + m * 2, none⟩) hbl] at c0
            rw [← HK.out.2.2.cell (p := ⟨bq, off + m * 2 + 1, none⟩) hbl] at c1
            by_cases hbig : 300 < s.size
            · have hbig' : (300 : Int) < s.size := by omega
              go_wp2_with fail
              go_roundw
              case rel => exact ⟨m + 1, L, a, b, c, by omega, by go_num, HK.out.1, (by obtain ⟨i1, i2, i3, i4, i5, i6, i7, i8, i9⟩ := HK.out.2.1; exact ⟨i1, i2, i3, i4, i5, i6, i7, i8, by omega⟩), HK.out.2.2⟩
              case measure => simp [intOf]; omega
            · have hbig' : (s.size : Int) ≤ 300 := by omega
              have HD := Lib.hid (do_any w.heap.size h a0 a1 L a b c m kd s wr HK.out.1 HK.out.2.1 (by omega) (by omega))
              go_wp2_with fail
              refine HD.out.mono ?_
              rintro e w3 ⟨rfl, ⟨L', a', b', c', k3, I3⟩, o3⟩
              obtain rfl := I3.sum
              have B3 : Below w.heap.size w w3 := bonly HK.out.2.2 o3 (by simp; exact hh1)
              have H3 := Lib.hid (And.intro k3 (And.intro I3 B3))
              have HCt := Lib.hid (counts_any _ _ _ _ _ _ _ _ k3.q)
              clear k3 I3 B3 o3
              go_wp2_with fail
              refine HCt.out.mono ?_
              rintro e w4 ⟨rfl, q4, rfl⟩
              have hr := H3.out.1.r.drewN q4
              obtain ⟨A3, n3, hb3, hh3⟩ := hr
              have z2 := Blk.cell hb3 2
              have z3 := Blk.cell hb3 3
              have z4 := Blk.cell hb3 4
              have z5 := Blk.cell hb3 5
              simp at z2 z3 z4 z5
              have HR3 := Lib.hid (And.intro hb3 hh3)
              have HQ3 := Lib.hid (H3.out.1.q.drewN q4)
              have i5 : (L'.length : Int) ≤ a0 := H3.out.2.1.len
              have i6 := H3.out.2.1.b0
              have i7 := H3.out.2.1.c0
              have hl64 : L'.length ≤ 64 := by omega
              have u1 : b' + c' ≤ 1000 := by have := H3.out.2.1.sum; have := H3.out.2.1.aN; omega
              have u2 : b' + c' + L'.length ≤ 1000 := by have := H3.out.2.1.sum; have := H3.out.2.1.aN; omega
              have eW1 : IntKind.i64.wrap (b' + c') = b' + c' := by rw [IntKind.wrap_i64]; omega
              have eW2 : IntKind.i64.wrap (b' + c' + (L'.length : Int)) = b' + c' + (L'.length : Int) := by rw [IntKind.wrap_i64]; omega
              have eC : decide (a0 < (L'.length : Int)) = false := by simp; omega
              obtain ⟨fb, efa, efb⟩ : ∃ fb : Bool, decide (a0 ≤ (L'.length : Int)) = fb ∧ ((L'.length : Int) == a0) = fb := by
                by_cases hf : (L'.length : Int) = a0
                · exact ⟨true, by simp; omega, by simp [hf]⟩
                · exact ⟨false, by simp; omega, by simp [hf]⟩
              clear hb3 hh3
              go_wp2_with fail
              simp only [List.append]
              go_region_held3 (fun w' => w'.cell? ⟨h, 2, none⟩ = some (.slice A3 L'.length n3) ∧ w'.cell? ⟨h, 3, none⟩ = some (.int .i64 (b' + c' + (L'.length : Int))) ∧ w'.cell? ⟨h, 4, none⟩ = some (.int .i64 b') ∧ w'.cell? ⟨h, 5, none⟩ = some (.int .i64 c'))
                (first
                  | go_keep
                  | (refine ⟨?_, ?_, ?_, ?_⟩ <;> with_reducible assumption))
                ((first
                  | (go_at_call 10
                     refine (len_any _ a0 a1 L' (b' + c' + (L'.length : Int)) b' c' _ (by exact HQ3.out)).mono ?_
                     rintro e w5 ⟨rfl, rfl⟩)
                  | (go_at_call 15
                     refine (full_any _ a0 a1 L' (b' + c' + (L'.length : Int)) b' c' _ (by exact HQ3.out)).mono ?_
                     rintro e w5 ⟨rfl, q5, rfl⟩)
                  | (go_at_call 12
                     refine (items_any _ a0 a1 L' (b' + c' + (L'.length : Int)) b' c' _ (by exact HQ3.out) hl64).mono ?_
                     rintro e w6 ⟨A6, k6, rfl, hh6, b6'⟩
                     have b6 : Below w3.heap.size w3 w6 := ⟨b6'.os, b6'.tape, b6'.output, b6'.size, b6'.block⟩
                     have hb6 := Blk.below (by exact HR3.out.1 : Blk w3 h 40 _) b6 (Blk.lt HR3.out.1)
                     have hr6 := Held.below (by exact HR3.out.2 : Held w3 9 1 A3 L'.length n3 _) b6
                     have z62 := Blk.cell hb6 2
                     have z63 := Blk.cell hb6 3
                     have z64 := Blk.cell hb6 4
                     have z65 := Blk.cell hb6 5
                     simp at z62 z63 z64 z65
                     have H6 := Lib.hid (And.intro hh6 (And.intro hr6 b6))
                     clear hh6 hr6 b6 b6' hb6)
                  | (go_at_call 11
                     refine (texts_any A6 A3 k6 n3 L' _ (by exact H6.out.1) (by exact H6.out.2.1) (by omega)).mono ?_
                     rintro e w7 ⟨rfl, q7, rfl⟩)))
              go_wp2_with fail
              go_roundw
              case rel =>
                exact ⟨m + 1, L', b' + c' + (L'.length : Int), b', c', by omega, by go_num, ⟨((H3.out.1.q.below H6.out.2.2).drewN q7), ((H3.out.1.r.below H6.out.2.2).drewN q7)⟩, by simpa using H3.out.2.1, below_drewN (H3.out.2.2.trans (H6.out.2.2.mono H3.out.2.2.size)) q7⟩
              case measure => simp [intOf]; omega
          · obtain rfl : m = 150 := by omega
            go_wp2_with fail
            go_ret
            exact ⟨rfl, HK.out.2.2⟩
        · go_wp2_with fail
          go_ret
          exact ⟨rfl, HK.out.2.2⟩

theorem own : ownKnob Try.prog.godebug = none := by kernel_rfl

set_option maxRecDepth 100000 in
theorem lifted (os : Os) (started : os.Started) (H : Type) (enc : TypeId × Value → H) :
    ReturnsInHanded {} Try.checked os 4 .any (Rows.queueDoesSpec.pre6 enc Try.prog Try.f4 Rows.queueDoesRow.domain false) (Rows.queueDoesSpec.post enc Try.prog Try.f4 false true false false) := by
  refine returnsInHanded_of_change (C := Try.checked) own started (by kernel_rfl) Try.func4
    (ChangeSpec.witness6 (enc := enc) (C := Try.checked) false ⟨#[], #[.int .i64 0, .int .i64 0, .slice none 0 0], []⟩ 8 (by kernel_rfl) (by kernel_rfl) (by kernel_rfl) (by kernel_rfl)) ?_
  intro W base args ds gs before hval0 hW hcnd _
  have hval : ∀ (j : Nat) t v, Try.f4.params[j]? = some t → args[j]? = some v → Value.okWide Try.prog W .any base t v := hval0
  have hW' := hW
  obtain ⟨p, q, hA0, hV, rfl, hfz, hnd⟩ := hW
  have hA : DataW.TrodAll enc Try.prog W 0 (fun _ => true) true Try.f4.params.toList args.toList ds p := hA0
  rw [Try.params4] at hA hval
  obtain ⟨v0, vs0, d0, ds0, p0, q0, hargs, rfl, rfl, h0, r0⟩ := trodAll_cons hA
  obtain ⟨v1, vs1, d1, ds1, p1, q1, rfl, rfl, rfl, h1, r1⟩ := trodAll_cons r0
  obtain ⟨v2, vs2, d2, ds2, p2, q2, rfl, rfl, rfl, h2, r2⟩ := trodAll_cons r1
  obtain ⟨rfl, rfl, rfl⟩ := trodAll_nil r2
  obtain rfl : args = #[v0, v1, v2] := by cases args; simp_all
  obtain ⟨rfl, rfl⟩ := trodVars_none hV
  have g0 := h0
  have g1 := h1
  have g2 := h2
  obtain ⟨a0, rfl, _, _, w0⟩ := open_int Try.underlying3 (hval 0 3 v0 rfl rfl) h0
  obtain ⟨a1, rfl, _, _, w1⟩ := open_int Try.underlying3 (hval 1 3 v1 rfl rfl) h1
  obtain ⟨n2, C2, k2⟩ := open_rows Try.underlying22 (by kernel_rfl) (by decide) (ks_of Try.underlying30 Try.underlying3 Try.underlying9 (by kernel_rfl) (by kernel_rfl) rfl rfl rfl rfl) (hval 2 22 v2 rfl rfl) h2
  clear hA0 hval0
  have hlt : ∀ x ∈ (p0 ++ (p1 ++ (p2 ++ []))), x.block < W.heap.size := fun x hx => hW'.lt x (by simpa using hx)
  refine (walk W a0 w0 a1 w1 v2 n2 C2 k2).mono fun e W' ⟨he, hb⟩ => ?_
  subst he
  refine ⟨_, rfl, post_of_below (pa := (p0 ++ (p1 ++ (p2 ++ [])))) (pv := []) hW' (fun _ _ _ => (trodAll_cons_mk (shut_bool Try.underlying4 _) trodAll_mk0)) (fun sp hsp => ?_) (fun _ _ => rfl) (by simp) hb (ok_one (by kernel_rfl) rfl (okWide_bool_mk Try.underlying4 _))⟩
  exact trodAll_cons_mk (below_trod sp (by kernel_rfl) (by kernel_rfl) (of_decide_eq_true (by kernel_rfl)) g0 hb (fun x hx => hlt x (by simp [hx])) (fun x hx => hsp x (by simp [hx])))
    (trodAll_cons_mk (below_trod sp (by kernel_rfl) (by kernel_rfl) (of_decide_eq_true (by kernel_rfl)) g1 hb (fun x hx => hlt x (by simp [hx])) (fun x hx => hsp x (by simp [hx])))
    (trodAll_cons_mk (below_trod sp (by kernel_rfl) (by kernel_rfl) (of_decide_eq_true (by kernel_rfl)) g2 hb (fun x hx => hlt x (by simp [hx])) (fun x hx => hsp x (by simp [hx])))
    (trodAll_mk0)))

theorem over : Rows.queueDoesRow.holds Try.pinned (OpenSpec.ofChange Rows.queueDoesSpec) :=
  OpenClaim.holds_of_wide 4 Try.f4 rfl rfl rfl rfl rfl rfl rfl ⟨rfl, rfl, rfl, rfl, rfl⟩ rfl rfl rfl rfl rfl (by kernel_rfl) Try.func4 (by kernel_rfl)
    (of_decide_eq_true (by kernel_rfl)) (by unfold Func.isWrapper; rw [if_neg (by decide +kernel)]; exact ⟨rfl, rfl⟩)
    (fun os started H enc _ => lifted os started H enc)

theorem proved : Rows.QueueDoesSaid := over
#print axioms proved
end Go.Proofs.Ytlncapddimehiaa.QueueDoes
