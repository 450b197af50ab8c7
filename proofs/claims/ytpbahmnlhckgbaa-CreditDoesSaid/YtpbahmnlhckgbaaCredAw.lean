/- Do both say the same; what must come at any rate. -/
import Derived.Test.YtpbahmnlhckgbaaCredDo
import Derived.Deep.QuietTactic
import Derived.BigQuiet
import Derived.Deep.RegionWith
import Derived.Deep.RegionHeld3
import Derived.Deep.DeepCutAuto
import Derived.WalkLawsBesides
import Derived.WalkSmall
namespace Go.Proofs.Ytpbahmnlhckgbaa
open Go.RowKit
set_option linter.unusedVariables false
set_option maxRecDepth 100000 in
set_option maxHeartbeats 4000000 in
theorem same_any (base g h : Nat) (M : Int) (w : World) (jn : Joint base g h M w) (x : Int) :
    Calls Try.prog 16 #[.pointer (some ⟨g, 0, none⟩), .pointer (some ⟨h, 0, none⟩), .int .i64 x] w fun e w' => e = .returned (.bool true) ∧ Below w.heap.size w w' := by
  obtain ⟨cw, cn, sp, A, cap, B, c, l, k, r⟩ := jn
  have HKR := Lib.hid (And.intro k r)
  have hlen := k.few
  have hcap := r.capb
  clear k r
  go_enter Try.func16, Try.ntmps16
  go_wp2_with fail
  refine (ids_any base g cw cap cn sp M A l w HKR.out.1).mono ?_
  rintro e w1 ⟨A1, c1, rfl, h1, b1⟩
  have H1 := Lib.hid (And.intro h1 b1)
  clear h1 b1
  go_wp2_with fail
  refine (rids_any base h c cn sp B l w1 (HKR.out.2.below H1.out.2)).mono ?_
  rintro e w2 ⟨A2, c2, rfl, h2, b2⟩
  have H2 := Lib.hid (And.intro h2 (And.intro (H1.out.1.below b2) (H1.out.2.trans (b2.mono H1.out.2.size))))
  clear h2 b2
  go_wp2_with fail
  refine (ints_eq _ _ _ _ _ _ (l.map (·.id)) _ (by simp) (by simp) (by exact H2.out.2.1) (by exact H2.out.1) (by simp; omega)).mono ?_
  rintro e w3 ⟨rfl, q3, rfl⟩
  have H3 := Lib.hid (below_drewN H2.out.2.2 q3)
  generalize w2.drewN q3 = w3 at *
  go_wp2_with fail
  refine (size_conn base g cw cap cn sp M A l w3 (HKR.out.1.below H3.out)).mono ?_
  rintro e w4 ⟨rfl, rfl⟩
  go_wp2_with fail
  refine (spent_conn base g cw cap cn sp M A l w3 (HKR.out.1.below H3.out)).mono ?_
  rintro e w4 ⟨rfl, rfl⟩
  have d0 := Blk.cell (HKR.out.2.below H3.out).blk 0
  have d1 := Blk.cell (HKR.out.2.below H3.out).blk 1
  simp at d0 d1
  go_wp2_with fail
  clear d0 d1
  go_loopw [11] (fun iv wr => ∃ i : Nat, i ≤ l.length ∧ iv = .int .i64 i ∧ Below w.heap.size w wr) (fun iv _ => l.length - (intOf iv).toNat)
  case atStart => exact ⟨0, by omega, rfl, H3.out⟩
  case round =>
    obtain ⟨i, hi, rfl, br⟩ := hrel
    have HB := Lib.hid br
    have KR := Lib.hid (HKR.out.1.below br)
    have RR := Lib.hid (HKR.out.2.below br)
    have d2 := Blk.cell RR.out.blk 2
    simp at d2
    have hhl := RR.out.lt
    clear br
    have hi0 : (0 : Int) ≤ i := by omega
    by_cases hil : i < l.length
    · obtain ⟨b, off, hB, hbl, c0, c1, c2⟩ := RR.out.cells i hil
      have hi1 : (i : Int) < l.length := by omega
      have HS := Lib.hid (fun (V : World) (hV : Below wr.heap.size wr V) => size_at base g cw cap cn sp M A l V (KR.out.below hV) i hil)
      have HP := Lib.hid (fun (V : World) (hV : Below wr.heap.size wr V) => spent_at base g cw cap cn sp M A l V (KR.out.below hV) i hil)
      have HF := Lib.hid (fun (V : World) (hV : Below wr.heap.size wr V) => free_at base g cw cap cn sp M A l V (KR.out.below hV) i hil)
      have HQ := Lib.hid (fun (V : World) (hV : Below wr.heap.size wr V) => rfree_at base h c cn sp B l V (RR.out.below hV) i hil HKR.out.1.srt)
      generalize min (max l[i].n 0) (max cn 0) = f at *
      generalize l[i].id = y at *
      generalize l[i].n = n at *
      generalize l[i].sp = s at *
      rw [hB] at d2
      clear hB
      go_wp2_with fail
      refine (HS.out wr (Below.refl _ _)).mono ?_
      rintro e w5 ⟨rfl, b5⟩
      have B5 := Lib.hid b5
      have d25 := (b5.cell (p := ⟨h, 2, none⟩) hhl).trans d2
      have c05 := (b5.cell (p := ⟨b, off + i * 3, none⟩) hbl).trans c0
      clear b5
      go_wp2_with fail
      refine (HP.out w5 B5.out).mono ?_
      rintro e w6 ⟨rfl, b6⟩
      have b6' := B5.out.trans (b6.mono B5.out.size)
      have B6 := Lib.hid b6'
      have d26 := (b6'.cell (p := ⟨h, 2, none⟩) hhl).trans d2
      have c06 := (b6'.cell (p := ⟨b, off + i * 3, none⟩) hbl).trans c0
      have c16 := (b6'.cell (p := ⟨b, off + i * 3 + 1, none⟩) hbl).trans c1
      have c26 := (b6'.cell (p := ⟨b, off + i * 3 + 2, none⟩) hbl).trans c2
      clear b6 b6' d25 c05
      go_wp2_with fail
      go_region_held3 (fun w' => w'.cell? ⟨h, 2, none⟩ = some (.slice (some ⟨b, off, none⟩) l.length c) ∧ w'.cell? ⟨b, off + i * 3, none⟩ = some (.int .i64 y) ∧ w'.cell? ⟨b, off + i * 3 + 1, none⟩ = some (.int .i64 n) ∧ w'.cell? ⟨b, off + i * 3 + 2, none⟩ = some (.int .i64 s))
        (first
          | go_keep
          | (refine ⟨?_, ?_, ?_, ?_⟩ <;> with_reducible assumption))
        ((first
          | (go_at_call 19
             refine (HF.out _ (by exact below_drewN B6.out 1)).mono ?_
             rintro e w7 ⟨rfl, b7⟩
             have b7' : Below wr.heap.size wr w7 := (below_drewN B6.out 1).trans (b7.mono B6.out.size)
             have d27 := (b7'.cell (p := ⟨h, 2, none⟩) hhl).trans d2
             have c07 := (b7'.cell (p := ⟨b, off + i * 3, none⟩) hbl).trans c0
             have c17 := (b7'.cell (p := ⟨b, off + i * 3 + 1, none⟩) hbl).trans c1
             have c27 := (b7'.cell (p := ⟨b, off + i * 3 + 2, none⟩) hbl).trans c2
             have B7 := Lib.hid b7'
             clear b7 b7')
          | (go_at_call 37
             refine (HQ.out _ (by exact B7.out)).mono ?_
             rintro e w8 ⟨rfl, q8, rfl⟩)))
      go_wp2_with fail
      go_roundw
      case rel => exact ⟨i + 1, by omega, by go_num, HB.out.trans ((below_drewN B7.out q8).mono HB.out.size)⟩
      case measure => simp [intOf]; omega
    · obtain rfl : i = l.length := by omega
      by_cases hx0 : x = 0
      · subst hx0
        go_wp2_with fail
        go_ret
        exact ⟨rfl, HB.out⟩
      · have hxe : (x == 0) = false := beq_eq_false_iff_ne.2 hx0
        have hx0' := Lib.hid hx0
        clear hx0
        rcases found_or l x with ⟨i, hil, hx⟩ | hno
        · have HF := Lib.hid (rfind_at base h c cn sp B l wr RR.out i hil HKR.out.1.srt)
          have hi0' : (0 : Int) ≤ i := by omega
          rw [hx] at HF
          clear hx
          go_wp2_with fail
          refine HF.out.mono ?_
          rintro e w5 ⟨rfl, rfl⟩
          go_wp2_with fail
          go_ret
          exact ⟨rfl, HB.out⟩
        · have HF := Lib.hid (rfind_no base h c cn sp x B l wr RR.out hno)
          have HS := Lib.hid (size_no base g cw cap cn sp M x A l wr KR.out hx0'.out hno)
          have HP := Lib.hid (fun (V : World) (hV : Below wr.heap.size wr V) => spent_no base g cw cap cn sp M x A l V (KR.out.below hV) hx0'.out hno)
          have HFR := Lib.hid (fun (V : World) (hV : Below wr.heap.size wr V) => free_no base g cw cap cn sp M x A l V (KR.out.below hV) hno)
          clear hno
          go_wp2_with fail
          refine HF.out.mono ?_
          rintro e w5 ⟨rfl, rfl⟩
          go_wp2_with fail
          refine HS.out.mono ?_
          rintro e w5 ⟨rfl, b5⟩
          have B5 := Lib.hid b5
          clear b5
          go_wp2_with fail
          refine (HP.out w5 B5.out).mono ?_
          rintro e w6 ⟨rfl, b6⟩
          have B6 := Lib.hid (B5.out.trans (b6.mono B5.out.size))
          clear b6
          go_wp2_with fail
          refine (HFR.out w6 B6.out).mono ?_
          rintro e w7 ⟨rfl, b7⟩
          have B7 := Lib.hid (HB.out.trans ((B6.out.trans (b7.mono B6.out.size)).mono HB.out.size))
          clear b7
          go_wp2_with fail
          go_ret
          exact ⟨rfl, B7.out⟩
end Go.Proofs.Ytpbahmnlhckgbaa
