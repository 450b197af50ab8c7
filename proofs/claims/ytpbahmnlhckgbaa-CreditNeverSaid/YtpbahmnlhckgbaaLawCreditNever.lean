/- Proved: CreditNever answers true for every input, and leaves its arguments as they were; no condition. -/
import Derived.Test.YtpbahmnlhckgbaaRows
import Derived.Test.YtpbahmnlhckgbaaMem
import Derived.Test.YtpbahmnlhckgbaaLift
import Derived.Test.YtpbahmnlhckgbaaCredAw2
import Derived.Test.YtpbahmnlhckgbaaCredN
import Derived.Test.YtpbahmnlhckgbaaCredN2
import Derived.WalkKit
import Derived.ProofKit
import Derived.OpenShut
import Derived.Handy
import Derived.Deep.QuietTactic
import Derived.BigQuiet
import Derived.Deep.RegionWith
import Derived.WalkLawsBesides
import Derived.Deep.RegionHeld3
import Derived.Deep.DeepCutAuto
namespace Go.Proofs.Ytpbahmnlhckgbaa.CreditNever
open Go.ChangeShapes Go.WideShapes Go.ChangeAt Go.RowKit Go.Deep
set_option linter.unusedVariables false

set_option maxRecDepth 100000 in
set_option maxHeartbeats 8000000 in
theorem walk (w : World) (a0 : Int) (w0 : (Lit.int .u32 a0).wf = true) (v1 : Value) (n : Nat) (C : Nat → List Value) (h1 : RowsAt w v1 n 4 Four C) :
    Calls Try.prog 3 #[.int .u32 a0, v1] w fun e w' => e = .returned (.bool true) ∧ Below w.heap.size w w' := by
  obtain ⟨A1, cap, rfl, hnc, hcap, hcells⟩ := h1
  have HC := Lib.hid hcells
  clear hcells
  have hmm := @run_makeMap Try.prog
  obtain ⟨b1, b2⟩ : 0 ≤ a0 ∧ a0 ≤ 4294967295 := by
    have e1 : IntKind.u32.min = 0 := by decide
    have e2 : IntKind.u32.max = 4294967295 := by decide
    simpa [Lit.wf, e1, e2] using w0
  clear w0
  have f1 : 0 ≤ a0 % 2147483648 := by omega
  have f2 : a0 % 2147483648 ≤ 2147483647 := by omega
  go_enter Try.func3, Try.ntmps3
  go_wp2_with fail
  refine (new_ok (a0 % 2147483648) w f1 f2).mono ?_
  generalize a0 % 2147483648 = fs at *
  rintro e w1 ⟨⟨g, cw, rfl, k1, hgw⟩, bb1⟩
  have H1 := Lib.hid (And.intro (k1 w.heap.size (Nat.le_refl _)) bb1)
  have hs1 := bb1.size
  clear k1 bb1
  go_wp2_with fail
  refine (awake_any _).mono ?_
  rintro e w2 ⟨rfl, bb2⟩
  have H2 := Lib.hid (And.intro (H1.out.1.below bb2) (H1.out.2.trans (bb2.mono hs1)))
  have hs2 := H2.out.2.size
  clear bb2
  obtain ⟨w3, hr3, ⟨c3, hm3, hc3⟩, hg3⟩ := MapI.write (x := 0) (v := fs) (MapI.made w2) (by decide) (by decide)
  have H3 : Hid (Led w.heap.size w3 g cw fs 0 none 0 [] 0 ∧ MapI w3 w2.heap.size (upd (fun _ => none) 0 (some fs)) c3 ∧ Below w.heap.size w w3 ∧ w2.heap.size + 1 ≤ w3.heap.size) := ⟨(H2.out.1.alloc _).off (MapI.made w2) hg3, hm3, (H2.out.2.alloc hs2 _).trans (grown_below hg3 hs2 (by simp; omega)), by have := hg3.size; simpa using this⟩
  clear hm3 hg3
  go_wp2_with fail
  have H4 : Hid (Nev w.heap.size (w3.alloc (.map #[] 0)) g w2.heap.size w3.heap.size 0 cw fs 0 none 0 [] (upd (fun _ => none) 0 (some fs)) (fun _ => none) ∧ Below w.heap.size w (w3.alloc (.map #[] 0))) := by
    have hs3 := H3.out.2.2.1.size
    refine ⟨⟨by have := H3.out.1.alloc (.map #[] 0); simpa using this, ⟨c3, H3.out.2.1.below ((Below.refl _ _).alloc (Nat.le_refl _) _), by omega⟩, ⟨0, MapI.made w3, by omega⟩, ⟨by simp, ?_⟩, by have := H3.out.2.2.2; omega, hs2, hs3⟩, H3.out.2.2.1.alloc hs3 _⟩
    rw [at0_same]
    show fs = 0 + fs ∧ (0 : Int) = 0
    omega
  clear H1 H2 H3 hr3 hs1 hs2
  generalize w3.alloc (.map #[] 0) = W4 at *
  generalize w2.heap.size = gm at *
  generalize w3.heap.size = sm at *
  go_loopw [10] (fun iv wr => ∃ (m cw : Nat) (cn sp : Int) (A : Option Addr) (cp : Nat) (l : List Ln) (G S : Int → Option Int), m ≤ 80 ∧ iv = .int .i64 m ∧ Nev w.heap.size wr g gm sm m cw cn sp A cp l G S ∧ Below w.heap.size w wr) (fun i _ => 80 - (intOf i).toNat)
  case atStart => exact ⟨0, cw, fs, 0, none, 0, [], _, _, by omega, rfl, H4.out.1, H4.out.2⟩
  case round =>
    obtain ⟨m, cw, cn, sp, A, cp, l, G, S, hm, rfl, kn, rb⟩ := hrel
    have HN := Lib.hid (And.intro kn rb)
    clear kn rb H4
    by_cases hgo : m < n ∧ m < 80
    · obtain ⟨hlt, hlt2⟩ := hgo
      obtain ⟨bq, off, kd, x, y, z, rfl, hbl, _, c0, c1, c2, c3, hkd, hx, hy, hz⟩ := RowsAt.four HC.out hlt
      rw [← HN.out.2.cell (p := ⟨bq, off + m * 4, none⟩) hbl] at c0
      rw [← HN.out.2.cell (p := ⟨bq, off + m * 4 + 1, none⟩) hbl] at c1
      rw [← HN.out.2.cell (p := ⟨bq, off + m * 4 + 2, none⟩) hbl] at c2
      rw [← HN.out.2.cell (p := ⟨bq, off + m * 4 + 3, none⟩) hbl] at c3
      have hm0 : (0 : Int) ≤ m := by omega
      have hm1 : (m : Int) < n := by omega
      have hwx := Lib.hid (wf_key hx.1 hx.2)
      have HY := Lib.hid (And.intro hy (And.intro hz hx))
      have hwb := HN.out.2.size
      have HA := Lib.hid (Blk.new wr 31 #[.int .i64 kd, .int .i64 x, .int .i64 y, .int .i64 z])
      have HN1 := Lib.hid (And.intro (HN.out.1.below ((Below.refl wr.heap.size wr).alloc (Nat.le_refl _) (.cells #[.int .i64 kd, .int .i64 x, .int .i64 y, .int .i64 z] 31))) (HN.out.2.alloc hwb (.cells #[.int .i64 kd, .int .i64 x, .int .i64 y, .int .i64 z] 31)))
      clear hkd hx hy hz
      by_cases k0 : kd = 0
      · subst k0
        go_wp2_with fail
        generalize wr.alloc (.cells #[.int .i64 0, .int .i64 x, .int .i64 y, .int .i64 z] 31) = W1 at *
        refine (nev_open w.heap.size g gm sm m cw cp cn sp A l G S W1 HN1.out.1 (by omega) x y).mono ?_
        rintro e V2 ⟨code, rfl, b2, s2, hcase⟩
        have a2 := s2.blk HA.out (by decide) (by decide) (by decide)
        have BB := Lib.hid (HN1.out.2.trans b2)
        have SS := Lib.hid s2
        have d1 := Blk.cell a2 1
        have d2 := Blk.cell a2 2
        have d3 := Blk.cell a2 3
        simp at d1 d2 d3
        have A2 := Lib.hid a2
        clear b2 s2 a2
        rcases hcase with ⟨hc, cw2, cn2, sp2, AA2, cap2, l2, kn2⟩ | ⟨rfl, cw2, cn2, sp2, AA2, cap2, l2, kl2, hrest⟩
        · have KN2 := Lib.hid (kn2.up (by omega))
          clear kn2
          go_wp2_with fail
          go_roundw
          case rel => exact ⟨m + 1, _, _, _, _, _, _, G, S, by omega, by go_num, KN2.out, BB.out⟩
          case measure => simp [intOf]; omega
        · obtain ⟨hx1, hx2, hy1, hy2, hfair⟩ := hrest
          obtain ⟨cg, mg2, hcg⟩ := HN1.out.1.giv
          obtain ⟨cs, ms2, hcs⟩ := HN1.out.1.spe
          have KL := Lib.hid kl2
          have hgs := HN1.out.1.ne
          have hbas := HN1.out.1.bas
          have hV2 : w.heap.size ≤ V2.heap.size := BB.out.size
          replace mg2 := mg2.still SS.out
          replace ms2 := ms2.still SS.out
          clear kl2
          obtain ⟨V3, hr3, ⟨cg3, mg3, hcg3⟩, hg3⟩ := mg2.write (x := x) (v := y) (by simp only [maxLen]; omega) hwx.out
          have A3 := Blk.grown A2.out hg3 (by intro e; injection e with e; exact MapV.blk_ne mg2 A2.out e)
          have ms3 : MapI V3 sm S cs := MapV.grown ms2 hg3 (by intro e; injection e with e; exact hgs e.symm)
          have BB3 := BB.out.trans (grown_below hg3 hbas.1 hV2)
          obtain ⟨V4, hr4, ⟨cs4, ms4, hcs4⟩, hg4⟩ := ms3.write (x := x) (v := 0) (by simp only [maxLen]; omega) hwx.out
          have e1 := Blk.cell A3 1
          have e2 := Blk.cell A3 2
          have e3 := Blk.cell A3 3
          simp at e1 e2 e3
          have KF : Hid (Nev w.heap.size V4 g gm sm (m + 1) cw2 cn2 sp2 AA2 cap2 l2 (upd G x (some y)) (upd S x (some 0)) ∧ Below w.heap.size w V4) := by
            refine ⟨⟨(KL.out.off mg2 hg3).off ms3 hg4, ⟨cg3, MapV.grown mg3 hg4 (by intro e; injection e with e; exact hgs e), by omega⟩, ⟨cs4, ms4, by omega⟩, hfair, hgs, hbas⟩, BB3.trans (grown_below hg4 hbas.2 BB3.size)⟩
          clear KL mg2 ms2 mg3 ms3 ms4 hg3 hg4 A3 BB3 hfair
          go_wp2_with fail
          go_roundw
          case rel => exact ⟨m + 1, _, _, _, _, _, _, _, _, by omega, by go_num, KF.out⟩
          case measure => simp [intOf]; omega
      by_cases k1 : kd = 1
      · subst k1
        go_wp2_with fail
        generalize wr.alloc (.cells #[.int .i64 1, .int .i64 x, .int .i64 y, .int .i64 z] 31) = W1 at *
        refine (nev_close w.heap.size g gm sm m cw cp cn sp A l G S W1 HN1.out.1 (by omega) x).mono ?_
        rintro e V2 ⟨⟨code, rfl⟩, b2, AA2, cap2, l2, kn2⟩
        have KN2 := Lib.hid (And.intro kn2 (HN1.out.2.trans b2))
        clear b2 kn2
        go_wp2_with fail
        go_roundw
        case rel => exact ⟨m + 1, _, _, _, _, _, _, G, S, by omega, by go_num, KN2.out⟩
        case measure => simp [intOf]; omega
      by_cases k5 : kd = 5
      · subst k5
        go_wp2_with fail
        generalize wr.alloc (.cells #[.int .i64 5, .int .i64 x, .int .i64 y, .int .i64 z] 31) = W1 at *
        refine (nev_grow w.heap.size g gm sm m cw cp cn sp A l G S W1 HN1.out.1 (by omega) x y).mono ?_
        rintro e V2 ⟨code, rfl, b2, s2, hcase⟩
        have a2 := s2.blk HA.out (by decide) (by decide) (by decide)
        have BB := Lib.hid (HN1.out.2.trans b2)
        have SS := Lib.hid s2
        have d1 := Blk.cell a2 1
        have d2 := Blk.cell a2 2
        have d3 := Blk.cell a2 3
        simp at d1 d2 d3
        have A2 := Lib.hid a2
        clear b2 s2 a2
        rcases hcase with ⟨hc, cw2, cn2, sp2, AA2, cap2, l2, kn2⟩ | ⟨rfl, cw2, cn2, sp2, AA2, cap2, l2, kl2, hrest⟩
        · have KN2 := Lib.hid (kn2.up (by omega))
          clear kn2
          go_wp2_with fail
          go_roundw
          case rel => exact ⟨m + 1, _, _, _, _, _, _, G, S, by omega, by go_num, KN2.out, BB.out⟩
          case measure => simp [intOf]; omega
        · obtain ⟨hy1, hy2, hfair⟩ := hrest
          obtain ⟨cg, mg2, hcg⟩ := HN1.out.1.giv
          obtain ⟨cs, ms2, hcs⟩ := HN1.out.1.spe
          have KL := Lib.hid kl2
          have hgs := HN1.out.1.ne
          have hbas := HN1.out.1.bas
          have hV2 : w.heap.size ≤ V2.heap.size := BB.out.size
          replace mg2 := mg2.still SS.out
          replace ms2 := ms2.still SS.out
          clear kl2
          have hl2 := mg2.look hwx.out
          have hwr : IntKind.i64.wrap ((G x).getD 0 + y) = (G x).getD 0 + y := by rw [IntKind.wrap_i64]; unfold at0 at hy1 hy2; omega
          unfold at0 at hy1 hy2
          obtain ⟨V3, hr3, ⟨cg3, mg3, hcg3⟩, hg3⟩ := mg2.write (x := x) (v := (G x).getD 0 + y) (by simp only [maxLen]; omega) hwx.out
          have KF : Hid (Nev w.heap.size V3 g gm sm (m + 1) cw2 cn2 sp2 AA2 cap2 l2 (upd G x (some (at0 G x + y))) S ∧ Below w.heap.size w V3) := by
            refine ⟨⟨KL.out.off mg2 hg3, ⟨cg3, mg3, by omega⟩, ⟨cs, MapV.grown ms2 hg3 (by intro e; injection e with e; exact hgs e.symm), by omega⟩, hfair, hgs, hbas⟩, BB.out.trans (grown_below hg3 hbas.1 hV2)⟩
          clear KL mg2 ms2 mg3 hg3 hfair
          generalize (G x).getD 0 = gx at *
          go_wp2_with fail
          go_roundw
          case rel => exact ⟨m + 1, _, _, _, _, _, _, _, _, by omega, by go_num, KF.out⟩
          case measure => simp [intOf]; omega
      by_cases k6 : kd = 6
      · subst k6
        go_wp2_with fail
        generalize wr.alloc (.cells #[.int .i64 6, .int .i64 x, .int .i64 y, .int .i64 z] 31) = W1 at *
        refine (nev_grow w.heap.size g gm sm m cw cp cn sp A l G S W1 HN1.out.1 (by omega) x y).mono ?_
        rintro e V2 ⟨code, rfl, b2, s2, hcase⟩
        have a2 := s2.blk HA.out (by decide) (by decide) (by decide)
        have BB := Lib.hid (HN1.out.2.trans b2)
        have SS := Lib.hid s2
        have d1 := Blk.cell a2 1
        have d2 := Blk.cell a2 2
        have d3 := Blk.cell a2 3
        simp at d1 d2 d3
        have A2 := Lib.hid a2
        clear b2 s2 a2
        rcases hcase with ⟨hc, cw2, cn2, sp2, AA2, cap2, l2, kn2⟩ | ⟨rfl, cw2, cn2, sp2, AA2, cap2, l2, kl2, hrest⟩
        · have KN2 := Lib.hid (kn2.up (by omega))
          clear kn2
          go_wp2_with fail
          go_roundw
          case rel => exact ⟨m + 1, _, _, _, _, _, _, G, S, by omega, by go_num, KN2.out, BB.out⟩
          case measure => simp [intOf]; omega
        · obtain ⟨hy1, hy2, hfair⟩ := hrest
          obtain ⟨cg, mg2, hcg⟩ := HN1.out.1.giv
          obtain ⟨cs, ms2, hcs⟩ := HN1.out.1.spe
          have KL := Lib.hid kl2
          have hgs := HN1.out.1.ne
          have hbas := HN1.out.1.bas
          have hV2 : w.heap.size ≤ V2.heap.size := BB.out.size
          replace mg2 := mg2.still SS.out
          replace ms2 := ms2.still SS.out
          clear kl2
          have hl2 := mg2.look hwx.out
          have hwr : IntKind.i64.wrap ((G x).getD 0 + y) = (G x).getD 0 + y := by rw [IntKind.wrap_i64]; unfold at0 at hy1 hy2; omega
          unfold at0 at hy1 hy2
          obtain ⟨V3, hr3, ⟨cg3, mg3, hcg3⟩, hg3⟩ := mg2.write (x := x) (v := (G x).getD 0 + y) (by simp only [maxLen]; omega) hwx.out
          have KF : Hid (Nev w.heap.size V3 g gm sm (m + 1) cw2 cn2 sp2 AA2 cap2 l2 (upd G x (some (at0 G x + y))) S ∧ Below w.heap.size w V3) := by
            refine ⟨⟨KL.out.off mg2 hg3, ⟨cg3, mg3, by omega⟩, ⟨cs, MapV.grown ms2 hg3 (by intro e; injection e with e; exact hgs e.symm), by omega⟩, hfair, hgs, hbas⟩, BB.out.trans (grown_below hg3 hbas.1 hV2)⟩
          clear KL mg2 ms2 mg3 hg3 hfair
          generalize (G x).getD 0 = gx at *
          go_wp2_with fail
          go_roundw
          case rel => exact ⟨m + 1, _, _, _, _, _, _, _, _, by omega, by go_num, KF.out⟩
          case measure => simp [intOf]; omega
      by_cases k7 : kd = 7
      · subst k7
        go_wp2_with fail
        generalize wr.alloc (.cells #[.int .i64 7, .int .i64 x, .int .i64 y, .int .i64 z] 31) = W1 at *
        refine (ids_any w.heap.size g cw cp cn sp _ A l W1 HN1.out.1.led).mono ?_
        rintro e V1 ⟨A7, c7, rfl, h7, b7⟩
        have a1 := Blk.below HA.out b7 (Blk.lt HA.out)
        have u2 := Blk.cell a1 2
        have u3 := Blk.cell a1 3
        simp at u2 u3
        have N1 := Lib.hid (And.intro (HN1.out.1.below b7) (And.intro h7 (And.intro a1 (HN1.out.2.trans (b7.mono HN1.out.2.size)))))
        clear h7 b7 a1
        go_wp2_with fail
        refine (nev_resize w.heap.size g gm sm m cw cp cn sp A l G S V1 N1.out.1 (by omega) y z).mono ?_
        rintro e V2 ⟨code, rfl, b2, s2, hcase⟩
        have BB := Lib.hid (N1.out.2.2.2.trans b2)
        have SS := Lib.hid s2
        have hlen := N1.out.1.led.few
        clear b2 s2
        rcases hcase with ⟨hc, cw2, cn2, sp2, AA2, cap2, l2, kn2⟩ | ⟨rfl, cw2, cn2, sp2, AA2, cap2, l2, kl2, hw2, hfair⟩
        · have KN2 := Lib.hid (kn2.up (by omega))
          clear kn2
          go_wp2_with fail
          go_roundw
          case rel => exact ⟨m + 1, _, _, _, _, _, _, G, S, by omega, by go_num, KN2.out, BB.out⟩
          case measure => simp [intOf]; omega
        · obtain ⟨cg, mg2, hcg⟩ := N1.out.1.giv
          obtain ⟨cs, ms2, hcs⟩ := N1.out.1.spe
          have hgs := N1.out.1.ne
          have hbas := N1.out.1.bas
          have hV2 : w.heap.size ≤ V2.heap.size := BB.out.size
          have KF := Lib.hid (And.intro kl2 (And.intro (mg2.still SS.out) (And.intro (ms2.still SS.out) (And.intro (SS.out.held N1.out.2.1 (by decide) (by decide) (by decide)) (And.intro (SS.out.blk N1.out.2.2.1 (by decide) (by decide) (by decide)) BB.out)))))
          have HW2 := Lib.hid hw2
          have HF := Lib.hid hfair
          have hal := Blk.lt KF.out.2.2.2.2.1
          have hcc := KF.out.2.2.2.1.2.1
          have hcc2 := KF.out.2.2.2.1.2.2.1
          unfold Win2 at hw2
          generalize wr.heap.size = ab at *
          have hzy : IntKind.i64.wrap (z - y) = z - y := by rw [IntKind.wrap_i64]; omega
          clear mg2 ms2 kl2 hfair hw2 u2 u3
          go_wp2_with fail
          go_loopw [13] (fun iv wr2 => ∃ (j c : Nat), j ≤ l.length ∧ iv = .int .i64 j ∧ c ≤ cg + j ∧ Led w.heap.size wr2 g cw2 cn2 sp2 AA2 cap2 l2 ((m + 1 : Nat) * 2147483647) ∧ MapI wr2 gm (addAll G (z - y) ((l.map (·.id)).take j)) c ∧ MapI wr2 sm S cs ∧ Held wr2 3 1 A7 l.length c7 (nums (l.map (·.id))) ∧ Blk wr2 ab 31 #[.int .i64 7, .int .i64 x, .int .i64 y, .int .i64 z] ∧ Below w.heap.size w wr2) (fun i _ => l.length - (intOf i).toNat)
          case atStart => exact ⟨0, cg, by omega, rfl, by omega, KF.out.1, KF.out.2.1, KF.out.2.2.1, KF.out.2.2.2.1, KF.out.2.2.2.2.1, KF.out.2.2.2.2.2⟩
          case round =>
            obtain ⟨j, c, hj, rfl, hcj, kl, mg, ms, hI, abk, bw⟩ := hrel
            have KR := Lib.hid (And.intro kl (And.intro mg (And.intro ms (And.intro hI (And.intro abk bw)))))
            clear kl mg ms hI abk bw
            have hj0 : (0 : Int) ≤ j := by omega
            by_cases hjl : j < l.length
            · have hj1 : (j : Int) < l.length := by omega
              have hjm : j < (l.map (·.id)).length := by simpa using hjl
              have hg : (nums (l.map (·.id)))[j]? = some (.int .i64 ((l.map (·.id))[j])) := by simp [nums, hjl]
              obtain ⟨b5, o5, hA7, hb5, i0⟩ := KR.out.2.2.2.1.at_ hg
              have hmem : (l.map (·.id))[j] ∈ l.map (·.id) := List.getElem_mem hjm
              have hbd := nev_bound w.heap.size g gm sm m cw cp cn sp A l G S V1 N1.out.1 (by omega) _ hmem
              have hid := Lib.hid (show (Lit.int .i64 ((l.map (·.id))[j])).wf = true from by
                obtain ⟨yy, hyy, he⟩ := List.mem_map.1 hmem
                have := N1.out.1.led.bds yy hyy
                exact wf_key (by omega) (by omega))
              have hnd := ids_nodup N1.out.1.led.srt
              have hat : at0 (addAll G (z - y) ((l.map (·.id)).take j)) ((l.map (·.id))[j]) = at0 G ((l.map (·.id))[j]) := by
                rw [addAll_at _ _ _ _ (hnd.sublist (List.take_sublist _ _)), if_neg (take_at hnd hjm)]
                omega
              have hsn := Lib.hid (show addAll G (z - y) ((l.map (·.id)).take (j + 1)) = upd (addAll G (z - y) ((l.map (·.id)).take j)) ((l.map (·.id))[j]) (some (at0 (addAll G (z - y) ((l.map (·.id)).take j)) ((l.map (·.id))[j]) + (z - y))) by rw [List.take_succ_eq_append_getElem hjm, addAll_snoc])
              have hwr : IntKind.i64.wrap (at0 (addAll G (z - y) ((l.map (·.id)).take j)) ((l.map (·.id))[j]) + (z - y)) = at0 (addAll G (z - y) ((l.map (·.id)).take j)) ((l.map (·.id))[j]) + (z - y) := by
                rw [hat, IntKind.wrap_i64]
                have := HW2.out
                unfold Win2 at this
                omega
              clear hat hbd hmem hnd hg
              generalize addAll G (z - y) ((l.map (·.id)).take j) = Gj at *
              generalize (l.map (·.id))[j] = xj at *
              have hlk := Lib.hid (fun (V : World) (h : MapI V gm Gj c) => h.look hid.out)
              unfold at0 at hwr
              generalize hgx : (Gj xj).getD 0 = gx at *
              have HGX := Lib.hid hgx
              clear hgx
              have u2 := Blk.cell KR.out.2.2.2.2.1 2
              have u3 := Blk.cell KR.out.2.2.2.2.1 3
              simp at u2 u3
              have hal2 := Blk.lt KR.out.2.2.2.2.1
              have HA7 := Lib.hid hA7
              rw [hA7]
              clear hA7
              go_wp2_with fail
              refine wp_region_ord (fun w' => MapI w' gm Gj c ∧ w'.cell? ⟨b5, o5 + j, none⟩ = some (.int .i64 xj) ∧ w'.cell? ⟨ab, 2, none⟩ = some (.int .i64 y) ∧ w'.cell? ⟨ab, 3, none⟩ = some (.int .i64 z)) 12 [(true, 0), (true, 1), (true, 2), (true, 3), (true, 4), (true, 5), (true, 6), (true, 7), (true, 8), (true, 9), (true, 10), (true, 11)] default (by kernel_rfl) (by kernel_rfl) (fun d _ _ _ _ h => by cases d <;> exact h) ?_ ?_
              · exact ⟨by exact KR.out.2.1.below (below_drewN (Below.refl _ _) 1), i0, u2, u3⟩
              simp only [List.map_cons, List.map_nil, List.getD_cons_succ, List.getD_cons_zero]
              repeat
                (refine heldL_take ?_ ?_ ?_
                 rotate_left
                 · intro w' hw'
                   try dsimp only at hw'
                   obtain ⟨q0, q1, q2, q3⟩ := hw'
                   go_simp
                   try with_reducible rfl
                 try simp only [Act.put, List.setIfInBounds_toArray, List.set_cons_zero, List.set_cons_succ])
              refine heldL_take ?_ ?_ ?_
              rotate_left
              · intro w' hw'
                try dsimp only at hw'
                have hl9 := hlk.out w' hw'.1
                go_simp
                try with_reducible rfl
              try simp only [Act.put, List.setIfInBounds_toArray, List.set_cons_zero, List.set_cons_succ]
              repeat
                (refine heldL_take ?_ ?_ ?_
                 rotate_left
                 · intro w' hw'
                   try dsimp only at hw'
                   obtain ⟨q0, q1, q2, q3⟩ := hw'
                   go_simp
                   try with_reducible rfl
                 try simp only [Act.put, List.setIfInBounds_toArray, List.set_cons_zero, List.set_cons_succ])
              refine heldL_last (fun K hK => ?_)
              refine wp_put _ (.tmp 149) (.tmp 153) (.tmp 160) 29 rfl 3 3 Try.underlying3 Try.underlying29 gm c _ rfl (by exact KR.out.2.1.below (below_drewN (Below.refl _ _) 1)) (by simp only [maxLen]; omega) xj _ rfl rfl hid.out (fun w' h1 h2 => hK _ _ ?_)
              clear hK K
              have mgd : MapI (wr.drewN 1) gm Gj c := KR.out.2.1.below (below_drewN (Below.refl _ _) 1)
              have h2' : (wr.drewN 1).grownBy w' (some gm) := h2
              have mg9 := MapI.of_put h1
              have H9 : Hid (Led w.heap.size w' g cw2 cn2 sp2 AA2 cap2 l2 ((m + 1 : Nat) * 2147483647) ∧ (∃ c', c' ≤ c + 1 ∧ MapI w' gm (upd Gj xj (some (gx + (z - y)))) c') ∧ MapI w' sm S cs ∧ Held w' 3 1 A7 l.length c7 (nums (l.map (·.id))) ∧ Blk w' ab 31 #[.int .i64 7, .int .i64 x, .int .i64 y, .int .i64 z] ∧ Below w.heap.size w w') :=
                ⟨(KR.out.1.drewN 1).off mgd h2', ⟨_, by split <;> omega, mg9⟩, MapV.grown (KR.out.2.2.1.below (below_drewN (Below.refl _ _) 1)) h2' (by intro e; injection e with e; exact hgs e.symm), held_off (KR.out.2.2.2.1.drewN 1) mgd h2', Blk.grown (KR.out.2.2.2.2.1.drewN 1) h2' (by intro e; injection e with e; exact MapV.blk_ne KR.out.2.1 KR.out.2.2.2.2.1 e), (below_drewN KR.out.2.2.2.2.2 1).trans (grown_below h2' hbas.1 KR.out.2.2.2.2.2.size)⟩
              clear h1 h2 h2' mg9 mgd
              try simp only [Act.put]
              go_wp2_with fail
              go_roundw
              case rel =>
                obtain ⟨k1, ⟨c', hc', m1⟩, r1⟩ := H9.out
                refine ⟨j + 1, c', by omega, by go_num, by omega, k1, ?_, by rw [← HA7.out]; exact r1⟩
                rw [hsn.out]
                unfold at0
                rw [HGX.out]
                exact m1
              case measure => simp [intOf]; omega
            · obtain rfl : j = l.length := by omega
              have hall : (l.map (·.id)).take l.length = l.map (·.id) := List.take_of_length_le (by simp)
              have KZ : Hid (Nev w.heap.size wr g gm sm (m + 1) cw2 cn2 sp2 AA2 cap2 l2 (addAll G (z - y) (l.map (·.id))) S ∧ Below w.heap.size w wr) := by
                have mg := KR.out.2.1
                rw [hall] at mg
                exact ⟨⟨KR.out.1, ⟨c, mg, by omega⟩, ⟨cs, KR.out.2.2.1, by omega⟩, HF.out, hgs, hbas⟩, KR.out.2.2.2.2.2⟩
              go_wp2_with fail
              go_roundw
              case rel => exact ⟨m + 1, _, _, _, _, _, _, _, _, by omega, by go_num, KZ.out⟩
              case measure => simp [intOf]; omega
      · have k0' := beq_eq_false_iff_ne.2 k0
        have k1' := beq_eq_false_iff_ne.2 k1
        have k5' := beq_eq_false_iff_ne.2 k5
        have k6' := beq_eq_false_iff_ne.2 k6
        have k7' := beq_eq_false_iff_ne.2 k7
        clear k0 k1 k5 k6 k7
        go_wp2_with fail
        generalize wr.alloc (.cells #[.int .i64 kd, .int .i64 x, .int .i64 y, .int .i64 z] 31) = W1 at *
        refine (nev_spend w.heap.size g gm sm m cw cp cn sp A l G S W1 HN1.out.1 (by omega) x y).mono ?_
        rintro e V2 ⟨code, rfl, b2, s2, hcase⟩
        have a2 := s2.blk HA.out (by decide) (by decide) (by decide)
        have BB := Lib.hid (HN1.out.2.trans b2)
        have SS := Lib.hid s2
        have d1 := Blk.cell a2 1
        have d2 := Blk.cell a2 2
        have d3 := Blk.cell a2 3
        simp at d1 d2 d3
        have A2 := Lib.hid a2
        clear b2 s2 a2
        rcases hcase with ⟨hc, cw2, cn2, sp2, AA2, cap2, l2, kn2⟩ | ⟨rfl, cw2, cn2, sp2, AA2, cap2, l2, kl2, hrest⟩
        · have KN2 := Lib.hid (kn2.up (by omega))
          clear kn2
          go_wp2_with fail
          go_roundw
          case rel => exact ⟨m + 1, _, _, _, _, _, _, G, S, by omega, by go_num, KN2.out, BB.out⟩
          case measure => simp [intOf]; omega
        · rcases hrest with ⟨rfl, hfair⟩ | ⟨hy0, hx0, hy1, hy2, hs1, hs2, ht1, ht2, hq1, hq2, hfair⟩
          · obtain ⟨cg, mg2, hcg⟩ := HN1.out.1.giv
            obtain ⟨cs, ms2, hcs⟩ := HN1.out.1.spe
            have KF : Hid (Nev w.heap.size V2 g gm sm (m + 1) cw2 cn2 sp2 AA2 cap2 l2 G S ∧ Below w.heap.size w V2) := ⟨⟨kl2, ⟨cg, mg2.still SS.out, by omega⟩, ⟨cs, ms2.still SS.out, by omega⟩, hfair, HN1.out.1.ne, HN1.out.1.bas⟩, BB.out⟩
            clear mg2 ms2 kl2 hfair
            go_wp2_with fail
            go_roundw
            case rel => exact ⟨m + 1, _, _, _, _, _, _, _, _, by omega, by go_num, KF.out⟩
            case measure => simp [intOf]; omega
          · obtain ⟨cg, mg2, hcg⟩ := HN1.out.1.giv
            obtain ⟨cs, ms2, hcs⟩ := HN1.out.1.spe
            have KL := Lib.hid kl2
            have hgs := HN1.out.1.ne
            have hbas := HN1.out.1.bas
            have hV2 : w.heap.size ≤ V2.heap.size := BB.out.size
            replace mg2 := mg2.still SS.out
            replace ms2 := ms2.still SS.out
            clear kl2
            have hye : (y == 0) = false := beq_eq_false_iff_ne.2 hy0
            have hl2 := ms2.look hwx.out
            have hwr : IntKind.i64.wrap ((S x).getD 0 + y) = (S x).getD 0 + y := by rw [IntKind.wrap_i64]; unfold at0 at hs1 hs2; omega
            have hwr2 : IntKind.i64.wrap ((S 0).getD 0 + y) = (S 0).getD 0 + y := by rw [IntKind.wrap_i64]; unfold at0 at ht1 ht2; omega
            unfold at0 at hs1 hs2 ht1 ht2 hq1 hq2
            obtain ⟨V3, hr3, ⟨cs3, ms3, hcs3⟩, hg3⟩ := ms2.write (x := x) (v := (S x).getD 0 + y) (by simp only [maxLen]; omega) hwx.out
            have A3 := Blk.grown A2.out hg3 (by intro e; injection e with e; exact MapV.blk_ne ms2 A2.out e)
            have mg3 : MapI V3 gm G cg := MapV.grown mg2 hg3 (by intro e; injection e with e; exact hgs e)
            have BB3 := BB.out.trans (grown_below hg3 hbas.2 hV2)
            have e0 : (upd S x (some ((S x).getD 0 + y)) 0).getD 0 = (S 0).getD 0 := by rw [upd_other S _ (Ne.symm hx0)]
            have hl3 := ms3.look (x := 0) (by decide)
            rw [e0] at hl3
            obtain ⟨V4, hr4, ⟨cs4, ms4, hcs4⟩, hg4⟩ := ms3.write (x := 0) (v := (S 0).getD 0 + y) (by simp only [maxLen]; omega) (by decide)
            have A4 := Blk.grown A3 hg4 (by intro e; injection e with e; exact MapV.blk_ne ms3 A3 e)
            have mg4 : MapI V4 gm G cg := MapV.grown mg3 hg4 (by intro e; injection e with e; exact hgs e)
            have f1 : (upd (upd S x (some ((S x).getD 0 + y))) 0 (some ((S 0).getD 0 + y)) x).getD 0 = (S x).getD 0 + y := by rw [upd_other _ _ hx0, upd_same]; rfl
            have f2 : (upd (upd S x (some ((S x).getD 0 + y))) 0 (some ((S 0).getD 0 + y)) 0).getD 0 = (S 0).getD 0 + y := by rw [upd_same]; rfl
            have hl4 := ms4.look hwx.out
            have hl5 := ms4.look (x := 0) (by decide)
            rw [f1] at hl4
            rw [f2] at hl5
            have hl6 := mg4.look hwx.out
            have hl7 := mg4.look (x := 0) (by decide)
            have e1 := Blk.cell A3 1
            have e2 := Blk.cell A3 2
            have e3 := Blk.cell A3 3
            simp at e1 e2 e3
            have q1 := Blk.cell A4 1
            have q2 := Blk.cell A4 2
            have q3 := Blk.cell A4 3
            simp at q1 q2 q3
            have KF : Hid (Nev w.heap.size V4 g gm sm (m + 1) cw2 cn2 sp2 AA2 cap2 l2 G (upd (upd S x (some (at0 S x + y))) 0 (some (at0 S 0 + y))) ∧ Below w.heap.size w V4) := by
              refine ⟨⟨(KL.out.off ms2 hg3).off ms3 hg4, ⟨cg, mg4, by omega⟩, ⟨cs4, ms4, by omega⟩, hfair, hgs, hbas⟩, BB3.trans (grown_below hg4 hbas.2 BB3.size)⟩
            clear KL mg2 ms2 mg3 ms3 mg4 ms4 hg3 hg4 A3 A4 BB3 hfair e0 f1 f2 hy0 hx0
            generalize (S x).getD 0 = sx at *
            generalize (S 0).getD 0 = s0 at *
            generalize (G x).getD 0 = gx at *
            generalize (G 0).getD 0 = g0 at *
            go_wp2_with fail
            go_roundw
            case rel => exact ⟨m + 1, _, _, _, _, _, _, _, _, by omega, by go_num, KF.out⟩
            case measure => simp [intOf]; omega
    · have hend : ¬ m < n ∨ (m < n ∧ ¬ m < 80) := by omega
      clear hgo
      rcases hend with hend | ⟨hend, hend2⟩
      all_goals
        (go_wp2_with fail
         go_ret
         exact ⟨rfl, HN.out.2⟩)

theorem own : ownKnob Try.prog.godebug = none := by kernel_rfl

set_option maxRecDepth 100000 in
theorem lifted (os : Os) (started : os.Started) (H : Type) (enc : TypeId × Value → H) :
    ReturnsInHanded {} Try.checked os 3 .any (Rows.creditNeverSpec.pre6 enc Try.prog Try.f3 Rows.creditNeverRow.domain false) (Rows.creditNeverSpec.post enc Try.prog Try.f3 false true false false) := by
  refine returnsInHanded_of_change (C := Try.checked) own started (by kernel_rfl) Try.func3
    (ChangeSpec.witness6 (enc := enc) (C := Try.checked) false ⟨#[], #[.int .u32 0, .slice none 0 0], []⟩ 8 (by kernel_rfl) (by kernel_rfl) (by kernel_rfl) (by kernel_rfl)) ?_
  intro W base args ds gs before hval0 hW hcnd _
  have hval : ∀ (j : Nat) t v, Try.f3.params[j]? = some t → args[j]? = some v → Value.okWide Try.prog W .any base t v := hval0
  have hW' := hW
  obtain ⟨p, q, hA0, hV, rfl, hfz, hnd⟩ := hW
  have hA : DataW.TrodAll enc Try.prog W 0 (fun _ => true) true Try.f3.params.toList args.toList ds p := hA0
  rw [Try.params3] at hA hval
  obtain ⟨v0, vs0, d0, ds0, p0, q0, hargs, rfl, rfl, h0, r0⟩ := trodAll_cons hA
  obtain ⟨v1, vs1, d1, ds1, p1, q1, rfl, rfl, rfl, h1, r1⟩ := trodAll_cons r0
  obtain ⟨rfl, rfl, rfl⟩ := trodAll_nil r1
  obtain rfl : args = #[v0, v1] := by cases args; simp_all
  obtain ⟨rfl, rfl⟩ := trodVars_none hV
  have g0 := h0
  have g1 := h1
  obtain ⟨a0, rfl, _, _, w0⟩ := open_int Try.underlying22 (hval 0 22 v0 rfl rfl) h0
  obtain ⟨n1, C1, k1⟩ := open_rows Try.underlying23 (by kernel_rfl) (by decide) (four_of Try.underlying31 Try.underlying3 (by kernel_rfl) rfl rfl rfl rfl rfl rfl rfl rfl) (hval 1 23 v1 rfl rfl) h1
  clear hA0 hval0
  have hlt : ∀ x ∈ (p0 ++ (p1 ++ [])), x.block < W.heap.size := fun x hx => hW'.lt x (by simpa using hx)
  refine (walk W a0 w0 v1 n1 C1 k1).mono fun e W' ⟨he, hb⟩ => ?_
  subst he
  refine ⟨_, rfl, post_of_below (pa := (p0 ++ (p1 ++ []))) (pv := []) hW' (fun _ _ _ => (trodAll_cons_mk (shut_bool Try.underlying4 _) trodAll_mk0)) (fun sp hsp => ?_) (fun _ _ => rfl) (by simp) hb (ok_one (by kernel_rfl) rfl (okWide_bool_mk Try.underlying4 _))⟩
  exact trodAll_cons_mk (below_trod sp (by kernel_rfl) (by kernel_rfl) (of_decide_eq_true (by kernel_rfl)) g0 hb (fun x hx => hlt x (by simp [hx])) (fun x hx => hsp x (by simp [hx])))
    (trodAll_cons_mk (below_trod sp (by kernel_rfl) (by kernel_rfl) (of_decide_eq_true (by kernel_rfl)) g1 hb (fun x hx => hlt x (by simp [hx])) (fun x hx => hsp x (by simp [hx])))
    (trodAll_mk0))

theorem over : Rows.creditNeverRow.holds Try.pinned (OpenSpec.ofChange Rows.creditNeverSpec) :=
  OpenClaim.holds_of_wide 3 Try.f3 rfl rfl rfl rfl rfl rfl rfl ⟨rfl, rfl, rfl, rfl, rfl⟩ rfl rfl rfl rfl rfl (by kernel_rfl) Try.func3 (by kernel_rfl)
    (of_decide_eq_true (by kernel_rfl)) (by unfold Func.isWrapper; rw [if_neg (by decide +kernel)]; exact ⟨rfl, rfl⟩)
    (fun os started H enc _ => lifted os started H enc)

theorem proved : Rows.CreditNeverSaid := over
#print axioms proved
end Go.Proofs.Ytpbahmnlhckgbaa.CreditNever
