/- Proved: DemandDoes answers true for every input, and leaves its arguments as they were; no condition. -/
import Derived.Test.YtamjmnoejledbaaRows
import Derived.Test.YtamjmnoejledbaaMem
import Derived.Test.YtamjmnoejledbaaLift
import Derived.Test.YtamjmnoejledbaaDemand
import Derived.WalkKit
import Derived.ProofKit
import Derived.OpenShut
import Derived.Handy
import Derived.Deep.QuietTactic
import Derived.BigQuiet
import Derived.Deep.RegionWith
import Derived.WalkLawsBesides
namespace Go.Proofs.Ytamjmnoejledbaa.DemandDoes
open Go.ChangeShapes Go.WideShapes Go.ChangeAt Go.RowKit Go.Deep
set_option linter.unusedVariables false

theorem refadd_any (n limit by_ : Int) (w : World) (h0 : 0 ≤ n) (h1 : n ≤ limit) (h2 : limit ≤ 2147483647) (h3 : 1 ≤ by_) (h4 : by_ ≤ 9223372036854775807) :
    Calls Try.prog 10 #[.int .i64 n, .int .i64 limit, .int .i64 by_] w fun e w' => e = .returned (.int .i64 (min by_ (limit - n))) ∧ w = w' := by
  by_cases hk : by_ ≤ limit - n
  · rw [Int.min_eq_left hk]
    go_enter Try.func10, Try.ntmps10
    go_wp2
    go_ret
    exact ⟨rfl, rfl⟩
  · rw [Int.min_eq_right (by omega)]
    go_enter Try.func10, Try.ntmps10
    go_wp2
    go_ret
    exact ⟨rfl, rfl⟩

set_option maxRecDepth 100000 in
set_option maxHeartbeats 4000000 in
theorem walk (w : World) (a0 : Int) (w0 : (Lit.int .i64 a0).wf = true) (v1 : Value) (n : Nat) (C : Nat → List Value) (h1 : RowsAt w v1 n 2 Two C) :
    Calls Try.prog 4 #[.int .i64 a0, v1] w fun e w' => e = .returned (.bool true) ∧ Below w.heap.size w w' := by
  obtain ⟨A, cap, rfl, hnc, hcap, hcells⟩ := h1
  have HC := Lib.hid hcells
  clear hcells
  obtain ⟨b1, b2⟩ := bounds_i64 w0
  clear w0
  by_cases hr : a0 < 1 ∨ 2147483647 < a0
  · by_cases hr1 : a0 < 1
    · go_enter Try.func4, Try.ntmps4
      go_wp2_with fail
      refine (new_no _ _ (.inl hr1)).mono ?_
      rintro e w1 ⟨rfl, rfl⟩
      go_wp2_with fail
      refine (awake_any _).mono ?_
      rintro e w2 ⟨rfl, hb2⟩
      go_wp2_with fail
      go_ret
      exact ⟨rfl, hb2⟩
    · have hr2 : 2147483647 < a0 := by omega
      clear hr
      go_enter Try.func4, Try.ntmps4
      go_wp2_with fail
      refine (new_no _ _ (.inr hr2)).mono ?_
      rintro e w1 ⟨rfl, rfl⟩
      go_wp2_with fail
      refine (awake_any _).mono ?_
      rintro e w2 ⟨rfl, hb2⟩
      go_wp2_with fail
      go_ret
      exact ⟨rfl, hb2⟩
  · have hr1 : 1 ≤ a0 := by omega
    have hr2 : a0 ≤ 2147483647 := by omega
    clear hr
    go_enter Try.func4, Try.ntmps4
    go_wp2_with fail
    refine (new_yes _ _ hr1 hr2).mono ?_
    rintro e w1 ⟨rfl, d1, hb1⟩
    go_wp2_with fail
    go_loopw [7, 8, 9, 10] (fun nv av tv iv wr => ∃ (k : Nat) (m a : Int), k ≤ 100 ∧ iv = .int .i64 k ∧ nv = .int .i64 m ∧ av = .int .i64 a ∧ tv = .int .i64 (a - m) ∧ 0 ≤ m ∧ m ≤ a0 ∧ m ≤ a ∧ a ≤ k * 2147483647 ∧ Dem wr w.heap.size m a0 ∧ Below w.heap.size w wr) (fun _ _ _ i _ => 100 - (intOf i).toNat)
    case atStart => exact ⟨0, 0, 0, by omega, rfl, rfl, rfl, rfl, by omega, by omega, by omega, by omega, d1, hb1⟩
    case round =>
      obtain ⟨k, m, a, hk, rfl, rfl, rfl, rfl, hm0, hm1, hma, hak, dr, hbr⟩ := hrel
      by_cases hlt : k < n
      · by_cases hlt2 : k < 100
        · obtain ⟨b, off, kd, nn, rfl, hbl, _, c0, c1, _, z1, z2⟩ := RowsAt.two HC.out hlt
          rw [← hbr.cell (p := ⟨b, off + k * 2, none⟩) hbl] at c0
          rw [← hbr.cell (p := ⟨b, off + k * 2 + 1, none⟩) hbl] at c1
          by_cases k0 : kd = 0
          · subst k0
            by_cases hn1 : nn < 1
            · go_wp2_with fail
              refine (add_arg _ _ _ hn1).mono ?_
              rintro e w2 ⟨rfl, rfl⟩
              go_wp2_with fail
              refine (left_any _ (m) a0 _ (Blk.alloc dr _)).mono ?_
              rintro e wl ⟨rfl, rfl⟩
              go_wp2_with fail
              refine (endless_any _ (m) a0 _ (Blk.alloc dr _)).mono ?_
              rintro e we ⟨rfl, q, rfl⟩
              go_wp2_with fail
              go_roundw
              case rel => exact ⟨k + 1, m, a, by omega, by go_num, rfl, rfl, rfl, by omega, by omega, by omega, by omega, (Blk.alloc dr _).drewN q, below_drewN (hbr.alloc hbr.size _) q⟩
              case measure => simp [intOf]; omega
            · have hmin : 0 ≤ min nn (a0 - m) ∧ min nn (a0 - m) ≤ a0 - m := by omega
              have hA := fun (W : World) (hW : Dem W w.heap.size m a0) => add_any _ m a0 nn W hW (by omega) z2 hm0 hm1 hr2
              have hR := fun (W : World) => refadd_any m a0 nn W hm0 hm1 hr2 (by omega) z2
              generalize min nn (a0 - m) = x at *
              obtain ⟨hx0, hx1⟩ := hmin
              have HA := Lib.hid hA
              have HR := Lib.hid hR
              clear hA hR
              go_wp2_with fail
              refine (HA.out _ (Blk.alloc dr _)).mono ?_
              rintro e w2 ⟨rfl, d2, o2⟩
              have hb2 : Below w.heap.size w w2 := bonly (hbr.alloc hbr.size _) o2 (by simp)
              have cN := (o2.block wr.heap.size (by simp) (by have := Blk.lt dr; simp; omega)).trans (heap_alloc_new wr _)
              have c2 : w2.cell? ⟨wr.heap.size, 1, none⟩ = some (.int .i64 nn) := by simp [World.cell?, cN]
              clear cN
              go_wp2_with fail
              refine (HR.out _).mono ?_
              rintro e w3 ⟨rfl, rfl⟩
              go_wp2_with fail
              refine (left_any _ (m + x) a0 _ (d2)).mono ?_
              rintro e wl ⟨rfl, rfl⟩
              go_wp2_with fail
              refine (endless_any _ (m + x) a0 _ (d2)).mono ?_
              rintro e we ⟨rfl, q, rfl⟩
              go_wp2_with fail
              go_roundw
              case rel => exact ⟨k + 1, m + x, a + x, by omega, by go_num, rfl, rfl, by rw [show a + x - (m + x) = a - m by omega], by omega, by omega, by omega, by omega, (d2).drewN q, below_drewN (hb2) q⟩
              case measure => simp [intOf]; omega
          · by_cases k1 : kd = 1
            · subst k1
              by_cases hn1 : nn < 1
              · go_wp2_with fail
                refine (add_arg _ _ _ hn1).mono ?_
                rintro e w2 ⟨rfl, rfl⟩
                go_wp2_with fail
                refine (left_any _ (m) a0 _ (Blk.alloc dr _)).mono ?_
                rintro e wl ⟨rfl, rfl⟩
                go_wp2_with fail
                refine (endless_any _ (m) a0 _ (Blk.alloc dr _)).mono ?_
                rintro e we ⟨rfl, q, rfl⟩
                go_wp2_with fail
                go_roundw
                case rel => exact ⟨k + 1, m, a, by omega, by go_num, rfl, rfl, rfl, by omega, by omega, by omega, by omega, (Blk.alloc dr _).drewN q, below_drewN (hbr.alloc hbr.size _) q⟩
                case measure => simp [intOf]; omega
              · have hmin : 0 ≤ min nn (a0 - m) ∧ min nn (a0 - m) ≤ a0 - m := by omega
                have hA := fun (W : World) (hW : Dem W w.heap.size m a0) => add_any _ m a0 nn W hW (by omega) z2 hm0 hm1 hr2
                have hR := fun (W : World) => refadd_any m a0 nn W hm0 hm1 hr2 (by omega) z2
                generalize min nn (a0 - m) = x at *
                obtain ⟨hx0, hx1⟩ := hmin
                have HA := Lib.hid hA
                have HR := Lib.hid hR
                clear hA hR
                go_wp2_with fail
                refine (HA.out _ (Blk.alloc dr _)).mono ?_
                rintro e w2 ⟨rfl, d2, o2⟩
                have hb2 : Below w.heap.size w w2 := bonly (hbr.alloc hbr.size _) o2 (by simp)
                have cN := (o2.block wr.heap.size (by simp) (by have := Blk.lt dr; simp; omega)).trans (heap_alloc_new wr _)
                have c2 : w2.cell? ⟨wr.heap.size, 1, none⟩ = some (.int .i64 nn) := by simp [World.cell?, cN]
                clear cN
                go_wp2_with fail
                refine (HR.out _).mono ?_
                rintro e w3 ⟨rfl, rfl⟩
                go_wp2_with fail
                refine (left_any _ (m + x) a0 _ (d2)).mono ?_
                rintro e wl ⟨rfl, rfl⟩
                go_wp2_with fail
                refine (endless_any _ (m + x) a0 _ (d2)).mono ?_
                rintro e we ⟨rfl, q, rfl⟩
                go_wp2_with fail
                go_roundw
                case rel => exact ⟨k + 1, m + x, a + x, by omega, by go_num, rfl, rfl, by rw [show a + x - (m + x) = a - m by omega], by omega, by omega, by omega, by omega, (d2).drewN q, below_drewN (hb2) q⟩
                case measure => simp [intOf]; omega
            · by_cases k2 : kd = 2
              · subst k2
                by_cases hn1 : nn < 0
                · go_wp2_with fail
                  refine (take_arg _ _ _ hn1).mono ?_
                  rintro e w2 ⟨rfl, rfl⟩
                  go_wp2_with fail
                  refine (left_any _ (m) a0 _ (Blk.alloc dr _)).mono ?_
                  rintro e wl ⟨rfl, rfl⟩
                  go_wp2_with fail
                  refine (endless_any _ (m) a0 _ (Blk.alloc dr _)).mono ?_
                  rintro e we ⟨rfl, q, rfl⟩
                  go_wp2_with fail
                  go_roundw
                  case rel => exact ⟨k + 1, m, a, by omega, by go_num, rfl, rfl, rfl, by omega, by omega, by omega, by omega, (Blk.alloc dr _).drewN q, below_drewN (hbr.alloc hbr.size _) q⟩
                  case measure => simp [intOf]; omega
                · by_cases hn2 : m < nn
                  · go_wp2_with fail
                    refine (take_full _ m a0 _ _ (Blk.alloc dr _) (by omega) hn2).mono ?_
                    rintro e w2 ⟨rfl, rfl⟩
                    go_wp2_with fail
                    refine (left_any _ (m) a0 _ (Blk.alloc dr _)).mono ?_
                    rintro e wl ⟨rfl, rfl⟩
                    go_wp2_with fail
                    refine (endless_any _ (m) a0 _ (Blk.alloc dr _)).mono ?_
                    rintro e we ⟨rfl, q, rfl⟩
                    go_wp2_with fail
                    go_roundw
                    case rel => exact ⟨k + 1, m, a, by omega, by go_num, rfl, rfl, rfl, by omega, by omega, by omega, by omega, (Blk.alloc dr _).drewN q, below_drewN (hbr.alloc hbr.size _) q⟩
                    case measure => simp [intOf]; omega
                  · go_wp2_with fail
                    refine (take_any _ m a0 _ _ (Blk.alloc dr _) (by omega) (by omega) (by omega)).mono ?_
                    rintro e w2 ⟨rfl, d2, o2⟩
                    have hb2 : Below w.heap.size w w2 := bonly (hbr.alloc hbr.size _) o2 (by simp)
                    have cN := (o2.block wr.heap.size (by simp) (by have := Blk.lt dr; simp; omega)).trans (heap_alloc_new wr _)
                    have c2 : w2.cell? ⟨wr.heap.size, 1, none⟩ = some (.int .i64 nn) := by simp [World.cell?, cN]
                    clear cN
                    go_wp2_with fail
                    refine (left_any _ (m - nn) a0 _ (d2)).mono ?_
                    rintro e wl ⟨rfl, rfl⟩
                    go_wp2_with fail
                    refine (endless_any _ (m - nn) a0 _ (d2)).mono ?_
                    rintro e we ⟨rfl, q, rfl⟩
                    go_wp2_with fail
                    go_roundw
                    case rel => exact ⟨k + 1, m - nn, a, by omega, by go_num, rfl, rfl, by rw [show a - (m - nn) = a - m + nn by omega], by omega, by omega, by omega, by omega, (d2).drewN q, below_drewN (hb2) q⟩
                    case measure => simp [intOf]; omega
              · have e0 : (kd == 0) = false := by simp [k0]
                have e1 : (kd == 1) = false := by simp [k1]
                have e2 : (kd == 2) = false := by simp [k2]
                clear k0 k1 k2
                have hmin : 0 ≤ max (min nn m) 0 ∧ max (min nn m) 0 ≤ m := by omega
                have hU := fun (W : World) (hW : Dem W w.heap.size m a0) => upto_any _ m a0 nn W hW hm0 (by omega)
                by_cases u1 : nn ≤ m
                · by_cases u2 : nn < 0
                  · rw [Int.min_eq_left u1, Int.max_eq_right (by omega)] at hU hmin
                    simp only [Int.sub_zero] at hU
                    have HU := Lib.hid hU
                    clear hU
                    obtain ⟨hx0, hx1⟩ := hmin
                    go_wp2_with fail
                    refine (HU.out _ (Blk.alloc dr _)).mono ?_
                    rintro e w2 ⟨rfl, d2, o2⟩
                    have hb2 : Below w.heap.size w w2 := bonly (hbr.alloc hbr.size _) o2 (by simp)
                    have cN := (o2.block wr.heap.size (by simp) (by have := Blk.lt dr; simp; omega)).trans (heap_alloc_new wr _)
                    have c2 : w2.cell? ⟨wr.heap.size, 1, none⟩ = some (.int .i64 nn) := by simp [World.cell?, cN]
                    clear cN
                    go_wp2_with fail
                    refine (left_any _ (m) a0 _ (d2)).mono ?_
                    rintro e wl ⟨rfl, rfl⟩
                    go_wp2_with fail
                    refine (endless_any _ (m) a0 _ (d2)).mono ?_
                    rintro e we ⟨rfl, q, rfl⟩
                    go_wp2_with fail
                    go_roundw
                    case rel => exact ⟨k + 1, m, a, by omega, by go_num, rfl, rfl, rfl, by omega, by omega, by omega, by omega, (d2).drewN q, below_drewN (hb2) q⟩
                    case measure => simp [intOf]; omega
                  · rw [Int.min_eq_left u1, Int.max_eq_left (by omega)] at hU hmin
                    have HU := Lib.hid hU
                    clear hU
                    obtain ⟨hx0, hx1⟩ := hmin
                    go_wp2_with fail
                    refine (HU.out _ (Blk.alloc dr _)).mono ?_
                    rintro e w2 ⟨rfl, d2, o2⟩
                    have hb2 : Below w.heap.size w w2 := bonly (hbr.alloc hbr.size _) o2 (by simp)
                    have cN := (o2.block wr.heap.size (by simp) (by have := Blk.lt dr; simp; omega)).trans (heap_alloc_new wr _)
                    have c2 : w2.cell? ⟨wr.heap.size, 1, none⟩ = some (.int .i64 nn) := by simp [World.cell?, cN]
                    clear cN
                    go_wp2_with fail
                    refine (left_any _ (m - nn) a0 _ (d2)).mono ?_
                    rintro e wl ⟨rfl, rfl⟩
                    go_wp2_with fail
                    refine (endless_any _ (m - nn) a0 _ (d2)).mono ?_
                    rintro e we ⟨rfl, q, rfl⟩
                    go_wp2_with fail
                    go_roundw
                    case rel => exact ⟨k + 1, m - nn, a, by omega, by go_num, rfl, rfl, by rw [show a - (m - nn) = a - m + nn by omega], by omega, by omega, by omega, by omega, (d2).drewN q, below_drewN (hb2) q⟩
                    case measure => simp [intOf]; omega
                · rw [Int.min_eq_right (by omega), Int.max_eq_left (by omega)] at hU hmin
                  simp only [Int.sub_self] at hU
                  have HU := Lib.hid hU
                  clear hU
                  obtain ⟨hx0, hx1⟩ := hmin
                  go_wp2_with fail
                  refine (HU.out _ (Blk.alloc dr _)).mono ?_
                  rintro e w2 ⟨rfl, d2, o2⟩
                  have hb2 : Below w.heap.size w w2 := bonly (hbr.alloc hbr.size _) o2 (by simp)
                  have cN := (o2.block wr.heap.size (by simp) (by have := Blk.lt dr; simp; omega)).trans (heap_alloc_new wr _)
                  have c2 : w2.cell? ⟨wr.heap.size, 1, none⟩ = some (.int .i64 nn) := by simp [World.cell?, cN]
                  clear cN
                  go_wp2_with fail
                  refine (left_any _ (0) a0 _ (d2)).mono ?_
                  rintro e wl ⟨rfl, rfl⟩
                  go_wp2_with fail
                  refine (endless_any _ (0) a0 _ (d2)).mono ?_
                  rintro e we ⟨rfl, q, rfl⟩
                  go_wp2_with fail
                  go_roundw
                  case rel => exact ⟨k + 1, 0, a, by omega, by go_num, rfl, rfl, by rw [Int.sub_zero], by omega, by omega, by omega, by omega, (d2).drewN q, below_drewN (hb2) q⟩
                  case measure => simp [intOf]; omega
        · go_wp2_with fail
          refine (awake_any _).mono ?_
          rintro e w2 ⟨rfl, hb2⟩
          go_wp2_with fail
          go_ret
          exact ⟨rfl, hbr.trans (hb2.mono hbr.size)⟩
      · go_wp2_with fail
        refine (awake_any _).mono ?_
        rintro e w2 ⟨rfl, hb2⟩
        go_wp2_with fail
        go_ret
        exact ⟨rfl, hbr.trans (hb2.mono hbr.size)⟩


theorem own : ownKnob Try.prog.godebug = none := by kernel_rfl

set_option maxRecDepth 100000 in
theorem lifted (os : Os) (started : os.Started) (H : Type) (enc : TypeId × Value → H) :
    ReturnsInHanded {} Try.checked os 4 .any (Rows.demandDoesSpec.pre6 enc Try.prog Try.f4 Rows.demandDoesRow.domain false) (Rows.demandDoesSpec.post enc Try.prog Try.f4 false true false false) := by
  refine returnsInHanded_of_change (C := Try.checked) own started (by kernel_rfl) Try.func4
    (ChangeSpec.witness6 (enc := enc) (C := Try.checked) false ⟨#[], #[.int .i64 0, .slice none 0 0], []⟩ 8 (by kernel_rfl) (by kernel_rfl) (by kernel_rfl) (by kernel_rfl)) ?_
  intro W base args ds gs before hval0 hW hcnd _
  have hval : ∀ (j : Nat) t v, Try.f4.params[j]? = some t → args[j]? = some v → Value.okWide Try.prog W .any base t v := hval0
  have hW' := hW
  obtain ⟨p, q, hA0, hV, rfl, hfz, hnd⟩ := hW
  have hA : DataW.TrodAll enc Try.prog W 0 (fun _ => true) true Try.f4.params.toList args.toList ds p := hA0
  rw [Try.params4] at hA hval
  obtain ⟨v0, vs0, d0, ds0, p0, q0, hargs, rfl, rfl, h0, r0⟩ := trodAll_cons hA
  obtain ⟨v1, vs1, d1, ds1, p1, q1, rfl, rfl, rfl, h1, r1⟩ := trodAll_cons r0
  obtain ⟨rfl, rfl, rfl⟩ := trodAll_nil r1
  obtain rfl : args = #[v0, v1] := by cases args; simp_all
  obtain ⟨rfl, rfl⟩ := trodVars_none hV
  have g0 := h0
  have g1 := h1
  obtain ⟨a0, rfl, _, _, w0⟩ := open_int Try.underlying3 (hval 0 3 v0 rfl rfl) h0
  obtain ⟨n1, C1, k1⟩ := open_rows Try.underlying33 (by kernel_rfl) (by decide) (two_of Try.underlying35 Try.underlying3 (by kernel_rfl) rfl rfl rfl rfl) (hval 1 33 v1 rfl rfl) h1
  clear hA0 hval0
  have hlt : ∀ x ∈ (p0 ++ (p1 ++ [])), x.block < W.heap.size := fun x hx => hW'.lt x (by simpa using hx)
  refine (walk W a0 w0 v1 n1 C1 k1).mono fun e W' ⟨he, hb⟩ => ?_
  subst he
  refine ⟨_, rfl, post_of_below (pa := (p0 ++ (p1 ++ []))) (pv := []) hW' (fun _ _ _ => (trodAll_cons_mk (shut_bool Try.underlying4 _) trodAll_mk0)) (fun sp hsp => ?_) (fun _ _ => rfl) (by simp) hb (ok_one (by kernel_rfl) rfl (okWide_bool_mk Try.underlying4 _))⟩
  exact trodAll_cons_mk (below_trod sp (by kernel_rfl) (by kernel_rfl) (of_decide_eq_true (by kernel_rfl)) g0 hb (fun x hx => hlt x (by simp [hx])) (fun x hx => hsp x (by simp [hx])))
    (trodAll_cons_mk (below_trod sp (by kernel_rfl) (by kernel_rfl) (of_decide_eq_true (by kernel_rfl)) g1 hb (fun x hx => hlt x (by simp [hx])) (fun x hx => hsp x (by simp [hx])))
    (trodAll_mk0))

theorem over : Rows.demandDoesRow.holds Try.pinned (OpenSpec.ofChange Rows.demandDoesSpec) :=
  OpenClaim.holds_of_wide 4 Try.f4 rfl rfl rfl rfl rfl rfl rfl ⟨rfl, rfl, rfl, rfl, rfl⟩ rfl rfl rfl rfl rfl (by kernel_rfl) Try.func4 (by kernel_rfl)
    (of_decide_eq_true (by kernel_rfl)) (by unfold Func.isWrapper; rw [if_neg (by decide +kernel)]; exact ⟨rfl, rfl⟩)
    (fun os started H enc _ => lifted os started H enc)

theorem proved : Rows.DemandDoesSaid := over
#print axioms proved
end Go.Proofs.Ytamjmnoejledbaa.DemandDoes
