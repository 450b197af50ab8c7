/- IdsDo, side 1. -/
import Derived.Test.YtnpkcoaofcbckaaRows
import Derived.Test.YtnpkcoaofcbckaaMem
import Derived.Test.YtnpkcoaofcbckaaLift
import Derived.Test.YtnpkcoaofcbckaaIds
import Derived.WalkKit
import Derived.ProofKit
import Derived.OpenShut
import Derived.Handy
import Derived.Deep.QuietTactic
import Derived.BigQuiet
import Derived.Deep.RegionWith
import Derived.WalkLawsBesides
namespace Go.Proofs.Ytnpkcoaofcbckaa.IdsDo
open Go.RowKit
set_option linter.unusedVariables false
set_option maxRecDepth 100000 in
set_option maxHeartbeats 8000000 in
theorem walk1 (w : World) (n : Nat) (C : Nat → List Value) (A : Option Addr) (cap : Nat) (hnc : n ≤ cap) (hcap : cap ≤ 9223372036854775807) (HC : Hid (∀ i, i < n → Two (C i) ∧ (C i).length = 2 ∧ ∃ b off, A = some ⟨b, off, none⟩ ∧ b < w.heap.size ∧ ∀ (j : Nat) (u : Value), (C i)[j]? = some u → w.cell? ⟨b, off + i * 2 + j, none⟩ = some u))
    (a2 : Int) (b3 : -9223372036854775808 ≤ a2) (b4 : a2 ≤ 9223372036854775807) :
    Calls Try.prog 4 #[.int .i64 1, .slice A n cap, .int .i64 a2] w fun e w' => e = .returned (.bool true) ∧ Below w.heap.size w w' := by
  go_enter Try.func4, Try.ntmps4
  go_wp2_with fail
  refine (new_yes 1 _ (.inr rfl)).mono ?_
  rintro e w1 ⟨rfl, d1, hb1⟩
  go_wp2_with fail
  refine (awake_any _).mono ?_
  rintro e w2 ⟨rfl, hb2⟩
  have d2 : IDs w2 w.heap.size 1 (1 + 1) 0 := Blk.below d1 hb2 (Blk.lt d1)
  have hB2 := hb1.trans (hb2.mono hb1.size)
  go_wp2_with fail
  go_loopw [9, 10, 11] (fun nv lv iv wr => ∃ (k : Nat) (nx la : Int), k ≤ 100 ∧ iv = .int .i64 k ∧ nv = .int .i64 nx ∧ lv = .int .i64 la ∧ 1 ≤ nx ∧ nx ≤ 2147483649 ∧ 0 ≤ la ∧ la ≤ 2147483647 ∧ IDs wr w.heap.size 1 nx la ∧ Below w.heap.size w wr) (fun _ _ i _ => 100 - (intOf i).toNat)
  case atStart => exact ⟨0, 2, 0, by omega, rfl, rfl, rfl, by omega, by omega, by omega, by omega, d2, hB2⟩
  case round =>
    obtain ⟨k, nx, la, hk, rfl, rfl, rfl, hn0, hn1, hl0, hl1, dr, hbr⟩ := hrel
    by_cases hlt : k < n
    · by_cases hlt2 : k < 100
      · obtain ⟨b, off, kd, id, rfl, hbl, _, c0, c1, _, x1, x2⟩ := RowsAt.two HC.out hlt
        rw [← hbr.cell (p := ⟨b, off + k * 2, none⟩) hbl] at c0
        rw [← hbr.cell (p := ⟨b, off + k * 2 + 1, none⟩) hbl] at c1
        by_cases k2 : kd = 2
        · subst k2
          have hO := fun W => rof_any 0 id W (.inl rfl)
          cases ho : ofB 0 id with
          | false =>
            rw [ho] at hO
            have HO := Lib.hid hO
            clear hO
            have hP := fun W hW => peer_no w.heap.size 1 nx la id W hW (.inr rfl) (.inl ho)
            have HP := Lib.hid hP
            clear hP
            go_wp2_with fail
            refine (HP.out _ dr).mono ?_
            rintro e w2 ⟨rfl, hb2⟩
            have d2 : IDs w2 w.heap.size 1 nx la := Blk.below dr hb2 (Blk.lt dr)
            have B2 := hbr.trans (hb2.mono hbr.size)
            go_wp2_with fail
            refine (HO.out _).mono ?_
            rintro e w3 ⟨rfl, rfl⟩
            go_wp2_with fail
            refine (next_any _ 1 (nx) (la) _ (d2)).mono ?_
            rintro e wn ⟨rfl, rfl⟩
            go_wp2_with fail
            refine (last_any _ 1 (nx) (la) _ (d2)).mono ?_
            rintro e wl ⟨rfl, rfl⟩
            go_wp2_with fail
            go_roundw
            case rel => exact ⟨k + 1, nx, la, by omega, by go_num, rfl, rfl, by omega, by omega, by omega, by omega, d2, B2⟩
            case measure => simp [intOf]; omega
          | true =>
            have hid2 : 1 ≤ id ∧ id ≤ 2147483647 := by simp [ofB] at ho; omega
            obtain ⟨hi1, hi2⟩ := hid2
            rw [ho] at hO
            have HO := Lib.hid hO
            clear hO
            by_cases hl : id ≤ la
            · have hP := fun W hW => peer_no w.heap.size 1 nx la id W hW (.inr rfl) (.inr hl)
              have HP := Lib.hid hP
              clear hP
              go_wp2_with fail
              refine (HP.out _ dr).mono ?_
              rintro e w2 ⟨rfl, hb2⟩
              have d2 : IDs w2 w.heap.size 1 nx la := Blk.below dr hb2 (Blk.lt dr)
              have B2 := hbr.trans (hb2.mono hbr.size)
              go_wp2_with fail
              refine (HO.out _).mono ?_
              rintro e w3 ⟨rfl, rfl⟩
              go_wp2_with fail
              refine (next_any _ 1 (nx) (la) _ (d2)).mono ?_
              rintro e wn ⟨rfl, rfl⟩
              go_wp2_with fail
              refine (last_any _ 1 (nx) (la) _ (d2)).mono ?_
              rintro e wl ⟨rfl, rfl⟩
              go_wp2_with fail
              go_roundw
              case rel => exact ⟨k + 1, nx, la, by omega, by go_num, rfl, rfl, by omega, by omega, by omega, by omega, d2, B2⟩
              case measure => simp [intOf]; omega
            · have hP := fun W hW => peer_yes w.heap.size 1 nx la id W hW (.inr rfl) ho (by omega)
              have HP := Lib.hid hP
              clear hP ho
              go_wp2_with fail
              refine (HP.out _ dr).mono ?_
              rintro e w2 ⟨rfl, d2, o2⟩
              have B2 := bonly hbr o2 (by simp)
              go_wp2_with fail
              refine (HO.out _).mono ?_
              rintro e w3 ⟨rfl, rfl⟩
              go_wp2_with fail
              refine (next_any _ 1 (nx) (id) _ (d2)).mono ?_
              rintro e wn ⟨rfl, rfl⟩
              go_wp2_with fail
              refine (last_any _ 1 (nx) (id) _ (d2)).mono ?_
              rintro e wl ⟨rfl, rfl⟩
              go_wp2_with fail
              go_roundw
              case rel => exact ⟨k + 1, nx, id, by omega, by go_num, rfl, rfl, by omega, by omega, by omega, by omega, d2, B2⟩
              case measure => simp [intOf]; omega
        · by_cases k3 : kd = 3
          · subst k3
            have hO := fun W => rof_any 0 id W (.inl rfl)
            cases ho : ofB 0 id with
            | false =>
              rw [ho] at hO
              have HO := Lib.hid hO
              clear hO
              have hP := fun W hW => peer_no w.heap.size 1 nx la id W hW (.inr rfl) (.inl ho)
              have HP := Lib.hid hP
              clear hP
              go_wp2_with fail
              refine (HP.out _ dr).mono ?_
              rintro e w2 ⟨rfl, hb2⟩
              have d2 : IDs w2 w.heap.size 1 nx la := Blk.below dr hb2 (Blk.lt dr)
              have B2 := hbr.trans (hb2.mono hbr.size)
              go_wp2_with fail
              refine (HO.out _).mono ?_
              rintro e w3 ⟨rfl, rfl⟩
              go_wp2_with fail
              refine (next_any _ 1 (nx) (la) _ (d2)).mono ?_
              rintro e wn ⟨rfl, rfl⟩
              go_wp2_with fail
              refine (last_any _ 1 (nx) (la) _ (d2)).mono ?_
              rintro e wl ⟨rfl, rfl⟩
              go_wp2_with fail
              go_roundw
              case rel => exact ⟨k + 1, nx, la, by omega, by go_num, rfl, rfl, by omega, by omega, by omega, by omega, d2, B2⟩
              case measure => simp [intOf]; omega
            | true =>
              have hid2 : 1 ≤ id ∧ id ≤ 2147483647 := by simp [ofB] at ho; omega
              obtain ⟨hi1, hi2⟩ := hid2
              rw [ho] at hO
              have HO := Lib.hid hO
              clear hO
              by_cases hl : id ≤ la
              · have hP := fun W hW => peer_no w.heap.size 1 nx la id W hW (.inr rfl) (.inr hl)
                have HP := Lib.hid hP
                clear hP
                go_wp2_with fail
                refine (HP.out _ dr).mono ?_
                rintro e w2 ⟨rfl, hb2⟩
                have d2 : IDs w2 w.heap.size 1 nx la := Blk.below dr hb2 (Blk.lt dr)
                have B2 := hbr.trans (hb2.mono hbr.size)
                go_wp2_with fail
                refine (HO.out _).mono ?_
                rintro e w3 ⟨rfl, rfl⟩
                go_wp2_with fail
                refine (next_any _ 1 (nx) (la) _ (d2)).mono ?_
                rintro e wn ⟨rfl, rfl⟩
                go_wp2_with fail
                refine (last_any _ 1 (nx) (la) _ (d2)).mono ?_
                rintro e wl ⟨rfl, rfl⟩
                go_wp2_with fail
                go_roundw
                case rel => exact ⟨k + 1, nx, la, by omega, by go_num, rfl, rfl, by omega, by omega, by omega, by omega, d2, B2⟩
                case measure => simp [intOf]; omega
              · have hP := fun W hW => peer_yes w.heap.size 1 nx la id W hW (.inr rfl) ho (by omega)
                have HP := Lib.hid hP
                clear hP ho
                go_wp2_with fail
                refine (HP.out _ dr).mono ?_
                rintro e w2 ⟨rfl, d2, o2⟩
                have B2 := bonly hbr o2 (by simp)
                go_wp2_with fail
                refine (HO.out _).mono ?_
                rintro e w3 ⟨rfl, rfl⟩
                go_wp2_with fail
                refine (next_any _ 1 (nx) (id) _ (d2)).mono ?_
                rintro e wn ⟨rfl, rfl⟩
                go_wp2_with fail
                refine (last_any _ 1 (nx) (id) _ (d2)).mono ?_
                rintro e wl ⟨rfl, rfl⟩
                go_wp2_with fail
                go_roundw
                case rel => exact ⟨k + 1, nx, id, by omega, by go_num, rfl, rfl, by omega, by omega, by omega, by omega, d2, B2⟩
                case measure => simp [intOf]; omega
          · by_cases k4 : kd = 4
            · subst k4
              have hO := fun W => rof_any 1 id W (.inr rfl)
              cases ho : ofB 1 id with
              | false =>
                rw [ho] at hO
                have HO := Lib.hid hO
                clear hO
                have hP := fun W hW => skip_arg w.heap.size 1 nx la id W hW (.inr rfl) ho
                have HP := Lib.hid hP
                clear hP ho
                go_wp2_with fail
                refine (HP.out _ dr).mono ?_
                rintro e w2 ⟨rfl, hb2⟩
                have d2 : IDs w2 w.heap.size 1 nx la := Blk.below dr hb2 (Blk.lt dr)
                have B2 := hbr.trans (hb2.mono hbr.size)
                go_wp2_with fail
                refine (HO.out _).mono ?_
                rintro e w3 ⟨rfl, rfl⟩
                go_wp2_with fail
                refine (next_any _ 1 (nx) (la) _ (d2)).mono ?_
                rintro e wn ⟨rfl, rfl⟩
                go_wp2_with fail
                refine (last_any _ 1 (nx) (la) _ (d2)).mono ?_
                rintro e wl ⟨rfl, rfl⟩
                go_wp2_with fail
                go_roundw
                case rel => exact ⟨k + 1, nx, la, by omega, by go_num, rfl, rfl, by omega, by omega, by omega, by omega, d2, B2⟩
                case measure => simp [intOf]; omega
              | true =>
                have hid2 : 1 ≤ id ∧ id ≤ 2147483647 := by simp [ofB] at ho; omega
                obtain ⟨hi1, hi2⟩ := hid2
                rw [ho] at hO
                have HO := Lib.hid hO
                clear hO
                by_cases hl : id < nx
                · have hP := fun W hW => skip_range w.heap.size 1 nx la id W hW (.inr rfl) ho hl
                  have HP := Lib.hid hP
                  clear hP ho
                  go_wp2_with fail
                  refine (HP.out _ dr).mono ?_
                  rintro e w2 ⟨rfl, hb2⟩
                  have d2 : IDs w2 w.heap.size 1 nx la := Blk.below dr hb2 (Blk.lt dr)
                  have B2 := hbr.trans (hb2.mono hbr.size)
                  go_wp2_with fail
                  refine (HO.out _).mono ?_
                  rintro e w3 ⟨rfl, rfl⟩
                  go_wp2_with fail
                  refine (next_any _ 1 (nx) (la) _ (d2)).mono ?_
                  rintro e wn ⟨rfl, rfl⟩
                  go_wp2_with fail
                  refine (last_any _ 1 (nx) (la) _ (d2)).mono ?_
                  rintro e wl ⟨rfl, rfl⟩
                  go_wp2_with fail
                  go_roundw
                  case rel => exact ⟨k + 1, nx, la, by omega, by go_num, rfl, rfl, by omega, by omega, by omega, by omega, d2, B2⟩
                  case measure => simp [intOf]; omega
                · have hP := fun W hW => skip_yes w.heap.size 1 nx la id W hW (.inr rfl) ho (by omega) hi2
                  have HP := Lib.hid hP
                  clear hP ho
                  go_wp2_with fail
                  refine (HP.out _ dr).mono ?_
                  rintro e w2 ⟨rfl, d2, o2⟩
                  have B2 := bonly hbr o2 (by simp)
                  go_wp2_with fail
                  refine (HO.out _).mono ?_
                  rintro e w3 ⟨rfl, rfl⟩
                  go_wp2_with fail
                  refine (next_any _ 1 (id + 2) (la) _ (d2)).mono ?_
                  rintro e wn ⟨rfl, rfl⟩
                  go_wp2_with fail
                  refine (last_any _ 1 (id + 2) (la) _ (d2)).mono ?_
                  rintro e wl ⟨rfl, rfl⟩
                  go_wp2_with fail
                  go_roundw
                  case rel => exact ⟨k + 1, id + 2, la, by omega, by go_num, rfl, rfl, by omega, by omega, by omega, by omega, d2, B2⟩
                  case measure => simp [intOf]; omega
            · have e2 : (kd == 2) = false := by simp [k2]
              have e3 : (kd == 3) = false := by simp [k3]
              have e4 : (kd == 4) = false := by simp [k4]
              clear k2 k3 k4
              by_cases hl : nx ≤ 2147483647
              · go_wp2_with fail
                refine (use_yes _ 1 nx la _ dr (by omega) hl).mono ?_
                rintro e w2 ⟨rfl, d2, o2⟩
                have B2 := bonly hbr o2 (by simp)
                go_wp2_with fail
                refine (next_any _ 1 (nx + 2) (la) _ (d2)).mono ?_
                rintro e wn ⟨rfl, rfl⟩
                go_wp2_with fail
                refine (last_any _ 1 (nx + 2) (la) _ (d2)).mono ?_
                rintro e wl ⟨rfl, rfl⟩
                go_wp2_with fail
                go_roundw
                case rel => exact ⟨k + 1, nx + 2, la, by omega, by go_num, rfl, rfl, by omega, by omega, by omega, by omega, d2, B2⟩
                case measure => simp [intOf]; omega
              · go_wp2_with fail
                refine (use_limit _ 1 nx la _ dr (by omega)).mono ?_
                rintro e w2 ⟨rfl, rfl⟩
                go_wp2_with fail
                refine (next_any _ 1 (nx) (la) _ (dr)).mono ?_
                rintro e wn ⟨rfl, rfl⟩
                go_wp2_with fail
                refine (last_any _ 1 (nx) (la) _ (dr)).mono ?_
                rintro e wl ⟨rfl, rfl⟩
                go_wp2_with fail
                go_roundw
                case rel => exact ⟨k + 1, nx, la, by omega, by go_num, rfl, rfl, by omega, by omega, by omega, by omega, dr, hbr⟩
                case measure => simp [intOf]; omega
      · have hM := fun W hW => mine_any w.heap.size 1 nx la a2 W hW (.inr rfl)
        have hS := fun W => rof_any 1 a2 W (.inr rfl)
        have hO := fun W => rof_any 0 a2 W (.inl rfl)
        have hP := fun W hW => past_any w.heap.size 1 nx la a2 W hW (.inr rfl)
        cases ho : ofB 1 a2 with
        | true =>
          have hq : ofB 0 a2 = false := by simp [ofB] at ho ⊢; omega
          rw [ho] at hM hS
          rw [hq] at hO
          by_cases hl : a2 < nx
          · rw [show pastB 1 nx la a2 = true by unfold pastB; rw [ho]; simp [hl]] at hP
            have HM := Lib.hid hM
            have HS := Lib.hid hS
            have HO := Lib.hid hO
            have HP := Lib.hid hP
            clear hM hS hO hP ho hq
            go_wp2_with fail
            refine (HS.out _).mono ?_
            rintro e s1 ⟨rfl, rfl⟩
            go_wp2_with fail
            refine (HM.out _ dr).mono ?_
            rintro e s2 ⟨rfl, hs2⟩
            have g2 : IDs s2 w.heap.size 1 nx la := Blk.below dr hs2 (Blk.lt dr)
            have B2 := hbr.trans (hs2.mono hbr.size)
            go_wp2_with fail
            refine (HS.out _).mono ?_
            rintro e s3 ⟨rfl, rfl⟩
            go_wp2_with fail
            refine (HP.out _ g2).mono ?_
            rintro e s4 ⟨rfl, hs4⟩
            have g4 : IDs s4 w.heap.size 1 nx la := Blk.below g2 hs4 (Blk.lt g2)
            have B4 := B2.trans (hs4.mono B2.size)
            go_wp2_with fail
            go_ret
            exact ⟨rfl, B4⟩
          · have hd : decide (a2 < nx) = false := by simp; omega
            rw [show pastB 1 nx la a2 = false by unfold pastB; rw [ho]; simp [hl]] at hP
            have HM := Lib.hid hM
            have HS := Lib.hid hS
            have HO := Lib.hid hO
            have HP := Lib.hid hP
            clear hM hS hO hP ho hq
            go_wp2_with fail
            refine (HS.out _).mono ?_
            rintro e s1 ⟨rfl, rfl⟩
            go_wp2_with fail
            refine (HO.out _).mono ?_
            rintro e s2 ⟨rfl, rfl⟩
            go_wp2_with fail
            refine (HM.out _ dr).mono ?_
            rintro e s3 ⟨rfl, hs3⟩
            have g3 : IDs s3 w.heap.size 1 nx la := Blk.below dr hs3 (Blk.lt dr)
            have B3 := hbr.trans (hs3.mono hbr.size)
            go_wp2_with fail
            refine (HS.out _).mono ?_
            rintro e s4 ⟨rfl, rfl⟩
            go_wp2_with fail
            refine (HP.out _ g3).mono ?_
            rintro e s5 ⟨rfl, hs5⟩
            have g5 : IDs s5 w.heap.size 1 nx la := Blk.below g3 hs5 (Blk.lt g3)
            have B5 := B3.trans (hs5.mono B3.size)
            go_wp2_with fail
            go_ret
            exact ⟨rfl, B5⟩
        | false =>
          cases hq : ofB 0 a2 with
          | true =>
            rw [ho] at hM hS
            rw [hq] at hO
            by_cases hl : a2 ≤ la
            · rw [show pastB 1 nx la a2 = true by unfold pastB; rw [ho]; simp [hq, hl]] at hP
              have HM := Lib.hid hM
              have HS := Lib.hid hS
              have HO := Lib.hid hO
              have HP := Lib.hid hP
              clear hM hS hO hP ho hq
              go_wp2_with fail
              refine (HS.out _).mono ?_
              rintro e s1 ⟨rfl, rfl⟩
              go_wp2_with fail
              refine (HO.out _).mono ?_
              rintro e s2 ⟨rfl, rfl⟩
              go_wp2_with fail
              refine (HM.out _ dr).mono ?_
              rintro e s3 ⟨rfl, hs3⟩
              have g3 : IDs s3 w.heap.size 1 nx la := Blk.below dr hs3 (Blk.lt dr)
              have B3 := hbr.trans (hs3.mono hbr.size)
              go_wp2_with fail
              refine (HS.out _).mono ?_
              rintro e s4 ⟨rfl, rfl⟩
              go_wp2_with fail
              refine (HP.out _ g3).mono ?_
              rintro e s5 ⟨rfl, hs5⟩
              have g5 : IDs s5 w.heap.size 1 nx la := Blk.below g3 hs5 (Blk.lt g3)
              have B5 := B3.trans (hs5.mono B3.size)
              go_wp2_with fail
              go_ret
              exact ⟨rfl, B5⟩
            · have hd : decide (a2 ≤ la) = false := by simp; omega
              rw [show pastB 1 nx la a2 = false by unfold pastB; rw [ho]; simp [hq, hl]] at hP
              have HM := Lib.hid hM
              have HS := Lib.hid hS
              have HO := Lib.hid hO
              have HP := Lib.hid hP
              clear hM hS hO hP ho hq
              go_wp2_with fail
              refine (HS.out _).mono ?_
              rintro e s1 ⟨rfl, rfl⟩
              go_wp2_with fail
              refine (HO.out _).mono ?_
              rintro e s2 ⟨rfl, rfl⟩
              go_wp2_with fail
              refine (HM.out _ dr).mono ?_
              rintro e s3 ⟨rfl, hs3⟩
              have g3 : IDs s3 w.heap.size 1 nx la := Blk.below dr hs3 (Blk.lt dr)
              have B3 := hbr.trans (hs3.mono hbr.size)
              go_wp2_with fail
              refine (HS.out _).mono ?_
              rintro e s4 ⟨rfl, rfl⟩
              go_wp2_with fail
              refine (HP.out _ g3).mono ?_
              rintro e s5 ⟨rfl, hs5⟩
              have g5 : IDs s5 w.heap.size 1 nx la := Blk.below g3 hs5 (Blk.lt g3)
              have B5 := B3.trans (hs5.mono B3.size)
              go_wp2_with fail
              go_ret
              exact ⟨rfl, B5⟩
          | false =>
            rw [ho] at hM hS
            rw [hq] at hO
            rw [show pastB 1 nx la a2 = false by unfold pastB; rw [ho]; simp [hq]] at hP
            have HM := Lib.hid hM
            have HS := Lib.hid hS
            have HO := Lib.hid hO
            have HP := Lib.hid hP
            clear hM hS hO hP ho hq
            go_wp2_with fail
            refine (HS.out _).mono ?_
            rintro e s1 ⟨rfl, rfl⟩
            go_wp2_with fail
            refine (HO.out _).mono ?_
            rintro e s2 ⟨rfl, rfl⟩
            go_wp2_with fail
            refine (HM.out _ dr).mono ?_
            rintro e s3 ⟨rfl, hs3⟩
            have g3 : IDs s3 w.heap.size 1 nx la := Blk.below dr hs3 (Blk.lt dr)
            have B3 := hbr.trans (hs3.mono hbr.size)
            go_wp2_with fail
            refine (HS.out _).mono ?_
            rintro e s4 ⟨rfl, rfl⟩
            go_wp2_with fail
            refine (HP.out _ g3).mono ?_
            rintro e s5 ⟨rfl, hs5⟩
            have g5 : IDs s5 w.heap.size 1 nx la := Blk.below g3 hs5 (Blk.lt g3)
            have B5 := B3.trans (hs5.mono B3.size)
            go_wp2_with fail
            go_ret
            exact ⟨rfl, B5⟩
    · have hM := fun W hW => mine_any w.heap.size 1 nx la a2 W hW (.inr rfl)
      have hS := fun W => rof_any 1 a2 W (.inr rfl)
      have hO := fun W => rof_any 0 a2 W (.inl rfl)
      have hP := fun W hW => past_any w.heap.size 1 nx la a2 W hW (.inr rfl)
      cases ho : ofB 1 a2 with
      | true =>
        have hq : ofB 0 a2 = false := by simp [ofB] at ho ⊢; omega
        rw [ho] at hM hS
        rw [hq] at hO
        by_cases hl : a2 < nx
        · rw [show pastB 1 nx la a2 = true by unfold pastB; rw [ho]; simp [hl]] at hP
          have HM := Lib.hid hM
          have HS := Lib.hid hS
          have HO := Lib.hid hO
          have HP := Lib.hid hP
          clear hM hS hO hP ho hq
          go_wp2_with fail
          refine (HS.out _).mono ?_
          rintro e s1 ⟨rfl, rfl⟩
          go_wp2_with fail
          refine (HM.out _ dr).mono ?_
          rintro e s2 ⟨rfl, hs2⟩
          have g2 : IDs s2 w.heap.size 1 nx la := Blk.below dr hs2 (Blk.lt dr)
          have B2 := hbr.trans (hs2.mono hbr.size)
          go_wp2_with fail
          refine (HS.out _).mono ?_
          rintro e s3 ⟨rfl, rfl⟩
          go_wp2_with fail
          refine (HP.out _ g2).mono ?_
          rintro e s4 ⟨rfl, hs4⟩
          have g4 : IDs s4 w.heap.size 1 nx la := Blk.below g2 hs4 (Blk.lt g2)
          have B4 := B2.trans (hs4.mono B2.size)
          go_wp2_with fail
          go_ret
          exact ⟨rfl, B4⟩
        · have hd : decide (a2 < nx) = false := by simp; omega
          rw [show pastB 1 nx la a2 = false by unfold pastB; rw [ho]; simp [hl]] at hP
          have HM := Lib.hid hM
          have HS := Lib.hid hS
          have HO := Lib.hid hO
          have HP := Lib.hid hP
          clear hM hS hO hP ho hq
          go_wp2_with fail
          refine (HS.out _).mono ?_
          rintro e s1 ⟨rfl, rfl⟩
          go_wp2_with fail
          refine (HO.out _).mono ?_
          rintro e s2 ⟨rfl, rfl⟩
          go_wp2_with fail
          refine (HM.out _ dr).mono ?_
          rintro e s3 ⟨rfl, hs3⟩
          have g3 : IDs s3 w.heap.size 1 nx la := Blk.below dr hs3 (Blk.lt dr)
          have B3 := hbr.trans (hs3.mono hbr.size)
          go_wp2_with fail
          refine (HS.out _).mono ?_
          rintro e s4 ⟨rfl, rfl⟩
          go_wp2_with fail
          refine (HP.out _ g3).mono ?_
          rintro e s5 ⟨rfl, hs5⟩
          have g5 : IDs s5 w.heap.size 1 nx la := Blk.below g3 hs5 (Blk.lt g3)
          have B5 := B3.trans (hs5.mono B3.size)
          go_wp2_with fail
          go_ret
          exact ⟨rfl, B5⟩
      | false =>
        cases hq : ofB 0 a2 with
        | true =>
          rw [ho] at hM hS
          rw [hq] at hO
          by_cases hl : a2 ≤ la
          · rw [show pastB 1 nx la a2 = true by unfold pastB; rw [ho]; simp [hq, hl]] at hP
            have HM := Lib.hid hM
            have HS := Lib.hid hS
            have HO := Lib.hid hO
            have HP := Lib.hid hP
            clear hM hS hO hP ho hq
            go_wp2_with fail
            refine (HS.out _).mono ?_
            rintro e s1 ⟨rfl, rfl⟩
            go_wp2_with fail
            refine (HO.out _).mono ?_
            rintro e s2 ⟨rfl, rfl⟩
            go_wp2_with fail
            refine (HM.out _ dr).mono ?_
            rintro e s3 ⟨rfl, hs3⟩
            have g3 : IDs s3 w.heap.size 1 nx la := Blk.below dr hs3 (Blk.lt dr)
            have B3 := hbr.trans (hs3.mono hbr.size)
            go_wp2_with fail
            refine (HS.out _).mono ?_
            rintro e s4 ⟨rfl, rfl⟩
            go_wp2_with fail
            refine (HP.out _ g3).mono ?_
            rintro e s5 ⟨rfl, hs5⟩
            have g5 : IDs s5 w.heap.size 1 nx la := Blk.below g3 hs5 (Blk.lt g3)
            have B5 := B3.trans (hs5.mono B3.size)
            go_wp2_with fail
            go_ret
            exact ⟨rfl, B5⟩
          · have hd : decide (a2 ≤ la) = false := by simp; omega
            rw [show pastB 1 nx la a2 = false by unfold pastB; rw [ho]; simp [hq, hl]] at hP
            have HM := Lib.hid hM
            have HS := Lib.hid hS
            have HO := Lib.hid hO
            have HP := Lib.hid hP
            clear hM hS hO hP ho hq
            go_wp2_with fail
            refine (HS.out _).mono ?_
            rintro e s1 ⟨rfl, rfl⟩
            go_wp2_with fail
            refine (HO.out _).mono ?_
            rintro e s2 ⟨rfl, rfl⟩
            go_wp2_with fail
            refine (HM.out _ dr).mono ?_
            rintro e s3 ⟨rfl, hs3⟩
            have g3 : IDs s3 w.heap.size 1 nx la := Blk.below dr hs3 (Blk.lt dr)
            have B3 := hbr.trans (hs3.mono hbr.size)
            go_wp2_with fail
            refine (HS.out _).mono ?_
            rintro e s4 ⟨rfl, rfl⟩
            go_wp2_with fail
            refine (HP.out _ g3).mono ?_
            rintro e s5 ⟨rfl, hs5⟩
            have g5 : IDs s5 w.heap.size 1 nx la := Blk.below g3 hs5 (Blk.lt g3)
            have B5 := B3.trans (hs5.mono B3.size)
            go_wp2_with fail
            go_ret
            exact ⟨rfl, B5⟩
        | false =>
          rw [ho] at hM hS
          rw [hq] at hO
          rw [show pastB 1 nx la a2 = false by unfold pastB; rw [ho]; simp [hq]] at hP
          have HM := Lib.hid hM
          have HS := Lib.hid hS
          have HO := Lib.hid hO
          have HP := Lib.hid hP
          clear hM hS hO hP ho hq
          go_wp2_with fail
          refine (HS.out _).mono ?_
          rintro e s1 ⟨rfl, rfl⟩
          go_wp2_with fail
          refine (HO.out _).mono ?_
          rintro e s2 ⟨rfl, rfl⟩
          go_wp2_with fail
          refine (HM.out _ dr).mono ?_
          rintro e s3 ⟨rfl, hs3⟩
          have g3 : IDs s3 w.heap.size 1 nx la := Blk.below dr hs3 (Blk.lt dr)
          have B3 := hbr.trans (hs3.mono hbr.size)
          go_wp2_with fail
          refine (HS.out _).mono ?_
          rintro e s4 ⟨rfl, rfl⟩
          go_wp2_with fail
          refine (HP.out _ g3).mono ?_
          rintro e s5 ⟨rfl, hs5⟩
          have g5 : IDs s5 w.heap.size 1 nx la := Blk.below g3 hs5 (Blk.lt g3)
          have B5 := B3.trans (hs5.mono B3.size)
          go_wp2_with fail
          go_ret
          exact ⟨rfl, B5⟩
end Go.Proofs.Ytnpkcoaofcbckaa.IdsDo
