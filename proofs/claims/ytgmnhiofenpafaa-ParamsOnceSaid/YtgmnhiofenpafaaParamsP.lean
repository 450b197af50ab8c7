/- The walks of package params, and of its reference. -/
import Derived.Test.YtgmnhiofenpafaaRows
import Derived.WalkKit
import Derived.ProofKit
import Derived.Handy
import Derived.Test.YtgmnhiofenpafaaMem
import Derived.Test.YtgmnhiofenpafaaLift
import Derived.Test.YtgmnhiofenpafaaApp
import Derived.Test.YtgmnhiofenpafaaParams
import Derived.Deep.QuietTactic
import Derived.BigQuiet
import Derived.Deep.RegionWith
import Derived.WalkLawsBesides
import Derived.Laws.ResultCell
import Derived.WalkSmall
namespace Go.Proofs.Ytgmnhiofenpafaa
open Go.RowKit
set_option linter.unusedVariables false

set_option maxHeartbeats 4000000 in
theorem apply_any (x y z : Int) (A : Option Addr) (cap : Nat) (L : List (Int × Int)) (w : World) (hL : Pairs w A cap L) :
    Calls Try.prog 7 #[.agg #[.int .i64 x, .int .i64 y, .int .i64 z], .slice A L.length cap] w (Applied w (app x y z L)) := by
  have hL1 := hL.1
  have hL2 := hL.2.1
  have HL := Lib.hid hL
  clear hL
  generalize hr : app x y z L = r
  have HR := Lib.hid hr
  clear hr
  go_enter Try.func7, Try.ntmps7
  go_wp2_with fail
  go_loopw [10] (fun iv wr => ∃ (k : Nat) (a b c : Int), k ≤ L.length ∧ iv = .int .i64 k ∧ Hid (app a b c (L.drop k) = r) ∧ Blk wr w.heap.size 23 #[.int .i64 a, .int .i64 b, .int .i64 c] ∧ Blk wr (w.heap.size + 1) 23 #[.int .i64 0, .int .i64 0, .int .i64 0] ∧ Below w.heap.size w wr) (fun i _ => L.length - (intOf i).toNat)
  case atStart => exact ⟨0, x, y, z, by omega, rfl, by rw [List.drop_zero]; exact HR.out, Blk.alloc (Blk.new _ _ _) _, by simpa using Blk.new (w.alloc _) _ _, ((Below.refl _ _).alloc (Nat.le_refl _) _).alloc (by simp) _⟩
  case round =>
    obtain ⟨k, a, b, c, hk, rfl, hd, d1, d2, hbr⟩ := hrel
    have hlt1 := Blk.lt d1
    have hlt2 := Blk.lt d2
    by_cases hlt : k < L.length
    · obtain ⟨b0, off, rfl, hbl, c0, c1, x1, x2⟩ := HL.out.2.2 k hlt
      rw [← hbr.cell (p := ⟨b0, off + k * 2, none⟩) hbl] at c0
      rw [← hbr.cell (p := ⟨b0, off + k * 2 + 1, none⟩) hbl] at c1
      have hdr : L.drop k = (L[k].1, L[k].2) :: L.drop (k + 1) := List.drop_eq_getElem_cons hlt
      generalize L[k].1 = id at *
      generalize L[k].2 = v at *
      have hd' := hd.out
      rw [hdr] at hd'
      unfold app at hd'
      clear hd hdr
      by_cases hv : v < 0 ∨ 2147483647 < v
      · rw [if_pos hv] at hd'
        have hW := fun W => within_any v 2147483647 W
        rw [show decide (0 ≤ v ∧ v ≤ 2147483647) = false by simp; omega] at hW
        have HW := Lib.hid hW
        have HD := Lib.hid hd'
        clear hW hd' hv
        have t0 := Blk.cell d2 0
        have t1 := Blk.cell d2 1
        have t2 := Blk.cell d2 2
        have y0 := Blk.frozen d2 0
        have y1 := Blk.frozen d2 1
        have y2 := Blk.frozen d2 2
        simp at t0 t1 t2
        go_wp2_with fail
        refine (HW.out _).mono ?_
        rintro e w1 ⟨rfl, rfl⟩
        go_wp2_with fail
        refine ret_cell3_tmp (g := w.heap.size + 1) rfl rfl rfl (Blk.alloc (Blk.set_ (Blk.set_ (Blk.set_ d2 0 (.int .i64 0)) 1 (.int .i64 0)) 2 (.int .i64 0)) _) (fun W' q0 q1 q2 => by simp [go_sem, q0, q1, q2]) ⟨?_, ?_⟩
        · rw [← HD.out]
          rfl
        · exact (((hbr.setCell (p := ⟨w.heap.size + 1, 0, none⟩) (by simp) _).setCell (p := ⟨w.heap.size + 1, 1, none⟩) (by simp) _).setCell (p := ⟨w.heap.size + 1, 2, none⟩) (by simp) _).alloc (by simpa [World.setCell] using hbr.size) _
      · rw [if_neg hv] at hd'
        have hv1 : 0 ≤ v := by omega
        have hv2 : v ≤ 2147483647 := by omega
        have hW := fun W => within_any v 2147483647 W
        rw [show decide (0 ≤ v ∧ v ≤ 2147483647) = true by simp; omega] at hW
        have HW := Lib.hid hW
        clear hW hv
        by_cases i1 : id = 1
        · subst i1
          rw [show setP a b c 1 v = (v, b, c) by simp [setP]] at hd'
          have HD := Lib.hid hd'
          clear hd'
          go_wp2_with fail
          refine (HW.out _).mono ?_
          rintro e w1 ⟨rfl, rfl⟩
          have e1 : Blk (wr.alloc (.cells #[.int .i64 1, .int .i64 v] 27)) w.heap.size 23 #[.int .i64 a, .int .i64 b, .int .i64 c] := Blk.alloc d1 _
          have y0 := Blk.frozen e1 0
          have y1 := Blk.cell e1 0
          simp at y1
          go_wp2_with fail
          go_roundw
          case rel => exact ⟨k + 1, v, b, c, by omega, by go_num, HD.out, (Blk.set_ d1 0 _).alloc _, (Blk.far d2 (p := ⟨w.heap.size, 0, none⟩) (by simp) _).alloc _, (hbr.setCell (p := ⟨w.heap.size, 0, none⟩) (by simp) _).alloc (by simpa [World.setCell] using hbr.size) _⟩
          case measure => simp [intOf]; omega
        · by_cases i2 : id = 2
          · subst i2
            rw [show setP a b c 2 v = (a, v, c) by simp [setP]] at hd'
            have HD := Lib.hid hd'
            clear hd'
            go_wp2_with fail
            refine (HW.out _).mono ?_
            rintro e w1 ⟨rfl, rfl⟩
            have e1 : Blk (wr.alloc (.cells #[.int .i64 2, .int .i64 v] 27)) w.heap.size 23 #[.int .i64 a, .int .i64 b, .int .i64 c] := Blk.alloc d1 _
            have y0 := Blk.frozen e1 1
            have y1 := Blk.cell e1 1
            simp at y1
            go_wp2_with fail
            go_roundw
            case rel => exact ⟨k + 1, a, v, c, by omega, by go_num, HD.out, (Blk.set_ d1 1 _).alloc _, (Blk.far d2 (p := ⟨w.heap.size, 1, none⟩) (by simp) _).alloc _, (hbr.setCell (p := ⟨w.heap.size, 1, none⟩) (by simp) _).alloc (by simpa [World.setCell] using hbr.size) _⟩
            case measure => simp [intOf]; omega
          · by_cases i3 : id = 3
            · subst i3
              rw [show setP a b c 3 v = (a, b, v) by simp [setP]] at hd'
              have HD := Lib.hid hd'
              clear hd'
              go_wp2_with fail
              refine (HW.out _).mono ?_
              rintro e w1 ⟨rfl, rfl⟩
              have e1 : Blk (wr.alloc (.cells #[.int .i64 3, .int .i64 v] 27)) w.heap.size 23 #[.int .i64 a, .int .i64 b, .int .i64 c] := Blk.alloc d1 _
              have y0 := Blk.frozen e1 2
              have y1 := Blk.cell e1 2
              simp at y1
              go_wp2_with fail
              go_roundw
              case rel => exact ⟨k + 1, a, b, v, by omega, by go_num, HD.out, (Blk.set_ d1 2 _).alloc _, (Blk.far d2 (p := ⟨w.heap.size, 2, none⟩) (by simp) _).alloc _, (hbr.setCell (p := ⟨w.heap.size, 2, none⟩) (by simp) _).alloc (by simpa [World.setCell] using hbr.size) _⟩
              case measure => simp [intOf]; omega
            · rw [show setP a b c id v = (a, b, c) by simp [setP, i1, i2, i3]] at hd'
              have HD := Lib.hid hd'
              have e1 : (id == 1) = false := by simp [i1]
              have e2 : (id == 2) = false := by simp [i2]
              have e3 : (id == 3) = false := by simp [i3]
              clear hd' i1 i2 i3
              go_wp2_with fail
              refine (HW.out _).mono ?_
              rintro e w1 ⟨rfl, rfl⟩
              go_wp2_with fail
              go_roundw
              case rel => exact ⟨k + 1, a, b, c, by omega, by go_num, HD.out, Blk.alloc d1 _, Blk.alloc d2 _, hbr.alloc hbr.size _⟩
              case measure => simp [intOf]; omega
    · obtain rfl : k = L.length := by omega
      have hd' := hd.out
      rw [List.drop_length] at hd'
      unfold app at hd'
      have HD := Lib.hid hd'
      clear hd hd'
      have z0 := Blk.cell d1 0
      have z1 := Blk.cell d1 1
      have z2 := Blk.cell d1 2
      have t0 := Blk.cell d2 0
      have t1 := Blk.cell d2 1
      have t2 := Blk.cell d2 2
      have y0 := Blk.frozen d2 0
      have y1 := Blk.frozen d2 1
      have y2 := Blk.frozen d2 2
      simp at z0 z1 z2 t0 t1 t2
      go_wp2_with fail
      refine ret_cell3_tmp (g := w.heap.size + 1) rfl rfl rfl (Blk.set_ (Blk.set_ (Blk.set_ d2 0 (.int .i64 a)) 1 (.int .i64 b)) 2 (.int .i64 c)) (fun W' q0 q1 q2 => by simp [go_sem, q0, q1, q2]) ⟨?_, ?_⟩
      · rw [← HD.out]
        rfl
      · exact ((hbr.setCell (p := ⟨w.heap.size + 1, 0, none⟩) (by simp) _).setCell (p := ⟨w.heap.size + 1, 1, none⟩) (by simp) _).setCell (p := ⟨w.heap.size + 1, 2, none⟩) (by simp) _
end Go.Proofs.Ytgmnhiofenpafaa
