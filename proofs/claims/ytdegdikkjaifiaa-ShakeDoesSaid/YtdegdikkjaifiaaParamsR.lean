/- The walks of package params, and of its reference. -/
import Derived.Test.YtdegdikkjaifiaaRows
import Derived.WalkKit
import Derived.ProofKit
import Derived.Handy
import Derived.Test.YtdegdikkjaifiaaMem
import Derived.Test.YtdegdikkjaifiaaLift
import Derived.Test.YtdegdikkjaifiaaApp
import Derived.Test.YtdegdikkjaifiaaParams
import Derived.Deep.QuietTactic
import Derived.BigQuiet
import Derived.Deep.RegionWith
import Derived.WalkLawsBesides
import Derived.Laws.ResultCell
import Derived.WalkSmall
namespace Go.Proofs.Ytdegdikkjaifiaa
open Go.RowKit
set_option linter.unusedVariables false

set_option maxHeartbeats 4000000 in
theorem rapply_any (x y z : Int) (A : Option Addr) (cap : Nat) (L : List (Int × Int)) (w : World) (hL : Pairs w A cap L) :
    Calls Try.prog 10 #[.agg #[.int .i64 x, .int .i64 y, .int .i64 z], .slice A L.length cap] w (Applied w (app x y z L)) := by
  have hL1 := hL.1
  have hL2 := hL.2.1
  have HL := Lib.hid hL
  clear hL
  generalize hr : app x y z L = r
  have HR := Lib.hid hr
  clear hr
  go_enter Try.func10, Try.ntmps10
  go_wp2_with fail
  go_loopw [6] (fun iv wr => ∃ (k : Nat) (a b c : Int), k ≤ L.length ∧ iv = .int .i64 k ∧ Hid (app a b c (L.drop k) = r) ∧ Blk wr w.heap.size 27 #[.int .i64 a, .int .i64 b, .int .i64 c] ∧ Blk wr (w.heap.size + 1) 27 #[.int .i64 0, .int .i64 0, .int .i64 0] ∧ Below w.heap.size w wr) (fun i _ => L.length - (intOf i).toNat)
  case atStart => exact ⟨0, x, y, z, by omega, rfl, by rw [List.drop_zero]; exact HR.out, Blk.alloc (Blk.new _ _ _) _, by simpa using Blk.new (w.alloc _) _ _, ((Below.refl _ _).alloc (Nat.le_refl _) _).alloc (by simp) _⟩
  case round =>
    obtain ⟨k, a, b, c, hk, rfl, hd, d1, d2, hbr⟩ := hrel
    have hlt1 := Blk.lt d1
    have hlt2 := Blk.lt d2
    have z0 := Blk.cell d1 0
    have z1 := Blk.cell d1 1
    have z2 := Blk.cell d1 2
    have t0 := Blk.cell d2 0
    have t1 := Blk.cell d2 1
    have t2 := Blk.cell d2 2
    have y0 := Blk.frozen d2 0
    have y1 := Blk.frozen d2 1
    have y2 := Blk.frozen d2 2
    have f0 := Blk.frozen d1 0
    have f1 := Blk.frozen d1 1
    have f2 := Blk.frozen d1 2
    simp at z0 z1 z2 t0 t1 t2
    by_cases hlt : k < L.length
    · obtain ⟨b0, off, rfl, hbl, c0, c1, x1, x2⟩ := HL.out.2.2 k hlt
      rw [← hbr.cell (p := ⟨b0, off + k * 2, none⟩) hbl] at c0
      rw [← hbr.cell (p := ⟨b0, off + k * 2 + 1, none⟩) hbl] at c1
      have hdr : L.drop k = (L[k].1, L[k].2) :: L.drop (k + 1) := List.drop_eq_getElem_cons hlt
      generalize L[k].1 = id at *
      generalize L[k].2 = v at *
      have hd' := hd.out
      rw [hdr] at hd'
      unfold app at hd'
      clear hd hdr
      by_cases hv : v < 0 ∨ 2147483647 < v
      · rw [if_pos hv] at hd'
        have HD := Lib.hid hd'
        clear hd'
        by_cases hv1 : v < 0
        · clear hv
          go_wp2_with fail
          refine ret_cell3_tmp (g := w.heap.size + 1) rfl rfl rfl (Blk.set_ (Blk.set_ (Blk.set_ d2 0 (.int .i64 0)) 1 (.int .i64 0)) 2 (.int .i64 0)) (fun W' q0 q1 q2 => by simp [go_sem, q0, q1, q2]) ⟨?_, ?_⟩
          · rw [← HD.out]
            rfl
          · exact ((hbr.setCell (p := ⟨w.heap.size + 1, 0, none⟩) (by simp) _).setCell (p := ⟨w.heap.size + 1, 1, none⟩) (by simp) _).setCell (p := ⟨w.heap.size + 1, 2, none⟩) (by simp) _
        · have hv2 : 2147483647 < v := by omega
          clear hv
          go_wp2_with fail
          refine ret_cell3_tmp (g := w.heap.size + 1) rfl rfl rfl (Blk.set_ (Blk.set_ (Blk.set_ d2 0 (.int .i64 0)) 1 (.int .i64 0)) 2 (.int .i64 0)) (fun W' q0 q1 q2 => by simp [go_sem, q0, q1, q2]) ⟨?_, ?_⟩
          · rw [← HD.out]
            rfl
          · exact ((hbr.setCell (p := ⟨w.heap.size + 1, 0, none⟩) (by simp) _).setCell (p := ⟨w.heap.size + 1, 1, none⟩) (by simp) _).setCell (p := ⟨w.heap.size + 1, 2, none⟩) (by simp) _
      · rw [if_neg hv] at hd'
        have hv1 : 0 ≤ v := by omega
        have hv2 : v ≤ 2147483647 := by omega
        clear hv
        by_cases i1 : id = 1
        · subst i1
          rw [show setP a b c 1 v = (v, b, c) by simp [setP]] at hd'
          have HD := Lib.hid hd'
          clear hd'
          go_wp2_with fail
          go_roundw
          case rel => exact ⟨k + 1, v, b, c, by omega, by go_num, HD.out, Blk.set_ (Blk.set_ (Blk.set_ d1 0 (.int .i64 v)) 1 (.int .i64 b)) 2 (.int .i64 c), Blk.far (Blk.far (Blk.far d2 (p := ⟨w.heap.size, 0, none⟩) (by simp) _) (p := ⟨w.heap.size, 1, none⟩) (by simp) _) (p := ⟨w.heap.size, 2, none⟩) (by simp) _, ((hbr.setCell (p := ⟨w.heap.size, 0, none⟩) (by simp) _).setCell (p := ⟨w.heap.size, 1, none⟩) (by simp) _).setCell (p := ⟨w.heap.size, 2, none⟩) (by simp) _⟩
          case measure => simp [intOf]; omega
        · by_cases i2 : id = 2
          · subst i2
            rw [show setP a b c 2 v = (a, v, c) by simp [setP]] at hd'
            have HD := Lib.hid hd'
            clear hd'
            go_wp2_with fail
            go_roundw
            case rel => exact ⟨k + 1, a, v, c, by omega, by go_num, HD.out, Blk.set_ (Blk.set_ (Blk.set_ d1 0 (.int .i64 a)) 1 (.int .i64 v)) 2 (.int .i64 c), Blk.far (Blk.far (Blk.far d2 (p := ⟨w.heap.size, 0, none⟩) (by simp) _) (p := ⟨w.heap.size, 1, none⟩) (by simp) _) (p := ⟨w.heap.size, 2, none⟩) (by simp) _, ((hbr.setCell (p := ⟨w.heap.size, 0, none⟩) (by simp) _).setCell (p := ⟨w.heap.size, 1, none⟩) (by simp) _).setCell (p := ⟨w.heap.size, 2, none⟩) (by simp) _⟩
            case measure => simp [intOf]; omega
          · by_cases i3 : id = 3
            · subst i3
              rw [show setP a b c 3 v = (a, b, v) by simp [setP]] at hd'
              have HD := Lib.hid hd'
              clear hd'
              go_wp2_with fail
              go_roundw
              case rel => exact ⟨k + 1, a, b, v, by omega, by go_num, HD.out, Blk.set_ (Blk.set_ (Blk.set_ d1 0 (.int .i64 a)) 1 (.int .i64 b)) 2 (.int .i64 v), Blk.far (Blk.far (Blk.far d2 (p := ⟨w.heap.size, 0, none⟩) (by simp) _) (p := ⟨w.heap.size, 1, none⟩) (by simp) _) (p := ⟨w.heap.size, 2, none⟩) (by simp) _, ((hbr.setCell (p := ⟨w.heap.size, 0, none⟩) (by simp) _).setCell (p := ⟨w.heap.size, 1, none⟩) (by simp) _).setCell (p := ⟨w.heap.size, 2, none⟩) (by simp) _⟩
              case measure => simp [intOf]; omega
            · rw [show setP a b c id v = (a, b, c) by simp [setP, i1, i2, i3]] at hd'
              have HD := Lib.hid hd'
              have e1 : (id == 1) = false := by simp [i1]
              have e2 : (id == 2) = false := by simp [i2]
              have e3 : (id == 3) = false := by simp [i3]
              clear hd' i1 i2 i3
              go_wp2_with fail
              go_roundw
              case rel => exact ⟨k + 1, a, b, c, by omega, by go_num, HD.out, d1, d2, hbr⟩
              case measure => simp [intOf]; omega
    · obtain rfl : k = L.length := by omega
      have hd' := hd.out
      rw [List.drop_length] at hd'
      unfold app at hd'
      have HD := Lib.hid hd'
      clear hd hd'
      go_wp2_with fail
      refine ret_cell3_tmp (g := w.heap.size + 1) rfl rfl rfl (Blk.set_ (Blk.set_ (Blk.set_ d2 0 (.int .i64 a)) 1 (.int .i64 b)) 2 (.int .i64 c)) (fun W' q0 q1 q2 => by simp [go_sem, q0, q1, q2]) ⟨?_, ?_⟩
      · rw [← HD.out]
        rfl
      · exact ((hbr.setCell (p := ⟨w.heap.size + 1, 0, none⟩) (by simp) _).setCell (p := ⟨w.heap.size + 1, 1, none⟩) (by simp) _).setCell (p := ⟨w.heap.size + 1, 2, none⟩) (by simp) _

theorem rright_any (x y z : Int) (w : World) :
    Calls Try.prog 9 #[.agg #[.int .i64 x, .int .i64 y, .int .i64 z]] w fun e w' => e = .returned (.bool (rightB x y z)) ∧ Below w.heap.size w w' := by
  by_cases x1 : x < 0
  · rw [show rightB x y z = false by simp [rightB]; omega]
    go_enter Try.func9, Try.ntmps9
    go_wp2
    go_ret
    exact ⟨rfl, (Below.refl _ _).alloc (Nat.le_refl _) _⟩
  by_cases x2 : 4096 < x
  · rw [show rightB x y z = false by simp [rightB]; omega]
    go_enter Try.func9, Try.ntmps9
    go_wp2
    go_ret
    exact ⟨rfl, (Below.refl _ _).alloc (Nat.le_refl _) _⟩
  by_cases y1 : y < 0
  · rw [show rightB x y z = false by simp [rightB]; omega]
    go_enter Try.func9, Try.ntmps9
    go_wp2
    go_ret
    exact ⟨rfl, (Below.refl _ _).alloc (Nat.le_refl _) _⟩
  by_cases y2 : 32 < y
  · rw [show rightB x y z = false by simp [rightB]; omega]
    go_enter Try.func9, Try.ntmps9
    go_wp2
    go_ret
    exact ⟨rfl, (Below.refl _ _).alloc (Nat.le_refl _) _⟩
  by_cases z1 : z < 0
  · rw [show rightB x y z = false by simp [rightB]; omega]
    go_enter Try.func9, Try.ntmps9
    go_wp2
    go_ret
    exact ⟨rfl, (Below.refl _ _).alloc (Nat.le_refl _) _⟩
  by_cases z2 : 64 < z
  · rw [show rightB x y z = false by simp [rightB]; omega]
    go_enter Try.func9, Try.ntmps9
    go_wp2
    go_ret
    exact ⟨ret_bool (by first | (simp; done) | (simp; omega)), (Below.refl _ _).alloc (Nat.le_refl _) _⟩
  rw [show rightB x y z = true by simp [rightB]; omega]
  go_enter Try.func9, Try.ntmps9
  go_wp2
  go_ret
  exact ⟨ret_bool (by first | (simp; done) | (simp; omega)), (Below.refl _ _).alloc (Nat.le_refl _) _⟩
end Go.Proofs.Ytdegdikkjaifiaa
