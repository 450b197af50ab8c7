/- The walks of package params, and of its reference. -/
import Derived.Test.YtgmnhiofenpafaaRows
import Derived.WalkKit
import Derived.ProofKit
import Derived.Handy
import Derived.Test.YtgmnhiofenpafaaMem
import Derived.Test.YtgmnhiofenpafaaLift
import Derived.Test.YtgmnhiofenpafaaApp
import Derived.Deep.QuietTactic
import Derived.BigQuiet
import Derived.Deep.RegionWith
import Derived.WalkLawsBesides
import Derived.Laws.ResultCell
import Derived.WalkSmall
namespace Go.Proofs.Ytgmnhiofenpafaa
open Go.RowKit
set_option linter.unusedVariables false

/-- A setting laid into settings. -/
def setP (x y z i v : Int) : Int × Int × Int := if i = 1 then (v, y, z) else if i = 2 then (x, v, z) else if i = 3 then (x, y, v) else (x, y, z)
/-- Settings with others. -/
def app (x y z : Int) : List (Int × Int) → (Int × Int × Int) × Int
  | [] => ((x, y, z), 0)
  | (i, v) :: r => if v < 0 ∨ 2147483647 < v then ((0, 0, 0), 4) else app (setP x y z i v).1 (setP x y z i v).2.1 (setP x y z i v).2.2 r

/-- A slice of pairs of ints, as a list. -/
def Pairs (w : World) (A : Option Addr) (cap : Nat) (L : List (Int × Int)) : Prop :=
  L.length ≤ cap ∧ cap ≤ 9223372036854775807 ∧ ∀ (i : Nat) (h : i < L.length), ∃ b off, A = some ⟨b, off, none⟩ ∧ b < w.heap.size ∧ w.cell? ⟨b, off + i * 2, none⟩ = some (.int .i64 (L[i]'h).1) ∧ w.cell? ⟨b, off + i * 2 + 1, none⟩ = some (.int .i64 (L[i]'h).2) ∧
    (-9223372036854775808 ≤ (L[i]'h).1 ∧ (L[i]'h).1 ≤ 9223372036854775807) ∧ (-9223372036854775808 ≤ (L[i]'h).2 ∧ (L[i]'h).2 ≤ 9223372036854775807)

theorem Pairs.below {w w' : World} {A : Option Addr} {cap : Nat} {L : List (Int × Int)} (h : Pairs w A cap L) (hb : Below w.heap.size w w') : Pairs w' A cap L := by
  refine ⟨h.1, h.2.1, fun i hi => ?_⟩
  obtain ⟨b, off, hA, hlt, h1, h2, h3, h4⟩ := h.2.2 i hi
  exact ⟨b, off, hA, Nat.lt_of_lt_of_le hlt hb.size, (hb.cell (p := ⟨b, off + i * 2, none⟩) hlt).trans h1, (hb.cell (p := ⟨b, off + i * 2 + 1, none⟩) hlt).trans h2, h3, h4⟩

theorem within_any (n m : Int) (w : World) :
    Calls Try.prog 13 #[.int .i64 n, .int .i64 m] w fun e w' => e = .returned (.bool (decide (0 ≤ n ∧ n ≤ m))) ∧ w = w' := by
  by_cases h0 : n < 0
  · rw [show decide (0 ≤ n ∧ n ≤ m) = false by simp; omega]
    go_enter Try.func13, Try.ntmps13
    go_wp2
    go_ret
    exact ⟨rfl, rfl⟩
  · by_cases h1 : n ≤ m
    · rw [show decide (0 ≤ n ∧ n ≤ m) = true by simp; omega]
      go_enter Try.func13, Try.ntmps13
      go_wp2
      go_ret
      exact ⟨rfl, rfl⟩
    · rw [show decide (0 ≤ n ∧ n ≤ m) = false by simp; omega]
      go_enter Try.func13, Try.ntmps13
      go_wp2
      go_ret
      exact ⟨rfl, rfl⟩

theorem first_any (w : World) :
    Calls Try.prog 14 #[] w fun e w' => e = .returned (.agg #[.int .i64 64, .int .i64 8, .int .i64 4]) ∧ Below w.heap.size w w' := by
  go_enter Try.func14, Try.ntmps14
  go_wp2
  go_returns
  exact ⟨rfl, (Below.refl _ _).alloc (Nat.le_refl _) _⟩

def Applied (w : World) (r : (Int × Int × Int) × Int) (e : Ending) (w' : World) : Prop :=
  e = .returned (.tuple #[.agg #[.int .i64 r.1.1, .int .i64 r.1.2.1, .int .i64 r.1.2.2], .int .i64 r.2]) ∧ Below w.heap.size w w'

set_option maxHeartbeats 4000000 in
theorem apply_any (x y z : Int) (A : Option Addr) (cap : Nat) (L : List (Int × Int)) (w : World) (hL : Pairs w A cap L) :
    Calls Try.prog 7 #[.agg #[.int .i64 x, .int .i64 y, .int .i64 z], .slice A L.length cap] w (Applied w (app x y z L)) := by
  have hL1 := hL.1
  have hL2 := hL.2.1
  have HL := Lib.hid hL
  clear hL
  generalize hr : app x y z L = r
  have HR := Lib.hid hr
  clear hr
  go_enter Try.func7, Try.ntmps7
  go_wp2_with fail
  go_loopw [10] (fun iv wr => ∃ (k : Nat) (a b c : Int), k ≤ L.length ∧ iv = .int .i64 k ∧ Hid (app a b c (L.drop k) = r) ∧ Blk wr w.heap.size 23 #[.int .i64 a, .int .i64 b, .int .i64 c] ∧ Blk wr (w.heap.size + 1) 23 #[.int .i64 0, .int .i64 0, .int .i64 0] ∧ Below w.heap.size w wr) (fun i _ => L.length - (intOf i).toNat)
  case atStart => exact ⟨0, x, y, z, by omega, rfl, by rw [List.drop_zero]; exact HR.out, Blk.alloc (Blk.new _ _ _) _, by simpa using Blk.new (w.alloc _) _ _, ((Below.refl _ _).alloc (Nat.le_refl _) _).alloc (by simp) _⟩
  case round =>
    obtain ⟨k, a, b, c, hk, rfl, hd, d1, d2, hbr⟩ := hrel
    have hlt1 := Blk.lt d1
    have hlt2 := Blk.lt d2
    by_cases hlt : k < L.length
    · obtain ⟨b0, off, rfl, hbl, c0, c1, x1, x2⟩ := HL.out.2.2 k hlt
      rw [← hbr.cell (p := ⟨b0, off + k * 2, none⟩) hbl] at c0
      rw [← hbr.cell (p := ⟨b0, off + k * 2 + 1, none⟩) hbl] at c1
      have hdr : L.drop k = (L[k].1, L[k].2) :: L.drop (k + 1) := List.drop_eq_getElem_cons hlt
      generalize L[k].1 = id at *
      generalize L[k].2 = v at *
      have hd' := hd.out
      rw [hdr] at hd'
      unfold app at hd'
      clear hd hdr
      by_cases hv : v < 0 ∨ 2147483647 < v
      · rw [if_pos hv] at hd'
        have hW := fun W => within_any v 2147483647 W
        rw [show decide (0 ≤ v ∧ v ≤ 2147483647) = false by simp; omega] at hW
        have HW := Lib.hid hW
        have HD := Lib.hid hd'
        clear hW hd' hv
        have t0 := Blk.cell d2 0
        have t1 := Blk.cell d2 1
        have t2 := Blk.cell d2 2
        have y0 := Blk.frozen d2 0
        have y1 := Blk.frozen d2 1
        have y2 := Blk.frozen d2 2
        simp at t0 t1 t2
        go_wp2_with fail
        refine (HW.out _).mono ?_
        rintro e w1 ⟨rfl, rfl⟩
        go_wp2_with fail
        refine ret_cell3_tmp (g := w.heap.size + 1) rfl rfl rfl (Blk.alloc (Blk.set_ (Blk.set_ (Blk.set_ d2 0 (.int .i64 0)) 1 (.int .i64 0)) 2 (.int .i64 0)) _) (fun W' q0 q1 q2 => by simp [go_sem, q0, q1, q2]) ⟨?_, ?_⟩
        · rw [← HD.out]
          rfl
        · exact (((hbr.setCell (p := ⟨w.heap.size + 1, 0, none⟩) (by simp) _).setCell (p := ⟨w.heap.size + 1, 1, none⟩) (by simp) _).setCell (p := ⟨w.heap.size + 1, 2, none⟩) (by simp) _).alloc (by simpa [World.setCell] using hbr.size) _
      · rw [if_neg hv] at hd'
        have hv1 : 0 ≤ v := by omega
        have hv2 : v ≤ 2147483647 := by omega
        have hW := fun W => within_any v 2147483647 W
        rw [show decide (0 ≤ v ∧ v ≤ 2147483647) = true by simp; omega] at hW
        have HW := Lib.hid hW
        clear hW hv
        by_cases i1 : id = 1
        · subst i1
          rw [show setP a b c 1 v = (v, b, c) by simp [setP]] at hd'
          have HD := Lib.hid hd'
          clear hd'
          go_wp2_with fail
          refine (HW.out _).mono ?_
          rintro e w1 ⟨rfl, rfl⟩
          have e1 : Blk (wr.alloc (.cells #[.int .i64 1, .int .i64 v] 27)) w.heap.size 23 #[.int .i64 a, .int .i64 b, .int .i64 c] := Blk.alloc d1 _
          have y0 := Blk.frozen e1 0
          have y1 := Blk.cell e1 0
          simp at y1
          go_wp2_with fail
          go_roundw
          case rel => exact ⟨k + 1, v, b, c, by omega, by go_num, HD.out, (Blk.set_ d1 0 _).alloc _, (Blk.far d2 (p := ⟨w.heap.size, 0, none⟩) (by simp) _).alloc _, (hbr.setCell (p := ⟨w.heap.size, 0, none⟩) (by simp) _).alloc (by simpa [World.setCell] using hbr.size) _⟩
          case measure => simp [intOf]; omega
        · by_cases i2 : id = 2
          · subst i2
            rw [show setP a b c 2 v = (a, v, c) by simp [setP]] at hd'
            have HD := Lib.hid hd'
            clear hd'
            go_wp2_with fail
            refine (HW.out _).mono ?_
            rintro e w1 ⟨rfl, rfl⟩
            have e1 : Blk (wr.alloc (.cells #[.int .i64 2, .int .i64 v] 27)) w.heap.size 23 #[.int .i64 a, .int .i64 b, .int .i64 c] := Blk.alloc d1 _
            have y0 := Blk.frozen e1 1
            have y1 := Blk.cell e1 1
            simp at y1
            go_wp2_with fail
            go_roundw
            case rel => exact ⟨k + 1, a, v, c, by omega, by go_num, HD.out, (Blk.set_ d1 1 _).alloc _, (Blk.far d2 (p := ⟨w.heap.size, 1, none⟩) (by simp) _).alloc _, (hbr.setCell (p := ⟨w.heap.size, 1, none⟩) (by simp) _).alloc (by simpa [World.setCell] using hbr.size) _⟩
            case measure => simp [intOf]; omega
          · by_cases i3 : id = 3
            · subst i3
              rw [show setP a b c 3 v = (a, b, v) by simp [setP]] at hd'
              have HD := Lib.hid hd'
              clear hd'
              go_wp2_with fail
              refine (HW.out _).mono ?_
              rintro e w1 ⟨rfl, rfl⟩
              have e1 : Blk (wr.alloc (.cells #[.int .i64 3, .int .i64 v] 27)) w.heap.size 23 #[.int .i64 a, .int .i64 b, .int .i64 c] := Blk.alloc d1 _
              have y0 := Blk.frozen e1 2
              have y1 := Blk.cell e1 2
              simp at y1
              go_wp2_with fail
              go_roundw
              case rel => exact ⟨k + 1, a, b, v, by omega, by go_num, HD.out, (Blk.set_ d1 2 _).alloc _, (Blk.far d2 (p := ⟨w.heap.size, 2, none⟩) (by simp) _).alloc _, (hbr.setCell (p := ⟨w.heap.size, 2, none⟩) (by simp) _).alloc (by simpa [World.setCell] using hbr.size) _⟩
              case measure => simp [intOf]; omega
            · rw [show setP a b c id v = (a, b, c) by simp [setP, i1, i2, i3]] at hd'
              have HD := Lib.hid hd'
              have e1 : (id == 1) = false := by simp [i1]
              have e2 : (id == 2) = false := by simp [i2]
              have e3 : (id == 3) = false := by simp [i3]
              clear hd' i1 i2 i3
              go_wp2_with fail
              refine (HW.out _).mono ?_
              rintro e w1 ⟨rfl, rfl⟩
              go_wp2_with fail
              go_roundw
              case rel => exact ⟨k + 1, a, b, c, by omega, by go_num, HD.out, Blk.alloc d1 _, Blk.alloc d2 _, hbr.alloc hbr.size _⟩
              case measure => simp [intOf]; omega
    · obtain rfl : k = L.length := by omega
      have hd' := hd.out
      rw [List.drop_length] at hd'
      unfold app at hd'
      have HD := Lib.hid hd'
      clear hd hd'
      have z0 := Blk.cell d1 0
      have z1 := Blk.cell d1 1
      have z2 := Blk.cell d1 2
      have t0 := Blk.cell d2 0
      have t1 := Blk.cell d2 1
      have t2 := Blk.cell d2 2
      have y0 := Blk.frozen d2 0
      have y1 := Blk.frozen d2 1
      have y2 := Blk.frozen d2 2
      simp at z0 z1 z2 t0 t1 t2
      go_wp2_with fail
      refine ret_cell3_tmp (g := w.heap.size + 1) rfl rfl rfl (Blk.set_ (Blk.set_ (Blk.set_ d2 0 (.int .i64 a)) 1 (.int .i64 b)) 2 (.int .i64 c)) (fun W' q0 q1 q2 => by simp [go_sem, q0, q1, q2]) ⟨?_, ?_⟩
      · rw [← HD.out]
        rfl
      · exact ((hbr.setCell (p := ⟨w.heap.size + 1, 0, none⟩) (by simp) _).setCell (p := ⟨w.heap.size + 1, 1, none⟩) (by simp) _).setCell (p := ⟨w.heap.size + 1, 2, none⟩) (by simp) _
set_option maxHeartbeats 4000000 in
theorem rapply_any (x y z : Int) (A : Option Addr) (cap : Nat) (L : List (Int × Int)) (w : World) (hL : Pairs w A cap L) :
    Calls Try.prog 8 #[.agg #[.int .i64 x, .int .i64 y, .int .i64 z], .slice A L.length cap] w (Applied w (app x y z L)) := by
  have hL1 := hL.1
  have hL2 := hL.2.1
  have HL := Lib.hid hL
  clear hL
  generalize hr : app x y z L = r
  have HR := Lib.hid hr
  clear hr
  go_enter Try.func8, Try.ntmps8
  go_wp2_with fail
  go_loopw [6] (fun iv wr => ∃ (k : Nat) (a b c : Int), k ≤ L.length ∧ iv = .int .i64 k ∧ Hid (app a b c (L.drop k) = r) ∧ Blk wr w.heap.size 23 #[.int .i64 a, .int .i64 b, .int .i64 c] ∧ Blk wr (w.heap.size + 1) 23 #[.int .i64 0, .int .i64 0, .int .i64 0] ∧ Below w.heap.size w wr) (fun i _ => L.length - (intOf i).toNat)
  case atStart => exact ⟨0, x, y, z, by omega, rfl, by rw [List.drop_zero]; exact HR.out, Blk.alloc (Blk.new _ _ _) _, by simpa using Blk.new (w.alloc _) _ _, ((Below.refl _ _).alloc (Nat.le_refl _) _).alloc (by simp) _⟩
  case round =>
    obtain ⟨k, a, b, c, hk, rfl, hd, d1, d2, hbr⟩ := hrel
    have hlt1 := Blk.lt d1
    have hlt2 := Blk.lt d2
    have z0 := Blk.cell d1 0
    have z1 := Blk.cell d1 1
    have z2 := Blk.cell d1 2
    have t0 := Blk.cell d2 0
    have t1 := Blk.cell d2 1
    have t2 := Blk.cell d2 2
    have y0 := Blk.frozen d2 0
    have y1 := Blk.frozen d2 1
    have y2 := Blk.frozen d2 2
    have f0 := Blk.frozen d1 0
    have f1 := Blk.frozen d1 1
    have f2 := Blk.frozen d1 2
    simp at z0 z1 z2 t0 t1 t2
    by_cases hlt : k < L.length
    · obtain ⟨b0, off, rfl, hbl, c0, c1, x1, x2⟩ := HL.out.2.2 k hlt
      rw [← hbr.cell (p := ⟨b0, off + k * 2, none⟩) hbl] at c0
      rw [← hbr.cell (p := ⟨b0, off + k * 2 + 1, none⟩) hbl] at c1
      have hdr : L.drop k = (L[k].1, L[k].2) :: L.drop (k + 1) := List.drop_eq_getElem_cons hlt
      generalize L[k].1 = id at *
      generalize L[k].2 = v at *
      have hd' := hd.out
      rw [hdr] at hd'
      unfold app at hd'
      clear hd hdr
      by_cases hv : v < 0 ∨ 2147483647 < v
      · rw [if_pos hv] at hd'
        have HD := Lib.hid hd'
        clear hd'
        by_cases hv1 : v < 0
        · clear hv
          go_wp2_with fail
          refine ret_cell3_tmp (g := w.heap.size + 1) rfl rfl rfl (Blk.set_ (Blk.set_ (Blk.set_ d2 0 (.int .i64 0)) 1 (.int .i64 0)) 2 (.int .i64 0)) (fun W' q0 q1 q2 => by simp [go_sem, q0, q1, q2]) ⟨?_, ?_⟩
          · rw [← HD.out]
            rfl
          · exact ((hbr.setCell (p := ⟨w.heap.size + 1, 0, none⟩) (by simp) _).setCell (p := ⟨w.heap.size + 1, 1, none⟩) (by simp) _).setCell (p := ⟨w.heap.size + 1, 2, none⟩) (by simp) _
        · have hv2 : 2147483647 < v := by omega
          clear hv
          go_wp2_with fail
          refine ret_cell3_tmp (g := w.heap.size + 1) rfl rfl rfl (Blk.set_ (Blk.set_ (Blk.set_ d2 0 (.int .i64 0)) 1 (.int .i64 0)) 2 (.int .i64 0)) (fun W' q0 q1 q2 => by simp [go_sem, q0, q1, q2]) ⟨?_, ?_⟩
          · rw [← HD.out]
            rfl
          · exact ((hbr.setCell (p := ⟨w.heap.size + 1, 0, none⟩) (by simp) _).setCell (p := ⟨w.heap.size + 1, 1, none⟩) (by simp) _).setCell (p := ⟨w.heap.size + 1, 2, none⟩) (by simp) _
      · rw [if_neg hv] at hd'
        have hv1 : 0 ≤ v := by omega
        have hv2 : v ≤ 2147483647 := by omega
        clear hv
        by_cases i1 : id = 1
        · subst i1
          rw [show setP a b c 1 v = (v, b, c) by simp [setP]] at hd'
          have HD := Lib.hid hd'
          clear hd'
          go_wp2_with fail
          go_roundw
          case rel => exact ⟨k + 1, v, b, c, by omega, by go_num, HD.out, Blk.set_ (Blk.set_ (Blk.set_ d1 0 (.int .i64 v)) 1 (.int .i64 b)) 2 (.int .i64 c), Blk.far (Blk.far (Blk.far d2 (p := ⟨w.heap.size, 0, none⟩) (by simp) _) (p := ⟨w.heap.size, 1, none⟩) (by simp) _) (p := ⟨w.heap.size, 2, none⟩) (by simp) _, ((hbr.setCell (p := ⟨w.heap.size, 0, none⟩) (by simp) _).setCell (p := ⟨w.heap.size, 1, none⟩) (by simp) _).setCell (p := ⟨w.heap.size, 2, none⟩) (by simp) _⟩
          case measure => simp [intOf]; omega
        · by_cases i2 : id = 2
          · subst i2
            rw [show setP a b c 2 v = (a, v, c) by simp [setP]] at hd'
            have HD := Lib.hid hd'
            clear hd'
            go_wp2_with fail
            go_roundw
            case rel => exact ⟨k + 1, a, v, c, by omega, by go_num, HD.out, Blk.set_ (Blk.set_ (Blk.set_ d1 0 (.int .i64 a)) 1 (.int .i64 v)) 2 (.int .i64 c), Blk.far (Blk.far (Blk.far d2 (p := ⟨w.heap.size, 0, none⟩) (by simp) _) (p := ⟨w.heap.size, 1, none⟩) (by simp) _) (p := ⟨w.heap.size, 2, none⟩) (by simp) _, ((hbr.setCell (p := ⟨w.heap.size, 0, none⟩) (by simp) _).setCell (p := ⟨w.heap.size, 1, none⟩) (by simp) _).setCell (p := ⟨w.heap.size, 2, none⟩) (by simp) _⟩
            case measure => simp [intOf]; omega
          · by_cases i3 : id = 3
            · subst i3
              rw [show setP a b c 3 v = (a, b, v) by simp [setP]] at hd'
              have HD := Lib.hid hd'
              clear hd'
              go_wp2_with fail
              go_roundw
              case rel => exact ⟨k + 1, a, b, v, by omega, by go_num, HD.out, Blk.set_ (Blk.set_ (Blk.set_ d1 0 (.int .i64 a)) 1 (.int .i64 b)) 2 (.int .i64 v), Blk.far (Blk.far (Blk.far d2 (p := ⟨w.heap.size, 0, none⟩) (by simp) _) (p := ⟨w.heap.size, 1, none⟩) (by simp) _) (p := ⟨w.heap.size, 2, none⟩) (by simp) _, ((hbr.setCell (p := ⟨w.heap.size, 0, none⟩) (by simp) _).setCell (p := ⟨w.heap.size, 1, none⟩) (by simp) _).setCell (p := ⟨w.heap.size, 2, none⟩) (by simp) _⟩
              case measure => simp [intOf]; omega
            · rw [show setP a b c id v = (a, b, c) by simp [setP, i1, i2, i3]] at hd'
              have HD := Lib.hid hd'
              have e1 : (id == 1) = false := by simp [i1]
              have e2 : (id == 2) = false := by simp [i2]
              have e3 : (id == 3) = false := by simp [i3]
              clear hd' i1 i2 i3
              go_wp2_with fail
              go_roundw
              case rel => exact ⟨k + 1, a, b, c, by omega, by go_num, HD.out, d1, d2, hbr⟩
              case measure => simp [intOf]; omega
    · obtain rfl : k = L.length := by omega
      have hd' := hd.out
      rw [List.drop_length] at hd'
      unfold app at hd'
      have HD := Lib.hid hd'
      clear hd hd'
      go_wp2_with fail
      refine ret_cell3_tmp (g := w.heap.size + 1) rfl rfl rfl (Blk.set_ (Blk.set_ (Blk.set_ d2 0 (.int .i64 a)) 1 (.int .i64 b)) 2 (.int .i64 c)) (fun W' q0 q1 q2 => by simp [go_sem, q0, q1, q2]) ⟨?_, ?_⟩
      · rw [← HD.out]
        rfl
      · exact ((hbr.setCell (p := ⟨w.heap.size + 1, 0, none⟩) (by simp) _).setCell (p := ⟨w.heap.size + 1, 1, none⟩) (by simp) _).setCell (p := ⟨w.heap.size + 1, 2, none⟩) (by simp) _

/-- May settings be one's own? -/
def rightB (x y z : Int) : Bool := decide (0 ≤ x ∧ x ≤ 4096) && decide (0 ≤ y ∧ y ≤ 32) && decide (0 ≤ z ∧ z ≤ 64)

theorem check_any (x y z : Int) (w : World) :
    Calls Try.prog 10 #[.agg #[.int .i64 x, .int .i64 y, .int .i64 z]] w fun e w' => e = .returned (.int .i64 (if rightB x y z then 0 else 3)) ∧ Below w.heap.size w w' := by
  have hX := fun W => within_any x 4096 W
  have hY := fun W => within_any y 32 W
  have hZ := fun W => within_any z 64 W
  unfold rightB
  generalize decide (0 ≤ x ∧ x ≤ 4096) = bx at *
  generalize decide (0 ≤ y ∧ y ≤ 32) = by_ at *
  generalize decide (0 ≤ z ∧ z ≤ 64) = bz at *
  have HX := Lib.hid hX
  have HY := Lib.hid hY
  have HZ := Lib.hid hZ
  clear hX hY hZ
  cases bx
  · go_enter Try.func10, Try.ntmps10
    go_wp2_with fail
    refine (HX.out _).mono ?_
    rintro e w1 ⟨rfl, rfl⟩
    go_wp2_with fail
    go_ret
    exact ⟨rfl, (Below.refl _ _).alloc (Nat.le_refl _) _⟩
  · cases by_
    · go_enter Try.func10, Try.ntmps10
      go_wp2_with fail
      refine (HX.out _).mono ?_
      rintro e w1 ⟨rfl, rfl⟩
      go_wp2_with fail
      refine (HY.out _).mono ?_
      rintro e w1 ⟨rfl, rfl⟩
      go_wp2_with fail
      go_ret
      exact ⟨rfl, (Below.refl _ _).alloc (Nat.le_refl _) _⟩
    · cases bz
      · go_enter Try.func10, Try.ntmps10
        go_wp2_with fail
        refine (HX.out _).mono ?_
        rintro e w1 ⟨rfl, rfl⟩
        go_wp2_with fail
        refine (HY.out _).mono ?_
        rintro e w1 ⟨rfl, rfl⟩
        go_wp2_with fail
        refine (HZ.out _).mono ?_
        rintro e w1 ⟨rfl, rfl⟩
        go_wp2_with fail
        go_ret
        exact ⟨rfl, (Below.refl _ _).alloc (Nat.le_refl _) _⟩
      · go_enter Try.func10, Try.ntmps10
        go_wp2_with fail
        refine (HX.out _).mono ?_
        rintro e w1 ⟨rfl, rfl⟩
        go_wp2_with fail
        refine (HY.out _).mono ?_
        rintro e w1 ⟨rfl, rfl⟩
        go_wp2_with fail
        refine (HZ.out _).mono ?_
        rintro e w1 ⟨rfl, rfl⟩
        go_wp2_with fail
        go_ret
        exact ⟨rfl, (Below.refl _ _).alloc (Nat.le_refl _) _⟩

theorem rright_any (x y z : Int) (w : World) :
    Calls Try.prog 11 #[.agg #[.int .i64 x, .int .i64 y, .int .i64 z]] w fun e w' => e = .returned (.bool (rightB x y z)) ∧ Below w.heap.size w w' := by
  by_cases x1 : x < 0
  · rw [show rightB x y z = false by simp [rightB]; omega]
    go_enter Try.func11, Try.ntmps11
    go_wp2
    go_ret
    exact ⟨rfl, (Below.refl _ _).alloc (Nat.le_refl _) _⟩
  by_cases x2 : 4096 < x
  · rw [show rightB x y z = false by simp [rightB]; omega]
    go_enter Try.func11, Try.ntmps11
    go_wp2
    go_ret
    exact ⟨rfl, (Below.refl _ _).alloc (Nat.le_refl _) _⟩
  by_cases y1 : y < 0
  · rw [show rightB x y z = false by simp [rightB]; omega]
    go_enter Try.func11, Try.ntmps11
    go_wp2
    go_ret
    exact ⟨rfl, (Below.refl _ _).alloc (Nat.le_refl _) _⟩
  by_cases y2 : 32 < y
  · rw [show rightB x y z = false by simp [rightB]; omega]
    go_enter Try.func11, Try.ntmps11
    go_wp2
    go_ret
    exact ⟨rfl, (Below.refl _ _).alloc (Nat.le_refl _) _⟩
  by_cases z1 : z < 0
  · rw [show rightB x y z = false by simp [rightB]; omega]
    go_enter Try.func11, Try.ntmps11
    go_wp2
    go_ret
    exact ⟨rfl, (Below.refl _ _).alloc (Nat.le_refl _) _⟩
  by_cases z2 : 64 < z
  · rw [show rightB x y z = false by simp [rightB]; omega]
    go_enter Try.func11, Try.ntmps11
    go_wp2
    go_ret
    exact ⟨ret_bool (by first | (simp; done) | (simp; omega)), (Below.refl _ _).alloc (Nat.le_refl _) _⟩
  rw [show rightB x y z = true by simp [rightB]; omega]
  go_enter Try.func11, Try.ntmps11
  go_wp2
  go_ret
  exact ⟨ret_bool (by first | (simp; done) | (simp; omega)), (Below.refl _ _).alloc (Nat.le_refl _) _⟩
end Go.Proofs.Ytgmnhiofenpafaa
