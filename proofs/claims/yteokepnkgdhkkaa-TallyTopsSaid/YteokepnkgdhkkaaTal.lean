/- The walk of tally's plus. -/
import Derived.Test.YteokepnkgdhkkaaRows
import Derived.WalkKit
import Derived.ProofKit
import Derived.Handy
import Derived.Test.YteokepnkgdhkkaaMem
import Derived.Test.YteokepnkgdhkkaaLift
import Derived.Test.YteokepnkgdhkkaaApp
import Derived.Test.YteokepnkgdhkkaaReads
import Derived.Test.YteokepnkgdhkkaaOrd
import Derived.Test.YteokepnkgdhkkaaMaps
import Derived.Test.YteokepnkgdhkkaaTalB
import Derived.Deep.QuietTactic
import Derived.BigQuiet
import Derived.Deep.RegionWith
import Derived.Deep.RegionHeld3
import Derived.Deep.AppendLies
import Derived.WalkLawsBesides
import Derived.WalkSmall
namespace Go.Proofs.Yteokepnkgdhkkaa
open Go.RowKit
set_option linter.unusedVariables false
set_option maxHeartbeats 40000000 in
theorem plus_any (a b : Sm) (w : World) (ha : a.bd 576460752303423488) (hb : b.bd 576460752303423488) :
    Calls Try.prog 27 #[.agg (sa a), .agg (sa b)] w fun e w' => e = .returned (.agg (sa (Sm.add a b))) ∧ Below w.heap.size w w' := by
  obtain ⟨s, a1, a2, a3, p, q, a4, a5⟩ := a
  obtain ⟨s', b1, b2, b3, p', q', b4, b5⟩ := b
  unfold Sm.bd at ha hb
  simp only at ha hb
  have w1 : IntKind.i64.wrap (a1 + b1) = a1 + b1 := by rw [IntKind.wrap_i64]; omega
  have w2 : IntKind.i64.wrap (a2 + b2) = a2 + b2 := by rw [IntKind.wrap_i64]; omega
  have w3 : IntKind.i64.wrap (a3 + b3) = a3 + b3 := by rw [IntKind.wrap_i64]; omega
  have w4 : IntKind.i64.wrap (a4 + b4) = a4 + b4 := by rw [IntKind.wrap_i64]; omega
  have w5 : IntKind.i64.wrap (a5 + b5) = a5 + b5 := by rw [IntKind.wrap_i64]; omega
  simp only [sa, Sm.add]
  have x1 : -9223372036854775808 ≤ a1 + b1 := by omega
  have y1 : a1 + b1 ≤ 9223372036854775807 := by omega
  have x2 : -9223372036854775808 ≤ a2 + b2 := by omega
  have y2 : a2 + b2 ≤ 9223372036854775807 := by omega
  have x3 : -9223372036854775808 ≤ a3 + b3 := by omega
  have y3 : a3 + b3 ≤ 9223372036854775807 := by omega
  have x4 : -9223372036854775808 ≤ a4 + b4 := by omega
  have y4 : a4 + b4 ≤ 9223372036854775807 := by omega
  have x5 : -9223372036854775808 ≤ a5 + b5 := by omega
  have y5 : a5 + b5 ≤ 9223372036854775807 := by omega
  clear ha hb
  have zz := Blk.alloc (Blk.alloc (Blk.new w 33 #[.int .i64 s, .int .i64 (a1 + b1), .int .i64 (a2 + b2), .int .i64 (a3 + b3), .bool p, .bool q, .int .i64 a4, .int .i64 a5]) (.cells #[.int .i64 s', .int .i64 b1, .int .i64 b2, .int .i64 b3, .bool p', .bool q', .int .i64 b4, .int .i64 b5] 33)) (.cells #[.int .i64 0, .int .i64 0, .int .i64 0, .int .i64 0, .bool false, .bool false, .int .i64 0, .int .i64 0] 33)
  have yy := Blk.alloc (Blk.new (w.alloc (.cells #[.int .i64 s, .int .i64 (a1 + b1), .int .i64 (a2 + b2), .int .i64 (a3 + b3), .bool p, .bool q, .int .i64 a4, .int .i64 a5] 33)) 33 #[.int .i64 s', .int .i64 b1, .int .i64 b2, .int .i64 b3, .bool p', .bool q', .int .i64 b4, .int .i64 b5]) (.cells #[.int .i64 0, .int .i64 0, .int .i64 0, .int .i64 0, .bool false, .bool false, .int .i64 0, .int .i64 0] 33)
  have rr := Blk.new ((w.alloc (.cells #[.int .i64 s, .int .i64 (a1 + b1), .int .i64 (a2 + b2), .int .i64 (a3 + b3), .bool p, .bool q, .int .i64 a4, .int .i64 a5] 33)).alloc (.cells #[.int .i64 s', .int .i64 b1, .int .i64 b2, .int .i64 b3, .bool p', .bool q', .int .i64 b4, .int .i64 b5] 33)) 33 #[.int .i64 0, .int .i64 0, .int .i64 0, .int .i64 0, .bool false, .bool false, .int .i64 0, .int .i64 0]
  have BB : Below w.heap.size w (((w.alloc (.cells #[.int .i64 s, .int .i64 (a1 + b1), .int .i64 (a2 + b2), .int .i64 (a3 + b3), .bool p, .bool q, .int .i64 a4, .int .i64 a5] 33)).alloc (.cells #[.int .i64 s', .int .i64 b1, .int .i64 b2, .int .i64 b3, .bool p', .bool q', .int .i64 b4, .int .i64 b5] 33)).alloc (.cells #[.int .i64 0, .int .i64 0, .int .i64 0, .int .i64 0, .bool false, .bool false, .int .i64 0, .int .i64 0] 33)) := ((((Below.refl _ _).alloc (Nat.le_refl _) _).alloc (by simp) _).alloc (by simp; omega) _)
  rw [World.size_alloc] at yy rr
  rw [World.size_alloc] at rr
  have HH := Lib.hid (And.intro zz (And.intro yy (And.intro rr BB)))
  clear zz yy rr BB
  go_enter Try.func27, Try.ntmps27
  go_wp2_with fail
  generalize ((w.alloc (.cells #[.int .i64 s, .int .i64 (a1 + b1), .int .i64 (a2 + b2), .int .i64 (a3 + b3), .bool p, .bool q, .int .i64 a4, .int .i64 a5] 33)).alloc (.cells #[.int .i64 s', .int .i64 b1, .int .i64 b2, .int .i64 b3, .bool p', .bool q', .int .i64 b4, .int .i64 b5] 33)).alloc (.cells #[.int .i64 0, .int .i64 0, .int .i64 0, .int .i64 0, .bool false, .bool false, .int .i64 0, .int .i64 0] 33) = W at *
  generalize hG : w.heap.size = G at *
  have c0 := Blk.cell HH.out.1 0
  have c1 := Blk.cell HH.out.1 1
  have c2 := Blk.cell HH.out.1 2
  have c3 := Blk.cell HH.out.1 3
  have c4 := Blk.cell HH.out.1 4
  have c5 := Blk.cell HH.out.1 5
  have c6 := Blk.cell HH.out.1 6
  have c7 := Blk.cell HH.out.1 7
  have f4 := Blk.frozen HH.out.1 4
  have f5 := Blk.frozen HH.out.1 5
  have f6 := Blk.frozen HH.out.1 6
  have f7 := Blk.frozen HH.out.1 7
  have d4 := Blk.cell HH.out.2.1 4
  have d5 := Blk.cell HH.out.2.1 5
  have d6 := Blk.cell HH.out.2.1 6
  have d7 := Blk.cell HH.out.2.1 7
  have r0 := Blk.cell HH.out.2.2.1 0
  have g0 := Blk.frozen HH.out.2.2.1 0
  have r1 := Blk.cell HH.out.2.2.1 1
  have g1 := Blk.frozen HH.out.2.2.1 1
  have r2 := Blk.cell HH.out.2.2.1 2
  have g2 := Blk.frozen HH.out.2.2.1 2
  have r3 := Blk.cell HH.out.2.2.1 3
  have g3 := Blk.frozen HH.out.2.2.1 3
  have r4 := Blk.cell HH.out.2.2.1 4
  have g4 := Blk.frozen HH.out.2.2.1 4
  have r5 := Blk.cell HH.out.2.2.1 5
  have g5 := Blk.frozen HH.out.2.2.1 5
  have r6 := Blk.cell HH.out.2.2.1 6
  have g6 := Blk.frozen HH.out.2.2.1 6
  have r7 := Blk.cell HH.out.2.2.1 7
  have g7 := Blk.frozen HH.out.2.2.1 7
  simp at c0 c1 c2 c3 c4 c5 c6 c7 d4 d5 d6 d7 r0 r1 r2 r3 r4 r5 r6 r7
  cases p <;> cases q
  all_goals
    go_region
  all_goals go_wp2_with fail
  · clear c0 c1 c2 c3 c4 c5 c6 c7 d4 d5 d6 d7 f4 f5 f6 f7 r0 r1 r2 r3 r4 r5 r6 r7 g0 g1 g2 g3 g4 g5 g6 g7
    have hz : Blk W (G + 1 + 1) 33 (sa (Sm.zero 0)) := HH.out.2.2.1
    have hB := Blk.set8 ((((hz.far (p := ⟨G, 4, none⟩) (by simp; omega) (.bool p')).far (p := ⟨G, 5, none⟩) (by simp; omega) (.bool q')).far (p := ⟨G, 6, none⟩) (by simp; omega) (.int .i64 (a4 + b4))).far (p := ⟨G, 7, none⟩) (by simp; omega) (.int .i64 (a5 + b5))) ⟨s, a1 + b1, a2 + b2, a3 + b3, p', q', a4 + b4, a5 + b5⟩
    have hW := below_set8 ((((HH.out.2.2.2.setCell (p := ⟨G, 4, none⟩) (Nat.le_refl _) (.bool p')).setCell (p := ⟨G, 5, none⟩) (Nat.le_refl _) (.bool q')).setCell (p := ⟨G, 6, none⟩) (Nat.le_refl _) (.int .i64 (a4 + b4))).setCell (p := ⟨G, 7, none⟩) (Nat.le_refl _) (.int .i64 (a5 + b5))) (show G ≤ G + 1 + 1 by omega) ⟨s, a1 + b1, a2 + b2, a3 + b3, p', q', a4 + b4, a5 + b5⟩
    exact ret_cell8 (t := 33) (g := G + 1 + 1) (x := ⟨s, a1 + b1, a2 + b2, a3 + b3, p', q', a4 + b4, a5 + b5⟩) rfl rfl rfl hB.drew (fun W' h => load8 W' h) ⟨rfl, by rw [hG]; exact hW.drew⟩
  · clear c0 c1 c2 c3 c4 c5 c6 c7 d4 d5 d6 d7 f4 f5 f6 f7 r0 r1 r2 r3 r4 r5 r6 r7 g0 g1 g2 g3 g4 g5 g6 g7
    have hz : Blk W (G + 1 + 1) 33 (sa (Sm.zero 0)) := HH.out.2.2.1
    have hB := Blk.set8 ((((hz.far (p := ⟨G, 4, none⟩) (by simp; omega) (.bool p')).far (p := ⟨G, 5, none⟩) (by simp; omega) (.bool true)).far (p := ⟨G, 6, none⟩) (by simp; omega) (.int .i64 (a4 + b4))).far (p := ⟨G, 7, none⟩) (by simp; omega) (.int .i64 (a5 + b5))) ⟨s, a1 + b1, a2 + b2, a3 + b3, p', true, a4 + b4, a5 + b5⟩
    have hW := below_set8 ((((HH.out.2.2.2.setCell (p := ⟨G, 4, none⟩) (Nat.le_refl _) (.bool p')).setCell (p := ⟨G, 5, none⟩) (Nat.le_refl _) (.bool true)).setCell (p := ⟨G, 6, none⟩) (Nat.le_refl _) (.int .i64 (a4 + b4))).setCell (p := ⟨G, 7, none⟩) (Nat.le_refl _) (.int .i64 (a5 + b5))) (show G ≤ G + 1 + 1 by omega) ⟨s, a1 + b1, a2 + b2, a3 + b3, p', true, a4 + b4, a5 + b5⟩
    exact ret_cell8 (t := 33) (g := G + 1 + 1) (x := ⟨s, a1 + b1, a2 + b2, a3 + b3, p', true, a4 + b4, a5 + b5⟩) rfl rfl rfl hB.drew (fun W' h => load8 W' h) ⟨rfl, by rw [hG]; exact hW.drew⟩
  · clear c0 c1 c2 c3 c4 c5 c6 c7 d4 d5 d6 d7 f4 f5 f6 f7 r0 r1 r2 r3 r4 r5 r6 r7 g0 g1 g2 g3 g4 g5 g6 g7
    have hz : Blk W (G + 1 + 1) 33 (sa (Sm.zero 0)) := HH.out.2.2.1
    have hB := Blk.set8 ((((hz.far (p := ⟨G, 4, none⟩) (by simp; omega) (.bool true)).far (p := ⟨G, 5, none⟩) (by simp; omega) (.bool q')).far (p := ⟨G, 6, none⟩) (by simp; omega) (.int .i64 (a4 + b4))).far (p := ⟨G, 7, none⟩) (by simp; omega) (.int .i64 (a5 + b5))) ⟨s, a1 + b1, a2 + b2, a3 + b3, true, q', a4 + b4, a5 + b5⟩
    have hW := below_set8 ((((HH.out.2.2.2.setCell (p := ⟨G, 4, none⟩) (Nat.le_refl _) (.bool true)).setCell (p := ⟨G, 5, none⟩) (Nat.le_refl _) (.bool q')).setCell (p := ⟨G, 6, none⟩) (Nat.le_refl _) (.int .i64 (a4 + b4))).setCell (p := ⟨G, 7, none⟩) (Nat.le_refl _) (.int .i64 (a5 + b5))) (show G ≤ G + 1 + 1 by omega) ⟨s, a1 + b1, a2 + b2, a3 + b3, true, q', a4 + b4, a5 + b5⟩
    exact ret_cell8 (t := 33) (g := G + 1 + 1) (x := ⟨s, a1 + b1, a2 + b2, a3 + b3, true, q', a4 + b4, a5 + b5⟩) rfl rfl rfl hB.drew (fun W' h => load8 W' h) ⟨rfl, by rw [hG]; exact hW.drew⟩
  · clear c0 c1 c2 c3 c4 c5 c6 c7 d4 d5 d6 d7 f4 f5 f6 f7 r0 r1 r2 r3 r4 r5 r6 r7 g0 g1 g2 g3 g4 g5 g6 g7
    have hz : Blk W (G + 1 + 1) 33 (sa (Sm.zero 0)) := HH.out.2.2.1
    have hB := Blk.set8 ((((hz.far (p := ⟨G, 4, none⟩) (by simp; omega) (.bool true)).far (p := ⟨G, 5, none⟩) (by simp; omega) (.bool true)).far (p := ⟨G, 6, none⟩) (by simp; omega) (.int .i64 (a4 + b4))).far (p := ⟨G, 7, none⟩) (by simp; omega) (.int .i64 (a5 + b5))) ⟨s, a1 + b1, a2 + b2, a3 + b3, true, true, a4 + b4, a5 + b5⟩
    have hW := below_set8 ((((HH.out.2.2.2.setCell (p := ⟨G, 4, none⟩) (Nat.le_refl _) (.bool true)).setCell (p := ⟨G, 5, none⟩) (Nat.le_refl _) (.bool true)).setCell (p := ⟨G, 6, none⟩) (Nat.le_refl _) (.int .i64 (a4 + b4))).setCell (p := ⟨G, 7, none⟩) (Nat.le_refl _) (.int .i64 (a5 + b5))) (show G ≤ G + 1 + 1 by omega) ⟨s, a1 + b1, a2 + b2, a3 + b3, true, true, a4 + b4, a5 + b5⟩
    exact ret_cell8 (t := 33) (g := G + 1 + 1) (x := ⟨s, a1 + b1, a2 + b2, a3 + b3, true, true, a4 + b4, a5 + b5⟩) rfl rfl rfl hB.drew (fun W' h => load8 W' h) ⟨rfl, by rw [hG]; exact hW.drew⟩
end Go.Proofs.Yteokepnkgdhkkaa
