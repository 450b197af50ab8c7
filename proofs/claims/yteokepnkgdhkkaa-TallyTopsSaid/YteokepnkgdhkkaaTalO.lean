/- The walk of the answer's own of one move. -/
import Derived.Test.YteokepnkgdhkkaaRows
import Derived.WalkKit
import Derived.ProofKit
import Derived.Handy
import Derived.Deep.QuietTactic
import Derived.BigQuiet
import Derived.Deep.Cut
import Derived.Deep.RegionWith
import Derived.Deep.RegionHeld3
import Derived.Deep.AppendLies
import Derived.WalkLawsBesides
import Derived.WalkSmall
import Derived.Test.YteokepnkgdhkkaaTal2
namespace Go.Proofs.Yteokepnkgdhkkaa
open Go.RowKit
set_option linter.unusedVariables false
set_option maxHeartbeats 4000000 in
theorem oneR_any (m : Mv) (w : World) : Calls Try.prog 23 #[.agg (ma m)] w fun e w' => e = .returned (.agg (sa (oneL m))) ∧ Below w.heap.size w w' := by
  obtain ⟨wh, st, n, s, en⟩ := m
  have zz := Blk.alloc (Blk.alloc (Blk.new w 45 #[.int .i64 wh, .int .i64 st, .int .i64 n, .string s, .bool en]) (.cells #[.int .i64 0, .int .i64 0, .int .i64 0, .int .i64 0, .bool false, .bool false, .int .i64 0, .int .i64 0] 33)) (.cells #[.int .i64 st, .int .i64 0, .int .i64 0, .int .i64 1, .bool false, .bool false, .int .i64 0, .int .i64 0] 33)
  have yy := Blk.alloc (Blk.new (w.alloc (.cells #[.int .i64 wh, .int .i64 st, .int .i64 n, .string s, .bool en] 45)) 33 #[.int .i64 0, .int .i64 0, .int .i64 0, .int .i64 0, .bool false, .bool false, .int .i64 0, .int .i64 0]) (.cells #[.int .i64 st, .int .i64 0, .int .i64 0, .int .i64 1, .bool false, .bool false, .int .i64 0, .int .i64 0] 33)
  have rr := Blk.new ((w.alloc (.cells #[.int .i64 wh, .int .i64 st, .int .i64 n, .string s, .bool en] 45)).alloc (.cells #[.int .i64 0, .int .i64 0, .int .i64 0, .int .i64 0, .bool false, .bool false, .int .i64 0, .int .i64 0] 33)) 33 #[.int .i64 st, .int .i64 0, .int .i64 0, .int .i64 1, .bool false, .bool false, .int .i64 0, .int .i64 0]
  have BB : Below w.heap.size w (((w.alloc (.cells #[.int .i64 wh, .int .i64 st, .int .i64 n, .string s, .bool en] 45)).alloc (.cells #[.int .i64 0, .int .i64 0, .int .i64 0, .int .i64 0, .bool false, .bool false, .int .i64 0, .int .i64 0] 33)).alloc (.cells #[.int .i64 st, .int .i64 0, .int .i64 0, .int .i64 1, .bool false, .bool false, .int .i64 0, .int .i64 0] 33)) := ((((Below.refl _ _).alloc (Nat.le_refl _) _).alloc (by simp) _).alloc (by simp; omega) _)
  rw [World.size_alloc] at yy rr
  rw [World.size_alloc] at rr
  have HH := Lib.hid (And.intro zz (And.intro yy (And.intro rr BB)))
  clear zz yy rr BB
  unfold ma
  have way : n < 0 ∨ 1099511627776 < n ∨ (0 ≤ n ∧ n ≤ 1099511627776) := by omega
  rcases way with hn | hn | hn
  · skip
    have eN : numI n = 0 := by unfold numI; rw [if_pos (.inl hn)]
    have hn' : ¬ 1099511627776 < n := by omega
    by_cases h1 : wh = 1
    · subst h1
      rw [show oneL ⟨1, st, n, s, en⟩ = ⟨st, 0, 0, 1, en, false, 0, 0⟩ from (show oneL ⟨1, st, n, s, en⟩ = ⟨st, numI n, 0, 1, en, false, 0, 0⟩ from rfl).trans (by rw [eN])]
      clear eN
      go_enter Try.func23, Try.ntmps23
      go_upto_region 5 with fail
      generalize (((w.alloc (.cells #[.int .i64 1, .int .i64 st, .int .i64 n, .string s, .bool en] 45)).alloc (.cells #[.int .i64 0, .int .i64 0, .int .i64 0, .int .i64 0, .bool false, .bool false, .int .i64 0, .int .i64 0] 33)).alloc (.cells #[.int .i64 st, .int .i64 0, .int .i64 0, .int .i64 1, .bool false, .bool false, .int .i64 0, .int .i64 0] 33)) = W at *
      generalize hG : w.heap.size = G at *
      have c0 := Blk.cell HH.out.1 0
      have c1 := Blk.cell HH.out.1 1
      have c2 := Blk.cell HH.out.1 2
      have c4 := Blk.cell HH.out.1 4
      have r0 := Blk.cell HH.out.2.2.1 0
      have g0 := Blk.frozen HH.out.2.2.1 0
      have f0 := Blk.frozen HH.out.2.1 0
      have d0 := Blk.cell HH.out.2.1 0
      have r1 := Blk.cell HH.out.2.2.1 1
      have g1 := Blk.frozen HH.out.2.2.1 1
      have f1 := Blk.frozen HH.out.2.1 1
      have d1 := Blk.cell HH.out.2.1 1
      have r2 := Blk.cell HH.out.2.2.1 2
      have g2 := Blk.frozen HH.out.2.2.1 2
      have f2 := Blk.frozen HH.out.2.1 2
      have d2 := Blk.cell HH.out.2.1 2
      have r3 := Blk.cell HH.out.2.2.1 3
      have g3 := Blk.frozen HH.out.2.2.1 3
      have f3 := Blk.frozen HH.out.2.1 3
      have d3 := Blk.cell HH.out.2.1 3
      have r4 := Blk.cell HH.out.2.2.1 4
      have g4 := Blk.frozen HH.out.2.2.1 4
      have f4 := Blk.frozen HH.out.2.1 4
      have d4 := Blk.cell HH.out.2.1 4
      have r5 := Blk.cell HH.out.2.2.1 5
      have g5 := Blk.frozen HH.out.2.2.1 5
      have f5 := Blk.frozen HH.out.2.1 5
      have d5 := Blk.cell HH.out.2.1 5
      have r6 := Blk.cell HH.out.2.2.1 6
      have g6 := Blk.frozen HH.out.2.2.1 6
      have f6 := Blk.frozen HH.out.2.1 6
      have d6 := Blk.cell HH.out.2.1 6
      have r7 := Blk.cell HH.out.2.2.1 7
      have g7 := Blk.frozen HH.out.2.2.1 7
      have f7 := Blk.frozen HH.out.2.1 7
      have d7 := Blk.cell HH.out.2.1 7
      simp at c0 c1 c2 c4 r0 r1 r2 r3 r4 r5 r6 r7 d0 d1 d2 d3 d4 d5 d6 d7
      go_wp2_with fail
      clear c0 c1 c2 c4 r0 g0 f0 d0 r1 g1 f1 d1 r2 g2 f2 d2 r3 g3 f3 d3 r4 g4 f4 d4 r5 g5 f5 d5 r6 g6 f6 d6 r7 g7 f7 d7
      have hz : Blk W (G + 1) 33 (sa (Sm.zero 0)) := HH.out.2.1
      have hB := Blk.set8 hz ⟨st, 0, 0, 1, en, false, 0, 0⟩
      have hW := below_set8 HH.out.2.2.2 (show G ≤ G + 1 by omega) ⟨st, 0, 0, 1, en, false, 0, 0⟩
      exact ret_cell8 (t := 33) (g := G + 1) (x := ⟨st, 0, 0, 1, en, false, 0, 0⟩) rfl rfl rfl hB (fun W' h => load8 W' h) ⟨rfl, by first | exact hW | (rw [hG]; exact hW)⟩
    · skip
      by_cases h2 : wh = 2
      · subst h2
        rw [show oneL ⟨2, st, n, s, en⟩ = ⟨st, 0, 0, 1, false, en, 0, 0⟩ from (show oneL ⟨2, st, n, s, en⟩ = ⟨st, 0, numI n, 1, false, en, 0, 0⟩ from rfl).trans (by rw [eN])]
        clear eN
        go_enter Try.func23, Try.ntmps23
        go_upto_region 5 with fail
        generalize (((w.alloc (.cells #[.int .i64 2, .int .i64 st, .int .i64 n, .string s, .bool en] 45)).alloc (.cells #[.int .i64 0, .int .i64 0, .int .i64 0, .int .i64 0, .bool false, .bool false, .int .i64 0, .int .i64 0] 33)).alloc (.cells #[.int .i64 st, .int .i64 0, .int .i64 0, .int .i64 1, .bool false, .bool false, .int .i64 0, .int .i64 0] 33)) = W at *
        generalize hG : w.heap.size = G at *
        have c0 := Blk.cell HH.out.1 0
        have c1 := Blk.cell HH.out.1 1
        have c2 := Blk.cell HH.out.1 2
        have c4 := Blk.cell HH.out.1 4
        have r0 := Blk.cell HH.out.2.2.1 0
        have g0 := Blk.frozen HH.out.2.2.1 0
        have f0 := Blk.frozen HH.out.2.1 0
        have d0 := Blk.cell HH.out.2.1 0
        have r1 := Blk.cell HH.out.2.2.1 1
        have g1 := Blk.frozen HH.out.2.2.1 1
        have f1 := Blk.frozen HH.out.2.1 1
        have d1 := Blk.cell HH.out.2.1 1
        have r2 := Blk.cell HH.out.2.2.1 2
        have g2 := Blk.frozen HH.out.2.2.1 2
        have f2 := Blk.frozen HH.out.2.1 2
        have d2 := Blk.cell HH.out.2.1 2
        have r3 := Blk.cell HH.out.2.2.1 3
        have g3 := Blk.frozen HH.out.2.2.1 3
        have f3 := Blk.frozen HH.out.2.1 3
        have d3 := Blk.cell HH.out.2.1 3
        have r4 := Blk.cell HH.out.2.2.1 4
        have g4 := Blk.frozen HH.out.2.2.1 4
        have f4 := Blk.frozen HH.out.2.1 4
        have d4 := Blk.cell HH.out.2.1 4
        have r5 := Blk.cell HH.out.2.2.1 5
        have g5 := Blk.frozen HH.out.2.2.1 5
        have f5 := Blk.frozen HH.out.2.1 5
        have d5 := Blk.cell HH.out.2.1 5
        have r6 := Blk.cell HH.out.2.2.1 6
        have g6 := Blk.frozen HH.out.2.2.1 6
        have f6 := Blk.frozen HH.out.2.1 6
        have d6 := Blk.cell HH.out.2.1 6
        have r7 := Blk.cell HH.out.2.2.1 7
        have g7 := Blk.frozen HH.out.2.2.1 7
        have f7 := Blk.frozen HH.out.2.1 7
        have d7 := Blk.cell HH.out.2.1 7
        simp at c0 c1 c2 c4 r0 r1 r2 r3 r4 r5 r6 r7 d0 d1 d2 d3 d4 d5 d6 d7
        go_wp2_with fail
        clear c0 c1 c2 c4 r0 g0 f0 d0 r1 g1 f1 d1 r2 g2 f2 d2 r3 g3 f3 d3 r4 g4 f4 d4 r5 g5 f5 d5 r6 g6 f6 d6 r7 g7 f7 d7
        have hz : Blk W (G + 1) 33 (sa (Sm.zero 0)) := HH.out.2.1
        have hB := Blk.set8 hz ⟨st, 0, 0, 1, false, en, 0, 0⟩
        have hW := below_set8 HH.out.2.2.2 (show G ≤ G + 1 by omega) ⟨st, 0, 0, 1, false, en, 0, 0⟩
        exact ret_cell8 (t := 33) (g := G + 1) (x := ⟨st, 0, 0, 1, false, en, 0, 0⟩) rfl rfl rfl hB (fun W' h => load8 W' h) ⟨rfl, by first | exact hW | (rw [hG]; exact hW)⟩
      · skip
        by_cases h3 : wh = 3
        · subst h3
          rw [show oneL ⟨3, st, n, s, en⟩ = ⟨st, 0, 0, 1, false, false, 1, 0⟩ from rfl]
          clear eN
          go_enter Try.func23, Try.ntmps23
          go_upto_region 5 with fail
          generalize (((w.alloc (.cells #[.int .i64 3, .int .i64 st, .int .i64 n, .string s, .bool en] 45)).alloc (.cells #[.int .i64 0, .int .i64 0, .int .i64 0, .int .i64 0, .bool false, .bool false, .int .i64 0, .int .i64 0] 33)).alloc (.cells #[.int .i64 st, .int .i64 0, .int .i64 0, .int .i64 1, .bool false, .bool false, .int .i64 0, .int .i64 0] 33)) = W at *
          generalize hG : w.heap.size = G at *
          have c0 := Blk.cell HH.out.1 0
          have c1 := Blk.cell HH.out.1 1
          have c2 := Blk.cell HH.out.1 2
          have c4 := Blk.cell HH.out.1 4
          have r0 := Blk.cell HH.out.2.2.1 0
          have g0 := Blk.frozen HH.out.2.2.1 0
          have f0 := Blk.frozen HH.out.2.1 0
          have d0 := Blk.cell HH.out.2.1 0
          have r1 := Blk.cell HH.out.2.2.1 1
          have g1 := Blk.frozen HH.out.2.2.1 1
          have f1 := Blk.frozen HH.out.2.1 1
          have d1 := Blk.cell HH.out.2.1 1
          have r2 := Blk.cell HH.out.2.2.1 2
          have g2 := Blk.frozen HH.out.2.2.1 2
          have f2 := Blk.frozen HH.out.2.1 2
          have d2 := Blk.cell HH.out.2.1 2
          have r3 := Blk.cell HH.out.2.2.1 3
          have g3 := Blk.frozen HH.out.2.2.1 3
          have f3 := Blk.frozen HH.out.2.1 3
          have d3 := Blk.cell HH.out.2.1 3
          have r4 := Blk.cell HH.out.2.2.1 4
          have g4 := Blk.frozen HH.out.2.2.1 4
          have f4 := Blk.frozen HH.out.2.1 4
          have d4 := Blk.cell HH.out.2.1 4
          have r5 := Blk.cell HH.out.2.2.1 5
          have g5 := Blk.frozen HH.out.2.2.1 5
          have f5 := Blk.frozen HH.out.2.1 5
          have d5 := Blk.cell HH.out.2.1 5
          have r6 := Blk.cell HH.out.2.2.1 6
          have g6 := Blk.frozen HH.out.2.2.1 6
          have f6 := Blk.frozen HH.out.2.1 6
          have d6 := Blk.cell HH.out.2.1 6
          have r7 := Blk.cell HH.out.2.2.1 7
          have g7 := Blk.frozen HH.out.2.2.1 7
          have f7 := Blk.frozen HH.out.2.1 7
          have d7 := Blk.cell HH.out.2.1 7
          simp at c0 c1 c2 c4 r0 r1 r2 r3 r4 r5 r6 r7 d0 d1 d2 d3 d4 d5 d6 d7
          go_wp2_with fail
          clear c0 c1 c2 c4 r0 g0 f0 d0 r1 g1 f1 d1 r2 g2 f2 d2 r3 g3 f3 d3 r4 g4 f4 d4 r5 g5 f5 d5 r6 g6 f6 d6 r7 g7 f7 d7
          have hz : Blk W (G + 1) 33 (sa (Sm.zero 0)) := HH.out.2.1
          have hB := Blk.set8 hz ⟨st, 0, 0, 1, false, false, 1, 0⟩
          have hW := below_set8 HH.out.2.2.2 (show G ≤ G + 1 by omega) ⟨st, 0, 0, 1, false, false, 1, 0⟩
          exact ret_cell8 (t := 33) (g := G + 1) (x := ⟨st, 0, 0, 1, false, false, 1, 0⟩) rfl rfl rfl hB (fun W' h => load8 W' h) ⟨rfl, by first | exact hW | (rw [hG]; exact hW)⟩
        · skip
          by_cases h4 : wh = 4
          · subst h4
            rw [show oneL ⟨4, st, n, s, en⟩ = ⟨st, 0, 0, 1, false, false, 0, 1⟩ from rfl]
            clear eN
            go_enter Try.func23, Try.ntmps23
            go_upto_region 5 with fail
            generalize (((w.alloc (.cells #[.int .i64 4, .int .i64 st, .int .i64 n, .string s, .bool en] 45)).alloc (.cells #[.int .i64 0, .int .i64 0, .int .i64 0, .int .i64 0, .bool false, .bool false, .int .i64 0, .int .i64 0] 33)).alloc (.cells #[.int .i64 st, .int .i64 0, .int .i64 0, .int .i64 1, .bool false, .bool false, .int .i64 0, .int .i64 0] 33)) = W at *
            generalize hG : w.heap.size = G at *
            have c0 := Blk.cell HH.out.1 0
            have c1 := Blk.cell HH.out.1 1
            have c2 := Blk.cell HH.out.1 2
            have c4 := Blk.cell HH.out.1 4
            have r0 := Blk.cell HH.out.2.2.1 0
            have g0 := Blk.frozen HH.out.2.2.1 0
            have f0 := Blk.frozen HH.out.2.1 0
            have d0 := Blk.cell HH.out.2.1 0
            have r1 := Blk.cell HH.out.2.2.1 1
            have g1 := Blk.frozen HH.out.2.2.1 1
            have f1 := Blk.frozen HH.out.2.1 1
            have d1 := Blk.cell HH.out.2.1 1
            have r2 := Blk.cell HH.out.2.2.1 2
            have g2 := Blk.frozen HH.out.2.2.1 2
            have f2 := Blk.frozen HH.out.2.1 2
            have d2 := Blk.cell HH.out.2.1 2
            have r3 := Blk.cell HH.out.2.2.1 3
            have g3 := Blk.frozen HH.out.2.2.1 3
            have f3 := Blk.frozen HH.out.2.1 3
            have d3 := Blk.cell HH.out.2.1 3
            have r4 := Blk.cell HH.out.2.2.1 4
            have g4 := Blk.frozen HH.out.2.2.1 4
            have f4 := Blk.frozen HH.out.2.1 4
            have d4 := Blk.cell HH.out.2.1 4
            have r5 := Blk.cell HH.out.2.2.1 5
            have g5 := Blk.frozen HH.out.2.2.1 5
            have f5 := Blk.frozen HH.out.2.1 5
            have d5 := Blk.cell HH.out.2.1 5
            have r6 := Blk.cell HH.out.2.2.1 6
            have g6 := Blk.frozen HH.out.2.2.1 6
            have f6 := Blk.frozen HH.out.2.1 6
            have d6 := Blk.cell HH.out.2.1 6
            have r7 := Blk.cell HH.out.2.2.1 7
            have g7 := Blk.frozen HH.out.2.2.1 7
            have f7 := Blk.frozen HH.out.2.1 7
            have d7 := Blk.cell HH.out.2.1 7
            simp at c0 c1 c2 c4 r0 r1 r2 r3 r4 r5 r6 r7 d0 d1 d2 d3 d4 d5 d6 d7
            go_wp2_with fail
            clear c0 c1 c2 c4 r0 g0 f0 d0 r1 g1 f1 d1 r2 g2 f2 d2 r3 g3 f3 d3 r4 g4 f4 d4 r5 g5 f5 d5 r6 g6 f6 d6 r7 g7 f7 d7
            have hz : Blk W (G + 1) 33 (sa (Sm.zero 0)) := HH.out.2.1
            have hB := Blk.set8 hz ⟨st, 0, 0, 1, false, false, 0, 1⟩
            have hW := below_set8 HH.out.2.2.2 (show G ≤ G + 1 by omega) ⟨st, 0, 0, 1, false, false, 0, 1⟩
            exact ret_cell8 (t := 33) (g := G + 1) (x := ⟨st, 0, 0, 1, false, false, 0, 1⟩) rfl rfl rfl hB (fun W' h => load8 W' h) ⟨rfl, by first | exact hW | (rw [hG]; exact hW)⟩
          · skip
            rw [show oneL ⟨wh, st, n, s, en⟩ = ⟨st, 0, 0, 1, false, false, 0, 0⟩ by unfold oneL; simp only; rw [if_neg h1, if_neg h2, if_neg h3, if_neg h4]]
            clear eN
            go_enter Try.func23, Try.ntmps23
            go_upto_region 5 with fail
            generalize (((w.alloc (.cells #[.int .i64 wh, .int .i64 st, .int .i64 n, .string s, .bool en] 45)).alloc (.cells #[.int .i64 0, .int .i64 0, .int .i64 0, .int .i64 0, .bool false, .bool false, .int .i64 0, .int .i64 0] 33)).alloc (.cells #[.int .i64 st, .int .i64 0, .int .i64 0, .int .i64 1, .bool false, .bool false, .int .i64 0, .int .i64 0] 33)) = W at *
            generalize hG : w.heap.size = G at *
            have c0 := Blk.cell HH.out.1 0
            have c1 := Blk.cell HH.out.1 1
            have c2 := Blk.cell HH.out.1 2
            have c4 := Blk.cell HH.out.1 4
            have r0 := Blk.cell HH.out.2.2.1 0
            have g0 := Blk.frozen HH.out.2.2.1 0
            have f0 := Blk.frozen HH.out.2.1 0
            have d0 := Blk.cell HH.out.2.1 0
            have r1 := Blk.cell HH.out.2.2.1 1
            have g1 := Blk.frozen HH.out.2.2.1 1
            have f1 := Blk.frozen HH.out.2.1 1
            have d1 := Blk.cell HH.out.2.1 1
            have r2 := Blk.cell HH.out.2.2.1 2
            have g2 := Blk.frozen HH.out.2.2.1 2
            have f2 := Blk.frozen HH.out.2.1 2
            have d2 := Blk.cell HH.out.2.1 2
            have r3 := Blk.cell HH.out.2.2.1 3
            have g3 := Blk.frozen HH.out.2.2.1 3
            have f3 := Blk.frozen HH.out.2.1 3
            have d3 := Blk.cell HH.out.2.1 3
            have r4 := Blk.cell HH.out.2.2.1 4
            have g4 := Blk.frozen HH.out.2.2.1 4
            have f4 := Blk.frozen HH.out.2.1 4
            have d4 := Blk.cell HH.out.2.1 4
            have r5 := Blk.cell HH.out.2.2.1 5
            have g5 := Blk.frozen HH.out.2.2.1 5
            have f5 := Blk.frozen HH.out.2.1 5
            have d5 := Blk.cell HH.out.2.1 5
            have r6 := Blk.cell HH.out.2.2.1 6
            have g6 := Blk.frozen HH.out.2.2.1 6
            have f6 := Blk.frozen HH.out.2.1 6
            have d6 := Blk.cell HH.out.2.1 6
            have r7 := Blk.cell HH.out.2.2.1 7
            have g7 := Blk.frozen HH.out.2.2.1 7
            have f7 := Blk.frozen HH.out.2.1 7
            have d7 := Blk.cell HH.out.2.1 7
            simp at c0 c1 c2 c4 r0 r1 r2 r3 r4 r5 r6 r7 d0 d1 d2 d3 d4 d5 d6 d7
            go_wp2_with fail
            clear c0 c1 c2 c4 r0 g0 f0 d0 r1 g1 f1 d1 r2 g2 f2 d2 r3 g3 f3 d3 r4 g4 f4 d4 r5 g5 f5 d5 r6 g6 f6 d6 r7 g7 f7 d7
            have hz : Blk W (G + 1) 33 (sa (Sm.zero 0)) := HH.out.2.1
            have hB := Blk.set8 hz ⟨st, 0, 0, 1, false, false, 0, 0⟩
            have hW := below_set8 HH.out.2.2.2 (show G ≤ G + 1 by omega) ⟨st, 0, 0, 1, false, false, 0, 0⟩
            exact ret_cell8 (t := 33) (g := G + 1) (x := ⟨st, 0, 0, 1, false, false, 0, 0⟩) rfl rfl rfl hB (fun W' h => load8 W' h) ⟨rfl, by first | exact hW | (rw [hG]; exact hW)⟩
  · skip
    have eN : numI n = 0 := by unfold numI; rw [if_pos (.inr hn)]
    have hn' : ¬ n < 0 := by omega
    by_cases h1 : wh = 1
    · subst h1
      rw [show oneL ⟨1, st, n, s, en⟩ = ⟨st, 0, 0, 1, en, false, 0, 0⟩ from (show oneL ⟨1, st, n, s, en⟩ = ⟨st, numI n, 0, 1, en, false, 0, 0⟩ from rfl).trans (by rw [eN])]
      clear eN
      go_enter Try.func23, Try.ntmps23
      go_upto_region 5 with fail
      generalize (((w.alloc (.cells #[.int .i64 1, .int .i64 st, .int .i64 n, .string s, .bool en] 45)).alloc (.cells #[.int .i64 0, .int .i64 0, .int .i64 0, .int .i64 0, .bool false, .bool false, .int .i64 0, .int .i64 0] 33)).alloc (.cells #[.int .i64 st, .int .i64 0, .int .i64 0, .int .i64 1, .bool false, .bool false, .int .i64 0, .int .i64 0] 33)) = W at *
      generalize hG : w.heap.size = G at *
      have c0 := Blk.cell HH.out.1 0
      have c1 := Blk.cell HH.out.1 1
      have c2 := Blk.cell HH.out.1 2
      have c4 := Blk.cell HH.out.1 4
      have r0 := Blk.cell HH.out.2.2.1 0
      have g0 := Blk.frozen HH.out.2.2.1 0
      have f0 := Blk.frozen HH.out.2.1 0
      have d0 := Blk.cell HH.out.2.1 0
      have r1 := Blk.cell HH.out.2.2.1 1
      have g1 := Blk.frozen HH.out.2.2.1 1
      have f1 := Blk.frozen HH.out.2.1 1
      have d1 := Blk.cell HH.out.2.1 1
      have r2 := Blk.cell HH.out.2.2.1 2
      have g2 := Blk.frozen HH.out.2.2.1 2
      have f2 := Blk.frozen HH.out.2.1 2
      have d2 := Blk.cell HH.out.2.1 2
      have r3 := Blk.cell HH.out.2.2.1 3
      have g3 := Blk.frozen HH.out.2.2.1 3
      have f3 := Blk.frozen HH.out.2.1 3
      have d3 := Blk.cell HH.out.2.1 3
      have r4 := Blk.cell HH.out.2.2.1 4
      have g4 := Blk.frozen HH.out.2.2.1 4
      have f4 := Blk.frozen HH.out.2.1 4
      have d4 := Blk.cell HH.out.2.1 4
      have r5 := Blk.cell HH.out.2.2.1 5
      have g5 := Blk.frozen HH.out.2.2.1 5
      have f5 := Blk.frozen HH.out.2.1 5
      have d5 := Blk.cell HH.out.2.1 5
      have r6 := Blk.cell HH.out.2.2.1 6
      have g6 := Blk.frozen HH.out.2.2.1 6
      have f6 := Blk.frozen HH.out.2.1 6
      have d6 := Blk.cell HH.out.2.1 6
      have r7 := Blk.cell HH.out.2.2.1 7
      have g7 := Blk.frozen HH.out.2.2.1 7
      have f7 := Blk.frozen HH.out.2.1 7
      have d7 := Blk.cell HH.out.2.1 7
      simp at c0 c1 c2 c4 r0 r1 r2 r3 r4 r5 r6 r7 d0 d1 d2 d3 d4 d5 d6 d7
      go_wp2_with fail
      clear c0 c1 c2 c4 r0 g0 f0 d0 r1 g1 f1 d1 r2 g2 f2 d2 r3 g3 f3 d3 r4 g4 f4 d4 r5 g5 f5 d5 r6 g6 f6 d6 r7 g7 f7 d7
      have hz : Blk W (G + 1) 33 (sa (Sm.zero 0)) := HH.out.2.1
      have hB := Blk.set8 hz ⟨st, 0, 0, 1, en, false, 0, 0⟩
      have hW := below_set8 HH.out.2.2.2 (show G ≤ G + 1 by omega) ⟨st, 0, 0, 1, en, false, 0, 0⟩
      exact ret_cell8 (t := 33) (g := G + 1) (x := ⟨st, 0, 0, 1, en, false, 0, 0⟩) rfl rfl rfl hB (fun W' h => load8 W' h) ⟨rfl, by first | exact hW | (rw [hG]; exact hW)⟩
    · skip
      by_cases h2 : wh = 2
      · subst h2
        rw [show oneL ⟨2, st, n, s, en⟩ = ⟨st, 0, 0, 1, false, en, 0, 0⟩ from (show oneL ⟨2, st, n, s, en⟩ = ⟨st, 0, numI n, 1, false, en, 0, 0⟩ from rfl).trans (by rw [eN])]
        clear eN
        go_enter Try.func23, Try.ntmps23
        go_upto_region 5 with fail
        generalize (((w.alloc (.cells #[.int .i64 2, .int .i64 st, .int .i64 n, .string s, .bool en] 45)).alloc (.cells #[.int .i64 0, .int .i64 0, .int .i64 0, .int .i64 0, .bool false, .bool false, .int .i64 0, .int .i64 0] 33)).alloc (.cells #[.int .i64 st, .int .i64 0, .int .i64 0, .int .i64 1, .bool false, .bool false, .int .i64 0, .int .i64 0] 33)) = W at *
        generalize hG : w.heap.size = G at *
        have c0 := Blk.cell HH.out.1 0
        have c1 := Blk.cell HH.out.1 1
        have c2 := Blk.cell HH.out.1 2
        have c4 := Blk.cell HH.out.1 4
        have r0 := Blk.cell HH.out.2.2.1 0
        have g0 := Blk.frozen HH.out.2.2.1 0
        have f0 := Blk.frozen HH.out.2.1 0
        have d0 := Blk.cell HH.out.2.1 0
        have r1 := Blk.cell HH.out.2.2.1 1
        have g1 := Blk.frozen HH.out.2.2.1 1
        have f1 := Blk.frozen HH.out.2.1 1
        have d1 := Blk.cell HH.out.2.1 1
        have r2 := Blk.cell HH.out.2.2.1 2
        have g2 := Blk.frozen HH.out.2.2.1 2
        have f2 := Blk.frozen HH.out.2.1 2
        have d2 := Blk.cell HH.out.2.1 2
        have r3 := Blk.cell HH.out.2.2.1 3
        have g3 := Blk.frozen HH.out.2.2.1 3
        have f3 := Blk.frozen HH.out.2.1 3
        have d3 := Blk.cell HH.out.2.1 3
        have r4 := Blk.cell HH.out.2.2.1 4
        have g4 := Blk.frozen HH.out.2.2.1 4
        have f4 := Blk.frozen HH.out.2.1 4
        have d4 := Blk.cell HH.out.2.1 4
        have r5 := Blk.cell HH.out.2.2.1 5
        have g5 := Blk.frozen HH.out.2.2.1 5
        have f5 := Blk.frozen HH.out.2.1 5
        have d5 := Blk.cell HH.out.2.1 5
        have r6 := Blk.cell HH.out.2.2.1 6
        have g6 := Blk.frozen HH.out.2.2.1 6
        have f6 := Blk.frozen HH.out.2.1 6
        have d6 := Blk.cell HH.out.2.1 6
        have r7 := Blk.cell HH.out.2.2.1 7
        have g7 := Blk.frozen HH.out.2.2.1 7
        have f7 := Blk.frozen HH.out.2.1 7
        have d7 := Blk.cell HH.out.2.1 7
        simp at c0 c1 c2 c4 r0 r1 r2 r3 r4 r5 r6 r7 d0 d1 d2 d3 d4 d5 d6 d7
        go_wp2_with fail
        clear c0 c1 c2 c4 r0 g0 f0 d0 r1 g1 f1 d1 r2 g2 f2 d2 r3 g3 f3 d3 r4 g4 f4 d4 r5 g5 f5 d5 r6 g6 f6 d6 r7 g7 f7 d7
        have hz : Blk W (G + 1) 33 (sa (Sm.zero 0)) := HH.out.2.1
        have hB := Blk.set8 hz ⟨st, 0, 0, 1, false, en, 0, 0⟩
        have hW := below_set8 HH.out.2.2.2 (show G ≤ G + 1 by omega) ⟨st, 0, 0, 1, false, en, 0, 0⟩
        exact ret_cell8 (t := 33) (g := G + 1) (x := ⟨st, 0, 0, 1, false, en, 0, 0⟩) rfl rfl rfl hB (fun W' h => load8 W' h) ⟨rfl, by first | exact hW | (rw [hG]; exact hW)⟩
      · skip
        by_cases h3 : wh = 3
        · subst h3
          rw [show oneL ⟨3, st, n, s, en⟩ = ⟨st, 0, 0, 1, false, false, 1, 0⟩ from rfl]
          clear eN
          go_enter Try.func23, Try.ntmps23
          go_upto_region 5 with fail
          generalize (((w.alloc (.cells #[.int .i64 3, .int .i64 st, .int .i64 n, .string s, .bool en] 45)).alloc (.cells #[.int .i64 0, .int .i64 0, .int .i64 0, .int .i64 0, .bool false, .bool false, .int .i64 0, .int .i64 0] 33)).alloc (.cells #[.int .i64 st, .int .i64 0, .int .i64 0, .int .i64 1, .bool false, .bool false, .int .i64 0, .int .i64 0] 33)) = W at *
          generalize hG : w.heap.size = G at *
          have c0 := Blk.cell HH.out.1 0
          have c1 := Blk.cell HH.out.1 1
          have c2 := Blk.cell HH.out.1 2
          have c4 := Blk.cell HH.out.1 4
          have r0 := Blk.cell HH.out.2.2.1 0
          have g0 := Blk.frozen HH.out.2.2.1 0
          have f0 := Blk.frozen HH.out.2.1 0
          have d0 := Blk.cell HH.out.2.1 0
          have r1 := Blk.cell HH.out.2.2.1 1
          have g1 := Blk.frozen HH.out.2.2.1 1
          have f1 := Blk.frozen HH.out.2.1 1
          have d1 := Blk.cell HH.out.2.1 1
          have r2 := Blk.cell HH.out.2.2.1 2
          have g2 := Blk.frozen HH.out.2.2.1 2
          have f2 := Blk.frozen HH.out.2.1 2
          have d2 := Blk.cell HH.out.2.1 2
          have r3 := Blk.cell HH.out.2.2.1 3
          have g3 := Blk.frozen HH.out.2.2.1 3
          have f3 := Blk.frozen HH.out.2.1 3
          have d3 := Blk.cell HH.out.2.1 3
          have r4 := Blk.cell HH.out.2.2.1 4
          have g4 := Blk.frozen HH.out.2.2.1 4
          have f4 := Blk.frozen HH.out.2.1 4
          have d4 := Blk.cell HH.out.2.1 4
          have r5 := Blk.cell HH.out.2.2.1 5
          have g5 := Blk.frozen HH.out.2.2.1 5
          have f5 := Blk.frozen HH.out.2.1 5
          have d5 := Blk.cell HH.out.2.1 5
          have r6 := Blk.cell HH.out.2.2.1 6
          have g6 := Blk.frozen HH.out.2.2.1 6
          have f6 := Blk.frozen HH.out.2.1 6
          have d6 := Blk.cell HH.out.2.1 6
          have r7 := Blk.cell HH.out.2.2.1 7
          have g7 := Blk.frozen HH.out.2.2.1 7
          have f7 := Blk.frozen HH.out.2.1 7
          have d7 := Blk.cell HH.out.2.1 7
          simp at c0 c1 c2 c4 r0 r1 r2 r3 r4 r5 r6 r7 d0 d1 d2 d3 d4 d5 d6 d7
          go_wp2_with fail
          clear c0 c1 c2 c4 r0 g0 f0 d0 r1 g1 f1 d1 r2 g2 f2 d2 r3 g3 f3 d3 r4 g4 f4 d4 r5 g5 f5 d5 r6 g6 f6 d6 r7 g7 f7 d7
          have hz : Blk W (G + 1) 33 (sa (Sm.zero 0)) := HH.out.2.1
          have hB := Blk.set8 hz ⟨st, 0, 0, 1, false, false, 1, 0⟩
          have hW := below_set8 HH.out.2.2.2 (show G ≤ G + 1 by omega) ⟨st, 0, 0, 1, false, false, 1, 0⟩
          exact ret_cell8 (t := 33) (g := G + 1) (x := ⟨st, 0, 0, 1, false, false, 1, 0⟩) rfl rfl rfl hB (fun W' h => load8 W' h) ⟨rfl, by first | exact hW | (rw [hG]; exact hW)⟩
        · skip
          by_cases h4 : wh = 4
          · subst h4
            rw [show oneL ⟨4, st, n, s, en⟩ = ⟨st, 0, 0, 1, false, false, 0, 1⟩ from rfl]
            clear eN
            go_enter Try.func23, Try.ntmps23
            go_upto_region 5 with fail
            generalize (((w.alloc (.cells #[.int .i64 4, .int .i64 st, .int .i64 n, .string s, .bool en] 45)).alloc (.cells #[.int .i64 0, .int .i64 0, .int .i64 0, .int .i64 0, .bool false, .bool false, .int .i64 0, .int .i64 0] 33)).alloc (.cells #[.int .i64 st, .int .i64 0, .int .i64 0, .int .i64 1, .bool false, .bool false, .int .i64 0, .int .i64 0] 33)) = W at *
            generalize hG : w.heap.size = G at *
            have c0 := Blk.cell HH.out.1 0
            have c1 := Blk.cell HH.out.1 1
            have c2 := Blk.cell HH.out.1 2
            have c4 := Blk.cell HH.out.1 4
            have r0 := Blk.cell HH.out.2.2.1 0
            have g0 := Blk.frozen HH.out.2.2.1 0
            have f0 := Blk.frozen HH.out.2.1 0
            have d0 := Blk.cell HH.out.2.1 0
            have r1 := Blk.cell HH.out.2.2.1 1
            have g1 := Blk.frozen HH.out.2.2.1 1
            have f1 := Blk.frozen HH.out.2.1 1
            have d1 := Blk.cell HH.out.2.1 1
            have r2 := Blk.cell HH.out.2.2.1 2
            have g2 := Blk.frozen HH.out.2.2.1 2
            have f2 := Blk.frozen HH.out.2.1 2
            have d2 := Blk.cell HH.out.2.1 2
            have r3 := Blk.cell HH.out.2.2.1 3
            have g3 := Blk.frozen HH.out.2.2.1 3
            have f3 := Blk.frozen HH.out.2.1 3
            have d3 := Blk.cell HH.out.2.1 3
            have r4 := Blk.cell HH.out.2.2.1 4
            have g4 := Blk.frozen HH.out.2.2.1 4
            have f4 := Blk.frozen HH.out.2.1 4
            have d4 := Blk.cell HH.out.2.1 4
            have r5 := Blk.cell HH.out.2.2.1 5
            have g5 := Blk.frozen HH.out.2.2.1 5
            have f5 := Blk.frozen HH.out.2.1 5
            have d5 := Blk.cell HH.out.2.1 5
            have r6 := Blk.cell HH.out.2.2.1 6
            have g6 := Blk.frozen HH.out.2.2.1 6
            have f6 := Blk.frozen HH.out.2.1 6
            have d6 := Blk.cell HH.out.2.1 6
            have r7 := Blk.cell HH.out.2.2.1 7
            have g7 := Blk.frozen HH.out.2.2.1 7
            have f7 := Blk.frozen HH.out.2.1 7
            have d7 := Blk.cell HH.out.2.1 7
            simp at c0 c1 c2 c4 r0 r1 r2 r3 r4 r5 r6 r7 d0 d1 d2 d3 d4 d5 d6 d7
            go_wp2_with fail
            clear c0 c1 c2 c4 r0 g0 f0 d0 r1 g1 f1 d1 r2 g2 f2 d2 r3 g3 f3 d3 r4 g4 f4 d4 r5 g5 f5 d5 r6 g6 f6 d6 r7 g7 f7 d7
            have hz : Blk W (G + 1) 33 (sa (Sm.zero 0)) := HH.out.2.1
            have hB := Blk.set8 hz ⟨st, 0, 0, 1, false, false, 0, 1⟩
            have hW := below_set8 HH.out.2.2.2 (show G ≤ G + 1 by omega) ⟨st, 0, 0, 1, false, false, 0, 1⟩
            exact ret_cell8 (t := 33) (g := G + 1) (x := ⟨st, 0, 0, 1, false, false, 0, 1⟩) rfl rfl rfl hB (fun W' h => load8 W' h) ⟨rfl, by first | exact hW | (rw [hG]; exact hW)⟩
          · skip
            rw [show oneL ⟨wh, st, n, s, en⟩ = ⟨st, 0, 0, 1, false, false, 0, 0⟩ by unfold oneL; simp only; rw [if_neg h1, if_neg h2, if_neg h3, if_neg h4]]
            clear eN
            go_enter Try.func23, Try.ntmps23
            go_upto_region 5 with fail
            generalize (((w.alloc (.cells #[.int .i64 wh, .int .i64 st, .int .i64 n, .string s, .bool en] 45)).alloc (.cells #[.int .i64 0, .int .i64 0, .int .i64 0, .int .i64 0, .bool false, .bool false, .int .i64 0, .int .i64 0] 33)).alloc (.cells #[.int .i64 st, .int .i64 0, .int .i64 0, .int .i64 1, .bool false, .bool false, .int .i64 0, .int .i64 0] 33)) = W at *
            generalize hG : w.heap.size = G at *
            have c0 := Blk.cell HH.out.1 0
            have c1 := Blk.cell HH.out.1 1
            have c2 := Blk.cell HH.out.1 2
            have c4 := Blk.cell HH.out.1 4
            have r0 := Blk.cell HH.out.2.2.1 0
            have g0 := Blk.frozen HH.out.2.2.1 0
            have f0 := Blk.frozen HH.out.2.1 0
            have d0 := Blk.cell HH.out.2.1 0
            have r1 := Blk.cell HH.out.2.2.1 1
            have g1 := Blk.frozen HH.out.2.2.1 1
            have f1 := Blk.frozen HH.out.2.1 1
            have d1 := Blk.cell HH.out.2.1 1
            have r2 := Blk.cell HH.out.2.2.1 2
            have g2 := Blk.frozen HH.out.2.2.1 2
            have f2 := Blk.frozen HH.out.2.1 2
            have d2 := Blk.cell HH.out.2.1 2
            have r3 := Blk.cell HH.out.2.2.1 3
            have g3 := Blk.frozen HH.out.2.2.1 3
            have f3 := Blk.frozen HH.out.2.1 3
            have d3 := Blk.cell HH.out.2.1 3
            have r4 := Blk.cell HH.out.2.2.1 4
            have g4 := Blk.frozen HH.out.2.2.1 4
            have f4 := Blk.frozen HH.out.2.1 4
            have d4 := Blk.cell HH.out.2.1 4
            have r5 := Blk.cell HH.out.2.2.1 5
            have g5 := Blk.frozen HH.out.2.2.1 5
            have f5 := Blk.frozen HH.out.2.1 5
            have d5 := Blk.cell HH.out.2.1 5
            have r6 := Blk.cell HH.out.2.2.1 6
            have g6 := Blk.frozen HH.out.2.2.1 6
            have f6 := Blk.frozen HH.out.2.1 6
            have d6 := Blk.cell HH.out.2.1 6
            have r7 := Blk.cell HH.out.2.2.1 7
            have g7 := Blk.frozen HH.out.2.2.1 7
            have f7 := Blk.frozen HH.out.2.1 7
            have d7 := Blk.cell HH.out.2.1 7
            simp at c0 c1 c2 c4 r0 r1 r2 r3 r4 r5 r6 r7 d0 d1 d2 d3 d4 d5 d6 d7
            go_wp2_with fail
            clear c0 c1 c2 c4 r0 g0 f0 d0 r1 g1 f1 d1 r2 g2 f2 d2 r3 g3 f3 d3 r4 g4 f4 d4 r5 g5 f5 d5 r6 g6 f6 d6 r7 g7 f7 d7
            have hz : Blk W (G + 1) 33 (sa (Sm.zero 0)) := HH.out.2.1
            have hB := Blk.set8 hz ⟨st, 0, 0, 1, false, false, 0, 0⟩
            have hW := below_set8 HH.out.2.2.2 (show G ≤ G + 1 by omega) ⟨st, 0, 0, 1, false, false, 0, 0⟩
            exact ret_cell8 (t := 33) (g := G + 1) (x := ⟨st, 0, 0, 1, false, false, 0, 0⟩) rfl rfl rfl hB (fun W' h => load8 W' h) ⟨rfl, by first | exact hW | (rw [hG]; exact hW)⟩
  · skip
    have eN : numI n = n := by unfold numI; rw [if_neg (by omega)]
    obtain ⟨hn1, hn2⟩ := hn
    by_cases h1 : wh = 1
    · subst h1
      rw [show oneL ⟨1, st, n, s, en⟩ = ⟨st, n, 0, 1, en, false, 0, 0⟩ from (show oneL ⟨1, st, n, s, en⟩ = ⟨st, numI n, 0, 1, en, false, 0, 0⟩ from rfl).trans (by rw [eN])]
      clear eN
      go_enter Try.func23, Try.ntmps23
      go_upto_region 5 with fail
      generalize (((w.alloc (.cells #[.int .i64 1, .int .i64 st, .int .i64 n, .string s, .bool en] 45)).alloc (.cells #[.int .i64 0, .int .i64 0, .int .i64 0, .int .i64 0, .bool false, .bool false, .int .i64 0, .int .i64 0] 33)).alloc (.cells #[.int .i64 st, .int .i64 0, .int .i64 0, .int .i64 1, .bool false, .bool false, .int .i64 0, .int .i64 0] 33)) = W at *
      generalize hG : w.heap.size = G at *
      have c0 := Blk.cell HH.out.1 0
      have c1 := Blk.cell HH.out.1 1
      have c2 := Blk.cell HH.out.1 2
      have c4 := Blk.cell HH.out.1 4
      have r0 := Blk.cell HH.out.2.2.1 0
      have g0 := Blk.frozen HH.out.2.2.1 0
      have f0 := Blk.frozen HH.out.2.1 0
      have d0 := Blk.cell HH.out.2.1 0
      have r1 := Blk.cell HH.out.2.2.1 1
      have g1 := Blk.frozen HH.out.2.2.1 1
      have f1 := Blk.frozen HH.out.2.1 1
      have d1 := Blk.cell HH.out.2.1 1
      have r2 := Blk.cell HH.out.2.2.1 2
      have g2 := Blk.frozen HH.out.2.2.1 2
      have f2 := Blk.frozen HH.out.2.1 2
      have d2 := Blk.cell HH.out.2.1 2
      have r3 := Blk.cell HH.out.2.2.1 3
      have g3 := Blk.frozen HH.out.2.2.1 3
      have f3 := Blk.frozen HH.out.2.1 3
      have d3 := Blk.cell HH.out.2.1 3
      have r4 := Blk.cell HH.out.2.2.1 4
      have g4 := Blk.frozen HH.out.2.2.1 4
      have f4 := Blk.frozen HH.out.2.1 4
      have d4 := Blk.cell HH.out.2.1 4
      have r5 := Blk.cell HH.out.2.2.1 5
      have g5 := Blk.frozen HH.out.2.2.1 5
      have f5 := Blk.frozen HH.out.2.1 5
      have d5 := Blk.cell HH.out.2.1 5
      have r6 := Blk.cell HH.out.2.2.1 6
      have g6 := Blk.frozen HH.out.2.2.1 6
      have f6 := Blk.frozen HH.out.2.1 6
      have d6 := Blk.cell HH.out.2.1 6
      have r7 := Blk.cell HH.out.2.2.1 7
      have g7 := Blk.frozen HH.out.2.2.1 7
      have f7 := Blk.frozen HH.out.2.1 7
      have d7 := Blk.cell HH.out.2.1 7
      simp at c0 c1 c2 c4 r0 r1 r2 r3 r4 r5 r6 r7 d0 d1 d2 d3 d4 d5 d6 d7
      go_wp2_with fail
      clear c0 c1 c2 c4 r0 g0 f0 d0 r1 g1 f1 d1 r2 g2 f2 d2 r3 g3 f3 d3 r4 g4 f4 d4 r5 g5 f5 d5 r6 g6 f6 d6 r7 g7 f7 d7
      have hz : Blk W (G + 1) 33 (sa (Sm.zero 0)) := HH.out.2.1
      have hB := Blk.set8 hz ⟨st, n, 0, 1, en, false, 0, 0⟩
      have hW := below_set8 HH.out.2.2.2 (show G ≤ G + 1 by omega) ⟨st, n, 0, 1, en, false, 0, 0⟩
      exact ret_cell8 (t := 33) (g := G + 1) (x := ⟨st, n, 0, 1, en, false, 0, 0⟩) rfl rfl rfl hB (fun W' h => load8 W' h) ⟨rfl, by first | exact hW | (rw [hG]; exact hW)⟩
    · skip
      by_cases h2 : wh = 2
      · subst h2
        rw [show oneL ⟨2, st, n, s, en⟩ = ⟨st, 0, n, 1, false, en, 0, 0⟩ from (show oneL ⟨2, st, n, s, en⟩ = ⟨st, 0, numI n, 1, false, en, 0, 0⟩ from rfl).trans (by rw [eN])]
        clear eN
        go_enter Try.func23, Try.ntmps23
        go_upto_region 5 with fail
        generalize (((w.alloc (.cells #[.int .i64 2, .int .i64 st, .int .i64 n, .string s, .bool en] 45)).alloc (.cells #[.int .i64 0, .int .i64 0, .int .i64 0, .int .i64 0, .bool false, .bool false, .int .i64 0, .int .i64 0] 33)).alloc (.cells #[.int .i64 st, .int .i64 0, .int .i64 0, .int .i64 1, .bool false, .bool false, .int .i64 0, .int .i64 0] 33)) = W at *
        generalize hG : w.heap.size = G at *
        have c0 := Blk.cell HH.out.1 0
        have c1 := Blk.cell HH.out.1 1
        have c2 := Blk.cell HH.out.1 2
        have c4 := Blk.cell HH.out.1 4
        have r0 := Blk.cell HH.out.2.2.1 0
        have g0 := Blk.frozen HH.out.2.2.1 0
        have f0 := Blk.frozen HH.out.2.1 0
        have d0 := Blk.cell HH.out.2.1 0
        have r1 := Blk.cell HH.out.2.2.1 1
        have g1 := Blk.frozen HH.out.2.2.1 1
        have f1 := Blk.frozen HH.out.2.1 1
        have d1 := Blk.cell HH.out.2.1 1
        have r2 := Blk.cell HH.out.2.2.1 2
        have g2 := Blk.frozen HH.out.2.2.1 2
        have f2 := Blk.frozen HH.out.2.1 2
        have d2 := Blk.cell HH.out.2.1 2
        have r3 := Blk.cell HH.out.2.2.1 3
        have g3 := Blk.frozen HH.out.2.2.1 3
        have f3 := Blk.frozen HH.out.2.1 3
        have d3 := Blk.cell HH.out.2.1 3
        have r4 := Blk.cell HH.out.2.2.1 4
        have g4 := Blk.frozen HH.out.2.2.1 4
        have f4 := Blk.frozen HH.out.2.1 4
        have d4 := Blk.cell HH.out.2.1 4
        have r5 := Blk.cell HH.out.2.2.1 5
        have g5 := Blk.frozen HH.out.2.2.1 5
        have f5 := Blk.frozen HH.out.2.1 5
        have d5 := Blk.cell HH.out.2.1 5
        have r6 := Blk.cell HH.out.2.2.1 6
        have g6 := Blk.frozen HH.out.2.2.1 6
        have f6 := Blk.frozen HH.out.2.1 6
        have d6 := Blk.cell HH.out.2.1 6
        have r7 := Blk.cell HH.out.2.2.1 7
        have g7 := Blk.frozen HH.out.2.2.1 7
        have f7 := Blk.frozen HH.out.2.1 7
        have d7 := Blk.cell HH.out.2.1 7
        simp at c0 c1 c2 c4 r0 r1 r2 r3 r4 r5 r6 r7 d0 d1 d2 d3 d4 d5 d6 d7
        go_wp2_with fail
        clear c0 c1 c2 c4 r0 g0 f0 d0 r1 g1 f1 d1 r2 g2 f2 d2 r3 g3 f3 d3 r4 g4 f4 d4 r5 g5 f5 d5 r6 g6 f6 d6 r7 g7 f7 d7
        have hz : Blk W (G + 1) 33 (sa (Sm.zero 0)) := HH.out.2.1
        have hB := Blk.set8 hz ⟨st, 0, n, 1, false, en, 0, 0⟩
        have hW := below_set8 HH.out.2.2.2 (show G ≤ G + 1 by omega) ⟨st, 0, n, 1, false, en, 0, 0⟩
        exact ret_cell8 (t := 33) (g := G + 1) (x := ⟨st, 0, n, 1, false, en, 0, 0⟩) rfl rfl rfl hB (fun W' h => load8 W' h) ⟨rfl, by first | exact hW | (rw [hG]; exact hW)⟩
      · skip
        by_cases h3 : wh = 3
        · subst h3
          rw [show oneL ⟨3, st, n, s, en⟩ = ⟨st, 0, 0, 1, false, false, 1, 0⟩ from rfl]
          clear eN
          go_enter Try.func23, Try.ntmps23
          go_upto_region 5 with fail
          generalize (((w.alloc (.cells #[.int .i64 3, .int .i64 st, .int .i64 n, .string s, .bool en] 45)).alloc (.cells #[.int .i64 0, .int .i64 0, .int .i64 0, .int .i64 0, .bool false, .bool false, .int .i64 0, .int .i64 0] 33)).alloc (.cells #[.int .i64 st, .int .i64 0, .int .i64 0, .int .i64 1, .bool false, .bool false, .int .i64 0, .int .i64 0] 33)) = W at *
          generalize hG : w.heap.size = G at *
          have c0 := Blk.cell HH.out.1 0
          have c1 := Blk.cell HH.out.1 1
          have c2 := Blk.cell HH.out.1 2
          have c4 := Blk.cell HH.out.1 4
          have r0 := Blk.cell HH.out.2.2.1 0
          have g0 := Blk.frozen HH.out.2.2.1 0
          have f0 := Blk.frozen HH.out.2.1 0
          have d0 := Blk.cell HH.out.2.1 0
          have r1 := Blk.cell HH.out.2.2.1 1
          have g1 := Blk.frozen HH.out.2.2.1 1
          have f1 := Blk.frozen HH.out.2.1 1
          have d1 := Blk.cell HH.out.2.1 1
          have r2 := Blk.cell HH.out.2.2.1 2
          have g2 := Blk.frozen HH.out.2.2.1 2
          have f2 := Blk.frozen HH.out.2.1 2
          have d2 := Blk.cell HH.out.2.1 2
          have r3 := Blk.cell HH.out.2.2.1 3
          have g3 := Blk.frozen HH.out.2.2.1 3
          have f3 := Blk.frozen HH.out.2.1 3
          have d3 := Blk.cell HH.out.2.1 3
          have r4 := Blk.cell HH.out.2.2.1 4
          have g4 := Blk.frozen HH.out.2.2.1 4
          have f4 := Blk.frozen HH.out.2.1 4
          have d4 := Blk.cell HH.out.2.1 4
          have r5 := Blk.cell HH.out.2.2.1 5
          have g5 := Blk.frozen HH.out.2.2.1 5
          have f5 := Blk.frozen HH.out.2.1 5
          have d5 := Blk.cell HH.out.2.1 5
          have r6 := Blk.cell HH.out.2.2.1 6
          have g6 := Blk.frozen HH.out.2.2.1 6
          have f6 := Blk.frozen HH.out.2.1 6
          have d6 := Blk.cell HH.out.2.1 6
          have r7 := Blk.cell HH.out.2.2.1 7
          have g7 := Blk.frozen HH.out.2.2.1 7
          have f7 := Blk.frozen HH.out.2.1 7
          have d7 := Blk.cell HH.out.2.1 7
          simp at c0 c1 c2 c4 r0 r1 r2 r3 r4 r5 r6 r7 d0 d1 d2 d3 d4 d5 d6 d7
          go_wp2_with fail
          clear c0 c1 c2 c4 r0 g0 f0 d0 r1 g1 f1 d1 r2 g2 f2 d2 r3 g3 f3 d3 r4 g4 f4 d4 r5 g5 f5 d5 r6 g6 f6 d6 r7 g7 f7 d7
          have hz : Blk W (G + 1) 33 (sa (Sm.zero 0)) := HH.out.2.1
          have hB := Blk.set8 hz ⟨st, 0, 0, 1, false, false, 1, 0⟩
          have hW := below_set8 HH.out.2.2.2 (show G ≤ G + 1 by omega) ⟨st, 0, 0, 1, false, false, 1, 0⟩
          exact ret_cell8 (t := 33) (g := G + 1) (x := ⟨st, 0, 0, 1, false, false, 1, 0⟩) rfl rfl rfl hB (fun W' h => load8 W' h) ⟨rfl, by first | exact hW | (rw [hG]; exact hW)⟩
        · skip
          by_cases h4 : wh = 4
          · subst h4
            rw [show oneL ⟨4, st, n, s, en⟩ = ⟨st, 0, 0, 1, false, false, 0, 1⟩ from rfl]
            clear eN
            go_enter Try.func23, Try.ntmps23
            go_upto_region 5 with fail
            generalize (((w.alloc (.cells #[.int .i64 4, .int .i64 st, .int .i64 n, .string s, .bool en] 45)).alloc (.cells #[.int .i64 0, .int .i64 0, .int .i64 0, .int .i64 0, .bool false, .bool false, .int .i64 0, .int .i64 0] 33)).alloc (.cells #[.int .i64 st, .int .i64 0, .int .i64 0, .int .i64 1, .bool false, .bool false, .int .i64 0, .int .i64 0] 33)) = W at *
            generalize hG : w.heap.size = G at *
            have c0 := Blk.cell HH.out.1 0
            have c1 := Blk.cell HH.out.1 1
            have c2 := Blk.cell HH.out.1 2
            have c4 := Blk.cell HH.out.1 4
            have r0 := Blk.cell HH.out.2.2.1 0
            have g0 := Blk.frozen HH.out.2.2.1 0
            have f0 := Blk.frozen HH.out.2.1 0
            have d0 := Blk.cell HH.out.2.1 0
            have r1 := Blk.cell HH.out.2.2.1 1
            have g1 := Blk.frozen HH.out.2.2.1 1
            have f1 := Blk.frozen HH.out.2.1 1
            have d1 := Blk.cell HH.out.2.1 1
            have r2 := Blk.cell HH.out.2.2.1 2
            have g2 := Blk.frozen HH.out.2.2.1 2
            have f2 := Blk.frozen HH.out.2.1 2
            have d2 := Blk.cell HH.out.2.1 2
            have r3 := Blk.cell HH.out.2.2.1 3
            have g3 := Blk.frozen HH.out.2.2.1 3
            have f3 := Blk.frozen HH.out.2.1 3
            have d3 := Blk.cell HH.out.2.1 3
            have r4 := Blk.cell HH.out.2.2.1 4
            have g4 := Blk.frozen HH.out.2.2.1 4
            have f4 := Blk.frozen HH.out.2.1 4
            have d4 := Blk.cell HH.out.2.1 4
            have r5 := Blk.cell HH.out.2.2.1 5
            have g5 := Blk.frozen HH.out.2.2.1 5
            have f5 := Blk.frozen HH.out.2.1 5
            have d5 := Blk.cell HH.out.2.1 5
            have r6 := Blk.cell HH.out.2.2.1 6
            have g6 := Blk.frozen HH.out.2.2.1 6
            have f6 := Blk.frozen HH.out.2.1 6
            have d6 := Blk.cell HH.out.2.1 6
            have r7 := Blk.cell HH.out.2.2.1 7
            have g7 := Blk.frozen HH.out.2.2.1 7
            have f7 := Blk.frozen HH.out.2.1 7
            have d7 := Blk.cell HH.out.2.1 7
            simp at c0 c1 c2 c4 r0 r1 r2 r3 r4 r5 r6 r7 d0 d1 d2 d3 d4 d5 d6 d7
            go_wp2_with fail
            clear c0 c1 c2 c4 r0 g0 f0 d0 r1 g1 f1 d1 r2 g2 f2 d2 r3 g3 f3 d3 r4 g4 f4 d4 r5 g5 f5 d5 r6 g6 f6 d6 r7 g7 f7 d7
            have hz : Blk W (G + 1) 33 (sa (Sm.zero 0)) := HH.out.2.1
            have hB := Blk.set8 hz ⟨st, 0, 0, 1, false, false, 0, 1⟩
            have hW := below_set8 HH.out.2.2.2 (show G ≤ G + 1 by omega) ⟨st, 0, 0, 1, false, false, 0, 1⟩
            exact ret_cell8 (t := 33) (g := G + 1) (x := ⟨st, 0, 0, 1, false, false, 0, 1⟩) rfl rfl rfl hB (fun W' h => load8 W' h) ⟨rfl, by first | exact hW | (rw [hG]; exact hW)⟩
          · skip
            rw [show oneL ⟨wh, st, n, s, en⟩ = ⟨st, 0, 0, 1, false, false, 0, 0⟩ by unfold oneL; simp only; rw [if_neg h1, if_neg h2, if_neg h3, if_neg h4]]
            clear eN
            go_enter Try.func23, Try.ntmps23
            go_upto_region 5 with fail
            generalize (((w.alloc (.cells #[.int .i64 wh, .int .i64 st, .int .i64 n, .string s, .bool en] 45)).alloc (.cells #[.int .i64 0, .int .i64 0, .int .i64 0, .int .i64 0, .bool false, .bool false, .int .i64 0, .int .i64 0] 33)).alloc (.cells #[.int .i64 st, .int .i64 0, .int .i64 0, .int .i64 1, .bool false, .bool false, .int .i64 0, .int .i64 0] 33)) = W at *
            generalize hG : w.heap.size = G at *
            have c0 := Blk.cell HH.out.1 0
            have c1 := Blk.cell HH.out.1 1
            have c2 := Blk.cell HH.out.1 2
            have c4 := Blk.cell HH.out.1 4
            have r0 := Blk.cell HH.out.2.2.1 0
            have g0 := Blk.frozen HH.out.2.2.1 0
            have f0 := Blk.frozen HH.out.2.1 0
            have d0 := Blk.cell HH.out.2.1 0
            have r1 := Blk.cell HH.out.2.2.1 1
            have g1 := Blk.frozen HH.out.2.2.1 1
            have f1 := Blk.frozen HH.out.2.1 1
            have d1 := Blk.cell HH.out.2.1 1
            have r2 := Blk.cell HH.out.2.2.1 2
            have g2 := Blk.frozen HH.out.2.2.1 2
            have f2 := Blk.frozen HH.out.2.1 2
            have d2 := Blk.cell HH.out.2.1 2
            have r3 := Blk.cell HH.out.2.2.1 3
            have g3 := Blk.frozen HH.out.2.2.1 3
            have f3 := Blk.frozen HH.out.2.1 3
            have d3 := Blk.cell HH.out.2.1 3
            have r4 := Blk.cell HH.out.2.2.1 4
            have g4 := Blk.frozen HH.out.2.2.1 4
            have f4 := Blk.frozen HH.out.2.1 4
            have d4 := Blk.cell HH.out.2.1 4
            have r5 := Blk.cell HH.out.2.2.1 5
            have g5 := Blk.frozen HH.out.2.2.1 5
            have f5 := Blk.frozen HH.out.2.1 5
            have d5 := Blk.cell HH.out.2.1 5
            have r6 := Blk.cell HH.out.2.2.1 6
            have g6 := Blk.frozen HH.out.2.2.1 6
            have f6 := Blk.frozen HH.out.2.1 6
            have d6 := Blk.cell HH.out.2.1 6
            have r7 := Blk.cell HH.out.2.2.1 7
            have g7 := Blk.frozen HH.out.2.2.1 7
            have f7 := Blk.frozen HH.out.2.1 7
            have d7 := Blk.cell HH.out.2.1 7
            simp at c0 c1 c2 c4 r0 r1 r2 r3 r4 r5 r6 r7 d0 d1 d2 d3 d4 d5 d6 d7
            go_wp2_with fail
            clear c0 c1 c2 c4 r0 g0 f0 d0 r1 g1 f1 d1 r2 g2 f2 d2 r3 g3 f3 d3 r4 g4 f4 d4 r5 g5 f5 d5 r6 g6 f6 d6 r7 g7 f7 d7
            have hz : Blk W (G + 1) 33 (sa (Sm.zero 0)) := HH.out.2.1
            have hB := Blk.set8 hz ⟨st, 0, 0, 1, false, false, 0, 0⟩
            have hW := below_set8 HH.out.2.2.2 (show G ≤ G + 1 by omega) ⟨st, 0, 0, 1, false, false, 0, 0⟩
            exact ret_cell8 (t := 33) (g := G + 1) (x := ⟨st, 0, 0, 1, false, false, 0, 0⟩) rfl rfl rfl hB (fun W' h => load8 W' h) ⟨rfl, by first | exact hW | (rw [hG]; exact hW)⟩

end Go.Proofs.Yteokepnkgdhkkaa
