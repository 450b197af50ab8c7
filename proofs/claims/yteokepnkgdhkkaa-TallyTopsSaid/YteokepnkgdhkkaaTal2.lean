/- The walks of package tally: number, one; and the answer's own of one move. -/
import Derived.Test.YteokepnkgdhkkaaRows
import Derived.WalkKit
import Derived.ProofKit
import Derived.Handy
import Derived.Deep.QuietTactic
import Derived.BigQuiet
import Derived.Deep.Cut
import Derived.Deep.RegionWith
import Derived.Deep.RegionHeld3
import Derived.Deep.AppendLies
import Derived.WalkLawsBesides
import Derived.WalkSmall
import Derived.Test.YteokepnkgdhkkaaTalB
namespace Go.Proofs.Yteokepnkgdhkkaa
open Go.RowKit
set_option linter.unusedVariables false
def numI (n : Int) : Int := if n < 0 ∨ 1099511627776 < n then 0 else n
theorem numI_bd (n : Int) : 0 ≤ numI n ∧ numI n ≤ 1099511627776 := by
  unfold numI
  split <;> omega
theorem number_any (n : Int) (w : World) : Calls Try.prog 28 #[.int .i64 n] w fun e w' => e = .returned (.int .i64 (numI n)) ∧ w = w' := by
  by_cases h1 : n < 0
  · rw [show numI n = 0 by unfold numI; rw [if_pos (.inl h1)]]
    go_enter Try.func28, Try.ntmps28
    go_wp2_with fail
    go_ret
    exact ⟨rfl, rfl⟩
  · by_cases h2 : 1099511627776 < n
    · rw [show numI n = 0 by unfold numI; rw [if_pos (.inr h2)]]
      go_enter Try.func28, Try.ntmps28
      go_wp2_with fail
      go_ret
      exact ⟨rfl, rfl⟩
    · rw [show numI n = n by unfold numI; rw [if_neg (by omega)]]
      have h3 : 0 ≤ n := by omega
      have h4 : n ≤ 1099511627776 := by omega
      clear h1 h2
      go_enter Try.func28, Try.ntmps28
      go_wp2_with fail
      go_ret
      exact ⟨rfl, rfl⟩
structure Mv where
  wh : Int
  st : Int
  n : Int
  s : ByteArray
  e : Bool
def ma (m : Mv) : Array Value := #[.int .i64 m.wh, .int .i64 m.st, .int .i64 m.n, .string m.s, .bool m.e]
def oneL (m : Mv) : Sm :=
  if m.wh = 1 then ⟨m.st, numI m.n, 0, 1, m.e, false, 0, 0⟩ else if m.wh = 2 then ⟨m.st, 0, numI m.n, 1, false, m.e, 0, 0⟩
  else if m.wh = 3 then ⟨m.st, 0, 0, 1, false, false, 1, 0⟩ else if m.wh = 4 then ⟨m.st, 0, 0, 1, false, false, 0, 1⟩ else ⟨m.st, 0, 0, 1, false, false, 0, 0⟩
theorem oneL_bd (m : Mv) : (oneL m).bd 1099511627776 := by
  have := numI_bd m.n
  unfold oneL Sm.bd
  repeat' split
  all_goals simp only; omega
set_option maxHeartbeats 4000000 in
theorem one_any (m : Mv) (w : World) : Calls Try.prog 20 #[.agg (ma m)] w fun e w' => e = .returned (.agg (sa (oneL m))) ∧ Below w.heap.size w w' := by
  obtain ⟨wh, st, n, s, en⟩ := m
  have zz := Blk.alloc (Blk.alloc (Blk.new w 45 #[.int .i64 wh, .int .i64 st, .int .i64 n, .string s, .bool en]) (.cells #[.int .i64 0, .int .i64 0, .int .i64 0, .int .i64 0, .bool false, .bool false, .int .i64 0, .int .i64 0] 33)) (.cells #[.int .i64 st, .int .i64 0, .int .i64 0, .int .i64 1, .bool false, .bool false, .int .i64 0, .int .i64 0] 33)
  have yy := Blk.alloc (Blk.new (w.alloc (.cells #[.int .i64 wh, .int .i64 st, .int .i64 n, .string s, .bool en] 45)) 33 #[.int .i64 0, .int .i64 0, .int .i64 0, .int .i64 0, .bool false, .bool false, .int .i64 0, .int .i64 0]) (.cells #[.int .i64 st, .int .i64 0, .int .i64 0, .int .i64 1, .bool false, .bool false, .int .i64 0, .int .i64 0] 33)
  have rr := Blk.new ((w.alloc (.cells #[.int .i64 wh, .int .i64 st, .int .i64 n, .string s, .bool en] 45)).alloc (.cells #[.int .i64 0, .int .i64 0, .int .i64 0, .int .i64 0, .bool false, .bool false, .int .i64 0, .int .i64 0] 33)) 33 #[.int .i64 st, .int .i64 0, .int .i64 0, .int .i64 1, .bool false, .bool false, .int .i64 0, .int .i64 0]
  have BB : Below w.heap.size w (((w.alloc (.cells #[.int .i64 wh, .int .i64 st, .int .i64 n, .string s, .bool en] 45)).alloc (.cells #[.int .i64 0, .int .i64 0, .int .i64 0, .int .i64 0, .bool false, .bool false, .int .i64 0, .int .i64 0] 33)).alloc (.cells #[.int .i64 st, .int .i64 0, .int .i64 0, .int .i64 1, .bool false, .bool false, .int .i64 0, .int .i64 0] 33)) := ((((Below.refl _ _).alloc (Nat.le_refl _) _).alloc (by simp) _).alloc (by simp; omega) _)
  rw [World.size_alloc] at yy rr
  rw [World.size_alloc] at rr
  have HH := Lib.hid (And.intro zz (And.intro yy (And.intro rr BB)))
  clear zz yy rr BB
  unfold ma
  by_cases h1 : wh = 1
  · subst h1
    rw [show oneL ⟨1, st, n, s, en⟩ = ⟨st, numI n, 0, 1, en, false, 0, 0⟩ from rfl]
    go_enter Try.func20, Try.ntmps20
    go_wp2_with fail
    refine (number_any _ _).mono ?_
    rintro e w1 ⟨rfl, rfl⟩
    generalize (((w.alloc (.cells #[.int .i64 1, .int .i64 st, .int .i64 n, .string s, .bool en] 45)).alloc (.cells #[.int .i64 0, .int .i64 0, .int .i64 0, .int .i64 0, .bool false, .bool false, .int .i64 0, .int .i64 0] 33)).alloc (.cells #[.int .i64 st, .int .i64 0, .int .i64 0, .int .i64 1, .bool false, .bool false, .int .i64 0, .int .i64 0] 33)) = W at *
    generalize hG : w.heap.size = G at *
    have c0 := Blk.cell HH.out.1 0
    have c1 := Blk.cell HH.out.1 1
    have c2 := Blk.cell HH.out.1 2
    have c4 := Blk.cell HH.out.1 4
    have r0 := Blk.cell HH.out.2.2.1 0
    have g0 := Blk.frozen HH.out.2.2.1 0
    have f0 := Blk.frozen HH.out.2.1 0
    have d0 := Blk.cell HH.out.2.1 0
    have r1 := Blk.cell HH.out.2.2.1 1
    have g1 := Blk.frozen HH.out.2.2.1 1
    have f1 := Blk.frozen HH.out.2.1 1
    have d1 := Blk.cell HH.out.2.1 1
    have r2 := Blk.cell HH.out.2.2.1 2
    have g2 := Blk.frozen HH.out.2.2.1 2
    have f2 := Blk.frozen HH.out.2.1 2
    have d2 := Blk.cell HH.out.2.1 2
    have r3 := Blk.cell HH.out.2.2.1 3
    have g3 := Blk.frozen HH.out.2.2.1 3
    have f3 := Blk.frozen HH.out.2.1 3
    have d3 := Blk.cell HH.out.2.1 3
    have r4 := Blk.cell HH.out.2.2.1 4
    have g4 := Blk.frozen HH.out.2.2.1 4
    have f4 := Blk.frozen HH.out.2.1 4
    have d4 := Blk.cell HH.out.2.1 4
    have r5 := Blk.cell HH.out.2.2.1 5
    have g5 := Blk.frozen HH.out.2.2.1 5
    have f5 := Blk.frozen HH.out.2.1 5
    have d5 := Blk.cell HH.out.2.1 5
    have r6 := Blk.cell HH.out.2.2.1 6
    have g6 := Blk.frozen HH.out.2.2.1 6
    have f6 := Blk.frozen HH.out.2.1 6
    have d6 := Blk.cell HH.out.2.1 6
    have r7 := Blk.cell HH.out.2.2.1 7
    have g7 := Blk.frozen HH.out.2.2.1 7
    have f7 := Blk.frozen HH.out.2.1 7
    have d7 := Blk.cell HH.out.2.1 7
    simp at c0 c1 c2 c4 r0 r1 r2 r3 r4 r5 r6 r7 d0 d1 d2 d3 d4 d5 d6 d7
    go_wp2_with fail
    go_region
    all_goals go_wp2_with fail
    clear c0 c1 c2 c4 r0 g0 f0 d0 r1 g1 f1 d1 r2 g2 f2 d2 r3 g3 f3 d3 r4 g4 f4 d4 r5 g5 f5 d5 r6 g6 f6 d6 r7 g7 f7 d7
    have hz : Blk W (G + 1) 33 (sa (Sm.zero 0)) := HH.out.2.1
    have hB := Blk.set8 ((hz.far (p := ⟨G + 1 + 1, 1, none⟩) (by simp) (.int .i64 (numI n))).far (p := ⟨G + 1 + 1, 4, none⟩) (by simp) (.bool en)) ⟨st, numI n, 0, 1, en, false, 0, 0⟩
    have hW := below_set8 ((HH.out.2.2.2.setCell (p := ⟨G + 1 + 1, 1, none⟩) (by simp; omega) (.int .i64 (numI n))).setCell (p := ⟨G + 1 + 1, 4, none⟩) (by simp; omega) (.bool en)) (show G ≤ G + 1 by omega) ⟨st, numI n, 0, 1, en, false, 0, 0⟩
    exact ret_cell8 (t := 33) (g := G + 1) (x := ⟨st, numI n, 0, 1, en, false, 0, 0⟩) rfl rfl rfl hB.drew (fun W' h => load8 W' h) ⟨rfl, by rw [hG]; exact hW.drew⟩
  · by_cases h2 : wh = 2
    · subst h2
      rw [show oneL ⟨2, st, n, s, en⟩ = ⟨st, 0, numI n, 1, false, en, 0, 0⟩ from rfl]
      go_enter Try.func20, Try.ntmps20
      go_wp2_with fail
      refine (number_any _ _).mono ?_
      rintro e w1 ⟨rfl, rfl⟩
      generalize (((w.alloc (.cells #[.int .i64 2, .int .i64 st, .int .i64 n, .string s, .bool en] 45)).alloc (.cells #[.int .i64 0, .int .i64 0, .int .i64 0, .int .i64 0, .bool false, .bool false, .int .i64 0, .int .i64 0] 33)).alloc (.cells #[.int .i64 st, .int .i64 0, .int .i64 0, .int .i64 1, .bool false, .bool false, .int .i64 0, .int .i64 0] 33)) = W at *
      generalize hG : w.heap.size = G at *
      have c0 := Blk.cell HH.out.1 0
      have c1 := Blk.cell HH.out.1 1
      have c2 := Blk.cell HH.out.1 2
      have c4 := Blk.cell HH.out.1 4
      have r0 := Blk.cell HH.out.2.2.1 0
      have g0 := Blk.frozen HH.out.2.2.1 0
      have f0 := Blk.frozen HH.out.2.1 0
      have d0 := Blk.cell HH.out.2.1 0
      have r1 := Blk.cell HH.out.2.2.1 1
      have g1 := Blk.frozen HH.out.2.2.1 1
      have f1 := Blk.frozen HH.out.2.1 1
      have d1 := Blk.cell HH.out.2.1 1
      have r2 := Blk.cell HH.out.2.2.1 2
      have g2 := Blk.frozen HH.out.2.2.1 2
      have f2 := Blk.frozen HH.out.2.1 2
      have d2 := Blk.cell HH.out.2.1 2
      have r3 := Blk.cell HH.out.2.2.1 3
      have g3 := Blk.frozen HH.out.2.2.1 3
      have f3 := Blk.frozen HH.out.2.1 3
      have d3 := Blk.cell HH.out.2.1 3
      have r4 := Blk.cell HH.out.2.2.1 4
      have g4 := Blk.frozen HH.out.2.2.1 4
      have f4 := Blk.frozen HH.out.2.1 4
      have d4 := Blk.cell HH.out.2.1 4
      have r5 := Blk.cell HH.out.2.2.1 5
      have g5 := Blk.frozen HH.out.2.2.1 5
      have f5 := Blk.frozen HH.out.2.1 5
      have d5 := Blk.cell HH.out.2.1 5
      have r6 := Blk.cell HH.out.2.2.1 6
      have g6 := Blk.frozen HH.out.2.2.1 6
      have f6 := Blk.frozen HH.out.2.1 6
      have d6 := Blk.cell HH.out.2.1 6
      have r7 := Blk.cell HH.out.2.2.1 7
      have g7 := Blk.frozen HH.out.2.2.1 7
      have f7 := Blk.frozen HH.out.2.1 7
      have d7 := Blk.cell HH.out.2.1 7
      simp at c0 c1 c2 c4 r0 r1 r2 r3 r4 r5 r6 r7 d0 d1 d2 d3 d4 d5 d6 d7
      go_wp2_with fail
      go_region
      all_goals go_wp2_with fail
      clear c0 c1 c2 c4 r0 g0 f0 d0 r1 g1 f1 d1 r2 g2 f2 d2 r3 g3 f3 d3 r4 g4 f4 d4 r5 g5 f5 d5 r6 g6 f6 d6 r7 g7 f7 d7
      have hz : Blk W (G + 1) 33 (sa (Sm.zero 0)) := HH.out.2.1
      have hB := Blk.set8 ((hz.far (p := ⟨G + 1 + 1, 2, none⟩) (by simp) (.int .i64 (numI n))).far (p := ⟨G + 1 + 1, 5, none⟩) (by simp) (.bool en)) ⟨st, 0, numI n, 1, false, en, 0, 0⟩
      have hW := below_set8 ((HH.out.2.2.2.setCell (p := ⟨G + 1 + 1, 2, none⟩) (by simp; omega) (.int .i64 (numI n))).setCell (p := ⟨G + 1 + 1, 5, none⟩) (by simp; omega) (.bool en)) (show G ≤ G + 1 by omega) ⟨st, 0, numI n, 1, false, en, 0, 0⟩
      exact ret_cell8 (t := 33) (g := G + 1) (x := ⟨st, 0, numI n, 1, false, en, 0, 0⟩) rfl rfl rfl hB.drew (fun W' h => load8 W' h) ⟨rfl, by rw [hG]; exact hW.drew⟩
    · by_cases h3 : wh = 3
      · subst h3
        rw [show oneL ⟨3, st, n, s, en⟩ = ⟨st, 0, 0, 1, false, false, 1, 0⟩ from rfl]
        go_enter Try.func20, Try.ntmps20
        go_wp2_with fail
        refine (number_any _ _).mono ?_
        rintro e w1 ⟨rfl, rfl⟩
        generalize (((w.alloc (.cells #[.int .i64 3, .int .i64 st, .int .i64 n, .string s, .bool en] 45)).alloc (.cells #[.int .i64 0, .int .i64 0, .int .i64 0, .int .i64 0, .bool false, .bool false, .int .i64 0, .int .i64 0] 33)).alloc (.cells #[.int .i64 st, .int .i64 0, .int .i64 0, .int .i64 1, .bool false, .bool false, .int .i64 0, .int .i64 0] 33)) = W at *
        generalize hG : w.heap.size = G at *
        have c0 := Blk.cell HH.out.1 0
        have c1 := Blk.cell HH.out.1 1
        have c2 := Blk.cell HH.out.1 2
        have c4 := Blk.cell HH.out.1 4
        have r0 := Blk.cell HH.out.2.2.1 0
        have g0 := Blk.frozen HH.out.2.2.1 0
        have f0 := Blk.frozen HH.out.2.1 0
        have d0 := Blk.cell HH.out.2.1 0
        have r1 := Blk.cell HH.out.2.2.1 1
        have g1 := Blk.frozen HH.out.2.2.1 1
        have f1 := Blk.frozen HH.out.2.1 1
        have d1 := Blk.cell HH.out.2.1 1
        have r2 := Blk.cell HH.out.2.2.1 2
        have g2 := Blk.frozen HH.out.2.2.1 2
        have f2 := Blk.frozen HH.out.2.1 2
        have d2 := Blk.cell HH.out.2.1 2
        have r3 := Blk.cell HH.out.2.2.1 3
        have g3 := Blk.frozen HH.out.2.2.1 3
        have f3 := Blk.frozen HH.out.2.1 3
        have d3 := Blk.cell HH.out.2.1 3
        have r4 := Blk.cell HH.out.2.2.1 4
        have g4 := Blk.frozen HH.out.2.2.1 4
        have f4 := Blk.frozen HH.out.2.1 4
        have d4 := Blk.cell HH.out.2.1 4
        have r5 := Blk.cell HH.out.2.2.1 5
        have g5 := Blk.frozen HH.out.2.2.1 5
        have f5 := Blk.frozen HH.out.2.1 5
        have d5 := Blk.cell HH.out.2.1 5
        have r6 := Blk.cell HH.out.2.2.1 6
        have g6 := Blk.frozen HH.out.2.2.1 6
        have f6 := Blk.frozen HH.out.2.1 6
        have d6 := Blk.cell HH.out.2.1 6
        have r7 := Blk.cell HH.out.2.2.1 7
        have g7 := Blk.frozen HH.out.2.2.1 7
        have f7 := Blk.frozen HH.out.2.1 7
        have d7 := Blk.cell HH.out.2.1 7
        simp at c0 c1 c2 c4 r0 r1 r2 r3 r4 r5 r6 r7 d0 d1 d2 d3 d4 d5 d6 d7
        go_wp2_with fail
        clear c0 c1 c2 c4 r0 g0 f0 d0 r1 g1 f1 d1 r2 g2 f2 d2 r3 g3 f3 d3 r4 g4 f4 d4 r5 g5 f5 d5 r6 g6 f6 d6 r7 g7 f7 d7
        have hz : Blk W (G + 1) 33 (sa (Sm.zero 0)) := HH.out.2.1
        have hB := Blk.set8 (hz.far (p := ⟨G + 1 + 1, 6, none⟩) (by simp) (.int .i64 1)) ⟨st, 0, 0, 1, false, false, 1, 0⟩
        have hW := below_set8 (HH.out.2.2.2.setCell (p := ⟨G + 1 + 1, 6, none⟩) (by simp; omega) (.int .i64 1)) (show G ≤ G + 1 by omega) ⟨st, 0, 0, 1, false, false, 1, 0⟩
        exact ret_cell8 (t := 33) (g := G + 1) (x := ⟨st, 0, 0, 1, false, false, 1, 0⟩) rfl rfl rfl hB (fun W' h => load8 W' h) ⟨rfl, by rw [hG]; exact hW⟩
      · by_cases h4 : wh = 4
        · subst h4
          rw [show oneL ⟨4, st, n, s, en⟩ = ⟨st, 0, 0, 1, false, false, 0, 1⟩ from rfl]
          go_enter Try.func20, Try.ntmps20
          go_wp2_with fail
          refine (number_any _ _).mono ?_
          rintro e w1 ⟨rfl, rfl⟩
          generalize (((w.alloc (.cells #[.int .i64 4, .int .i64 st, .int .i64 n, .string s, .bool en] 45)).alloc (.cells #[.int .i64 0, .int .i64 0, .int .i64 0, .int .i64 0, .bool false, .bool false, .int .i64 0, .int .i64 0] 33)).alloc (.cells #[.int .i64 st, .int .i64 0, .int .i64 0, .int .i64 1, .bool false, .bool false, .int .i64 0, .int .i64 0] 33)) = W at *
          generalize hG : w.heap.size = G at *
          have c0 := Blk.cell HH.out.1 0
          have c1 := Blk.cell HH.out.1 1
          have c2 := Blk.cell HH.out.1 2
          have c4 := Blk.cell HH.out.1 4
          have r0 := Blk.cell HH.out.2.2.1 0
          have g0 := Blk.frozen HH.out.2.2.1 0
          have f0 := Blk.frozen HH.out.2.1 0
          have d0 := Blk.cell HH.out.2.1 0
          have r1 := Blk.cell HH.out.2.2.1 1
          have g1 := Blk.frozen HH.out.2.2.1 1
          have f1 := Blk.frozen HH.out.2.1 1
          have d1 := Blk.cell HH.out.2.1 1
          have r2 := Blk.cell HH.out.2.2.1 2
          have g2 := Blk.frozen HH.out.2.2.1 2
          have f2 := Blk.frozen HH.out.2.1 2
          have d2 := Blk.cell HH.out.2.1 2
          have r3 := Blk.cell HH.out.2.2.1 3
          have g3 := Blk.frozen HH.out.2.2.1 3
          have f3 := Blk.frozen HH.out.2.1 3
          have d3 := Blk.cell HH.out.2.1 3
          have r4 := Blk.cell HH.out.2.2.1 4
          have g4 := Blk.frozen HH.out.2.2.1 4
          have f4 := Blk.frozen HH.out.2.1 4
          have d4 := Blk.cell HH.out.2.1 4
          have r5 := Blk.cell HH.out.2.2.1 5
          have g5 := Blk.frozen HH.out.2.2.1 5
          have f5 := Blk.frozen HH.out.2.1 5
          have d5 := Blk.cell HH.out.2.1 5
          have r6 := Blk.cell HH.out.2.2.1 6
          have g6 := Blk.frozen HH.out.2.2.1 6
          have f6 := Blk.frozen HH.out.2.1 6
          have d6 := Blk.cell HH.out.2.1 6
          have r7 := Blk.cell HH.out.2.2.1 7
          have g7 := Blk.frozen HH.out.2.2.1 7
          have f7 := Blk.frozen HH.out.2.1 7
          have d7 := Blk.cell HH.out.2.1 7
          simp at c0 c1 c2 c4 r0 r1 r2 r3 r4 r5 r6 r7 d0 d1 d2 d3 d4 d5 d6 d7
          go_wp2_with fail
          clear c0 c1 c2 c4 r0 g0 f0 d0 r1 g1 f1 d1 r2 g2 f2 d2 r3 g3 f3 d3 r4 g4 f4 d4 r5 g5 f5 d5 r6 g6 f6 d6 r7 g7 f7 d7
          have hz : Blk W (G + 1) 33 (sa (Sm.zero 0)) := HH.out.2.1
          have hB := Blk.set8 (hz.far (p := ⟨G + 1 + 1, 7, none⟩) (by simp) (.int .i64 1)) ⟨st, 0, 0, 1, false, false, 0, 1⟩
          have hW := below_set8 (HH.out.2.2.2.setCell (p := ⟨G + 1 + 1, 7, none⟩) (by simp; omega) (.int .i64 1)) (show G ≤ G + 1 by omega) ⟨st, 0, 0, 1, false, false, 0, 1⟩
          exact ret_cell8 (t := 33) (g := G + 1) (x := ⟨st, 0, 0, 1, false, false, 0, 1⟩) rfl rfl rfl hB (fun W' h => load8 W' h) ⟨rfl, by rw [hG]; exact hW⟩
        · rw [show oneL ⟨wh, st, n, s, en⟩ = ⟨st, 0, 0, 1, false, false, 0, 0⟩ by unfold oneL; simp only; rw [if_neg h1, if_neg h2, if_neg h3, if_neg h4]]
          go_enter Try.func20, Try.ntmps20
          go_wp2_with fail
          refine (number_any _ _).mono ?_
          rintro e w1 ⟨rfl, rfl⟩
          generalize (((w.alloc (.cells #[.int .i64 wh, .int .i64 st, .int .i64 n, .string s, .bool en] 45)).alloc (.cells #[.int .i64 0, .int .i64 0, .int .i64 0, .int .i64 0, .bool false, .bool false, .int .i64 0, .int .i64 0] 33)).alloc (.cells #[.int .i64 st, .int .i64 0, .int .i64 0, .int .i64 1, .bool false, .bool false, .int .i64 0, .int .i64 0] 33)) = W at *
          generalize hG : w.heap.size = G at *
          have c0 := Blk.cell HH.out.1 0
          have c1 := Blk.cell HH.out.1 1
          have c2 := Blk.cell HH.out.1 2
          have c4 := Blk.cell HH.out.1 4
          have r0 := Blk.cell HH.out.2.2.1 0
          have g0 := Blk.frozen HH.out.2.2.1 0
          have f0 := Blk.frozen HH.out.2.1 0
          have d0 := Blk.cell HH.out.2.1 0
          have r1 := Blk.cell HH.out.2.2.1 1
          have g1 := Blk.frozen HH.out.2.2.1 1
          have f1 := Blk.frozen HH.out.2.1 1
          have d1 := Blk.cell HH.out.2.1 1
          have r2 := Blk.cell HH.out.2.2.1 2
          have g2 := Blk.frozen HH.out.2.2.1 2
          have f2 := Blk.frozen HH.out.2.1 2
          have d2 := Blk.cell HH.out.2.1 2
          have r3 := Blk.cell HH.out.2.2.1 3
          have g3 := Blk.frozen HH.out.2.2.1 3
          have f3 := Blk.frozen HH.out.2.1 3
          have d3 := Blk.cell HH.out.2.1 3
          have r4 := Blk.cell HH.out.2.2.1 4
          have g4 := Blk.frozen HH.out.2.2.1 4
          have f4 := Blk.frozen HH.out.2.1 4
          have d4 := Blk.cell HH.out.2.1 4
          have r5 := Blk.cell HH.out.2.2.1 5
          have g5 := Blk.frozen HH.out.2.2.1 5
          have f5 := Blk.frozen HH.out.2.1 5
          have d5 := Blk.cell HH.out.2.1 5
          have r6 := Blk.cell HH.out.2.2.1 6
          have g6 := Blk.frozen HH.out.2.2.1 6
          have f6 := Blk.frozen HH.out.2.1 6
          have d6 := Blk.cell HH.out.2.1 6
          have r7 := Blk.cell HH.out.2.2.1 7
          have g7 := Blk.frozen HH.out.2.2.1 7
          have f7 := Blk.frozen HH.out.2.1 7
          have d7 := Blk.cell HH.out.2.1 7
          simp at c0 c1 c2 c4 r0 r1 r2 r3 r4 r5 r6 r7 d0 d1 d2 d3 d4 d5 d6 d7
          go_wp2_with fail
          clear c0 c1 c2 c4 r0 g0 f0 d0 r1 g1 f1 d1 r2 g2 f2 d2 r3 g3 f3 d3 r4 g4 f4 d4 r5 g5 f5 d5 r6 g6 f6 d6 r7 g7 f7 d7
          have hz : Blk W (G + 1) 33 (sa (Sm.zero 0)) := HH.out.2.1
          have hB := Blk.set8 hz ⟨st, 0, 0, 1, false, false, 0, 0⟩
          have hW := below_set8 HH.out.2.2.2 (show G ≤ G + 1 by omega) ⟨st, 0, 0, 1, false, false, 0, 0⟩
          exact ret_cell8 (t := 33) (g := G + 1) (x := ⟨st, 0, 0, 1, false, false, 0, 0⟩) rfl rfl rfl hB (fun W' h => load8 W' h) ⟨rfl, by rw [hG]; exact hW⟩

end Go.Proofs.Yteokepnkgdhkkaa
