/- The walk of shake.Send. -/
import Derived.Test.YtdegdikkjaifiaaRows
import Derived.WalkKit
import Derived.ProofKit
import Derived.Handy
import Derived.Test.YtdegdikkjaifiaaMem
import Derived.Test.YtdegdikkjaifiaaLift
import Derived.Test.YtdegdikkjaifiaaApp
import Derived.Test.YtdegdikkjaifiaaParams2
import Derived.Test.YtdegdikkjaifiaaShake
import Derived.Test.YtdegdikkjaifiaaOrd
import Derived.Deep.QuietTactic
import Derived.BigQuiet
import Derived.Deep.RegionWith
import Derived.Deep.RegionHeld3
import Derived.Deep.RegionLaw
import Derived.StillTailTactics
import Derived.Deep.AppendLies
import Derived.WalkLawsBesides
import Derived.WalkSmall
namespace Go.Proofs.Ytdegdikkjaifiaa
open Go.RowKit
set_option linter.unusedVariables false


theorem info_S : (Try.prog.info? 27).map (fun i => (i.zero, i.size, i.bytes)) = some (some (.agg #[.int .i64 0, .int .i64 0, .int .i64 0]), 3, 24) := by kernel_rfl
def hi3 (a b : Set3) : Set3 := (max a.1 b.1, max a.2.1 b.2.1, max a.2.2 b.2.2)

theorem send_nil (x y z : Int) (w : World) :
    Calls Try.prog 8 #[.pointer none, .agg #[.int .i64 x, .int .i64 y, .int .i64 z]] w fun e w' => e = .returned (.tuple #[.slice none 0 0, .int .i64 1]) ∧ Below w.heap.size w w' := by
  have hC := Lib.hid (fun W => check_any x y z W)
  go_enter Try.func8, Try.ntmps8
  go_wp2_with fail
  refine (hC.out _).mono ?_
  rintro e w1 ⟨rfl, b1⟩
  go_wp2_with fail
  all_goals go_ret2
  all_goals exact ⟨rfl, ((Below.refl _ _).alloc (Nat.le_refl _) _).trans (b1.mono (by simp))⟩

theorem send_range (g : Nat) (x y z : Int) (w : World) (hr : rightB x y z = false) :
    Calls Try.prog 8 #[.pointer (some ⟨g, 0, none⟩), .agg #[.int .i64 x, .int .i64 y, .int .i64 z]] w fun e w' => e = .returned (.tuple #[.slice none 0 0, .int .i64 3]) ∧ Below w.heap.size w w' := by
  have hC := fun W => check_any x y z W
  rw [hr] at hC
  simp only [Bool.false_eq_true, if_false] at hC
  have HC := Lib.hid hC
  clear hC hr
  go_enter Try.func8, Try.ntmps8
  go_wp2_with fail
  refine (HC.out _).mono ?_
  rintro e w1 ⟨rfl, b1⟩
  go_wp2_with fail
  go_ret2
  exact ⟨rfl, ((Below.refl _ _).alloc (Nat.le_refl _) _).trans (b1.mono (by simp))⟩

theorem send_limit (g : Nat) (h q : Set3) (L : List Set3) (x y z : Int) (w : World) (k : ShakeAt w g h q L) (hr : rightB x y z = true) (hL : 4 ≤ L.length) :
    Calls Try.prog 8 #[.pointer (some ⟨g, 0, none⟩), .agg #[.int .i64 x, .int .i64 y, .int .i64 z]] w fun e w' => e = .returned (.tuple #[.slice none 0 0, .int .i64 16]) ∧ Below w.heap.size w w' := by
  have hC := fun W => check_any x y z W
  rw [hr] at hC
  simp only [if_true] at hC
  have HC := Lib.hid hC
  clear hC hr
  have K := Lib.hid k
  clear k
  go_enter Try.func8, Try.ntmps8
  go_wp2_with fail
  refine (HC.out _).mono ?_
  rintro e w1 ⟨rfl, b1⟩
  have B1 : Below w.heap.size w w1 := ((Below.refl _ _).alloc (Nat.le_refl _) _).trans (b1.mono (by simp))
  obtain ⟨A, cap, h1, h2⟩ := K.out.below B1
  have c6 := Blk.cell h1 6
  simp at c6
  clear h1 h2
  go_wp2_with fail
  go_ret2
  exact ⟨rfl, B1⟩

def Sent (w : World) (g : Nat) (h q : Set3) (L : List Set3) (to : Set3) (e : Ending) (w' : World) : Prop :=
  ∃ A c, e = .returned (.tuple #[.slice A (diffL (latest h L).1 (latest h L).2.1 (latest h L).2.2 to.1 to.2.1 to.2.2).length c, .int .i64 0]) ∧ Pairs w' A c (diffL (latest h L).1 (latest h L).2.1 (latest h L).2.2 to.1 to.2.1 to.2.2) ∧ ShakeAt w' g h (hi3 q to) (L ++ [to]) ∧ Only [g] w w'

def SentIn (w : World) (g : Nat) (h q : Set3) (L : List Set3) (to : Set3) (e : Ending) (w' : World) : Prop :=
  ∃ A c, e = .returned (.tuple #[.slice A (diffL (latest h L).1 (latest h L).2.1 (latest h L).2.2 to.1 to.2.1 to.2.2).length c, .int .i64 0]) ∧ Pairs w' A c (diffL (latest h L).1 (latest h L).2.1 (latest h L).2.2 to.1 to.2.1 to.2.2) ∧ ShakeIn w' g h (hi3 q to) (L ++ [to]) (fun b => w.heap.size ≤ b ∧ b < w'.heap.size) ∧ Only [g] w w'

set_option maxHeartbeats 4000000 in
theorem greater_any (a b : Set3) (w : World) :
    Calls Try.prog 19 #[.agg #[.int .i64 a.1, .int .i64 a.2.1, .int .i64 a.2.2], .agg #[.int .i64 b.1, .int .i64 b.2.1, .int .i64 b.2.2]] w fun e w' => e = .returned (.agg #[.int .i64 (max a.1 b.1), .int .i64 (max a.2.1 b.2.1), .int .i64 (max a.2.2 b.2.2)]) ∧ Below w.heap.size w w' := by
  obtain ⟨a1, a2, a3⟩ := a
  obtain ⟨b1, b2, b3⟩ := b
  simp only
  by_cases h1 : a1 < b1
  · rw [Int.max_eq_right (Int.le_of_lt h1)]
    by_cases h2 : a2 < b2
    · rw [Int.max_eq_right (Int.le_of_lt h2)]
      by_cases h3 : a3 < b3
      · rw [Int.max_eq_right (Int.le_of_lt h3)]
        go_enter Try.func19, Try.ntmps19
        go_wp2_with fail
        go_returns
        exact ⟨rfl, by go_grown⟩
      · rw [Int.max_eq_left (Int.not_lt.1 h3)]
        go_enter Try.func19, Try.ntmps19
        go_wp2_with fail
        go_returns
        exact ⟨rfl, by go_grown⟩
    · rw [Int.max_eq_left (Int.not_lt.1 h2)]
      by_cases h3 : a3 < b3
      · rw [Int.max_eq_right (Int.le_of_lt h3)]
        go_enter Try.func19, Try.ntmps19
        go_wp2_with fail
        go_returns
        exact ⟨rfl, by go_grown⟩
      · rw [Int.max_eq_left (Int.not_lt.1 h3)]
        go_enter Try.func19, Try.ntmps19
        go_wp2_with fail
        go_returns
        exact ⟨rfl, by go_grown⟩
  · rw [Int.max_eq_left (Int.not_lt.1 h1)]
    by_cases h2 : a2 < b2
    · rw [Int.max_eq_right (Int.le_of_lt h2)]
      by_cases h3 : a3 < b3
      · rw [Int.max_eq_right (Int.le_of_lt h3)]
        go_enter Try.func19, Try.ntmps19
        go_wp2_with fail
        go_returns
        exact ⟨rfl, by go_grown⟩
      · rw [Int.max_eq_left (Int.not_lt.1 h3)]
        go_enter Try.func19, Try.ntmps19
        go_wp2_with fail
        go_returns
        exact ⟨rfl, by go_grown⟩
    · rw [Int.max_eq_left (Int.not_lt.1 h2)]
      by_cases h3 : a3 < b3
      · rw [Int.max_eq_right (Int.le_of_lt h3)]
        go_enter Try.func19, Try.ntmps19
        go_wp2_with fail
        go_returns
        exact ⟨rfl, by go_grown⟩
      · rw [Int.max_eq_left (Int.not_lt.1 h3)]
        go_enter Try.func19, Try.ntmps19
        go_wp2_with fail
        go_returns
        exact ⟨rfl, by go_grown⟩

set_option maxHeartbeats 4000000 in
theorem send_in (g : Nat) (h q : Set3) (L : List Set3) (x y z : Int) (w : World) (k : ShakeAt w g h q L) (hr : rightB x y z = true) (hL : L.length < 4)
    (hx : -9223372036854775808 ≤ x ∧ x ≤ 9223372036854775807) (hy : -9223372036854775808 ≤ y ∧ y ≤ 9223372036854775807) (hz : -9223372036854775808 ≤ z ∧ z ≤ 9223372036854775807) :
    Calls Try.prog 8 #[.pointer (some ⟨g, 0, none⟩), .agg #[.int .i64 x, .int .i64 y, .int .i64 z]] w (SentIn w g h q L (x, y, z)) := by
  have hC := fun W => check_any x y z W
  rw [hr] at hC
  simp only [if_true] at hC
  have HC := Lib.hid hC
  have HLa := Lib.hid (fun (W : World) (hW : ShakeAt W g h q L) => latest_any g h q L W hW)
  have hD := fun W => diff_fresh (latest h L).1 (latest h L).2.1 (latest h L).2.2 x y z W hx hy hz
  unfold SentIn
  simp only
  generalize diffL (latest h L).1 (latest h L).2.1 (latest h L).2.2 x y z = D at *
  have HD := Lib.hid hD
  clear hC hr hD hx hy hz
  have K := Lib.hid k
  have hglt := k.lt
  clear k
  go_enter Try.func8, Try.ntmps8
  go_wp2_with fail
  refine (HC.out _).mono ?_
  rintro e w1 ⟨rfl, b1⟩
  have x1 : Blk w1 w.heap.size 27 #[.int .i64 x, .int .i64 y, .int .i64 z] := Blk.below (Blk.new _ _ _) b1 (by simp)
  have B1 : Below w.heap.size w w1 := ((Below.refl _ _).alloc (Nat.le_refl _) _).trans (b1.mono (by simp))
  have K1 := Lib.hid (K.out.below B1)
  obtain ⟨A, cap, h1, h2⟩ := K1.out
  have c6 := Blk.cell h1 6
  simp at c6
  have c0 := Blk.cell x1 0
  have c1 := Blk.cell x1 1
  have c2 := Blk.cell x1 2
  simp at c0 c1 c2
  clear h1 h2
  go_wp2_with fail
  go_region_held3 (fun w' => w'.cell? ⟨w.heap.size, 0, none⟩ = some (.int .i64 x) ∧ w'.cell? ⟨w.heap.size, 1, none⟩ = some (.int .i64 y) ∧ w'.cell? ⟨w.heap.size, 2, none⟩ = some (.int .i64 z))
    (first
      | go_keep
      | (refine ⟨?_, ?_, ?_⟩ <;> with_reducible assumption))
    ((first
      | (go_at_call 13
         refine (HLa.out _ (by exact K1.out)).mono ?_
         rintro e w2 ⟨rfl, b2⟩
         have x2 : Blk w2 w.heap.size 27 #[.int .i64 x, .int .i64 y, .int .i64 z] := Blk.below (by exact x1) b2 (Blk.lt x1)
         have k20 := Blk.cell x2 0
         have k21 := Blk.cell x2 1
         have k22 := Blk.cell x2 2
         simp at k20 k21 k22)
      | (go_at_call 18
         refine (HD.out _).mono ?_
         rintro e w3 ⟨A3, k3, rfl, hp3, b3, fr3⟩
         have x3 : Blk w3 w.heap.size 27 #[.int .i64 x, .int .i64 y, .int .i64 z] := Blk.below (by exact x2) b3 (Blk.lt x2)
         have k30 := Blk.cell x3 0
         have k31 := Blk.cell x3 1
         have k32 := Blk.cell x3 2
         simp at k30 k31 k32)))
  go_wp2_with fail
  have b2' : Below w1.heap.size w1 w2 := ⟨b2.os, b2.tape, b2.output, b2.size, b2.block⟩
  have K3 := (K1.out.below b2').below b3
  have B3 : Below w.heap.size w w3 := (B1.trans (b2'.mono B1.size)).trans (b3.mono (Nat.le_trans B1.size b2'.size))
  clear c6 c0 c1 c2 k20 k21 k22
  obtain ⟨A', cap', h1, h2⟩ := K3
  have hlt := Blk.lt h1
  have c6 := Blk.cell h1 6
  have f6 := Blk.frozen h1 6
  have hcap := h2.2.1
  have hcap2 := h2.2.2.1
  simp at c6
  obtain ⟨i0, hi0, hz0, hz1, hz2⟩ := info_parts info_S
  have e1 : (0 : Int) ≤ (L.length : Int) := by omega
  have e2 : (L.length : Int) ≤ (cap' : Int) := by omega
  refine wp_region_ord (fun w' => w'.cell? ⟨g, 6, none⟩ = some (.slice A' L.length cap') ∧ w'.cell? ⟨w.heap.size, 0, none⟩ = some (.int .i64 x) ∧ w'.cell? ⟨w.heap.size, 1, none⟩ = some (.int .i64 y) ∧ w'.cell? ⟨w.heap.size, 2, none⟩ = some (.int .i64 z)) 21
    [(true, 0), (true, 1), (true, 2), (true, 3), (true, 4), (true, 5), (true, 6), (true, 7), (true, 8), (true, 9), (true, 10), (true, 11), (true, 12), (true, 13), (true, 14), (true, 15), (true, 16), (false, 17), (false, 18), (true, 19), (true, 20)]
    default (by kernel_rfl) (by kernel_rfl) (fun d _ _ _ _ h => by cases d <;> exact h) ?_ ?_
  · go_keep
  simp only [List.map_cons, List.map_nil, List.getD_cons_succ, List.getD_cons_zero]
  repeat
    (refine heldL_take ?_ ?_ ?_
     rotate_left
     · intro w' hw'
       try dsimp only at hw'
       go_simp
       try with_reducible rfl
     try simp only [Act.put, List.setIfInBounds_toArray, List.set_cons_zero, List.set_cons_succ])
  refine heldL_move (fun K hK => ?_)
  go_simp
  have h1a := Blk.alloc (by exact h1 : Blk w3.drew g 45 _) (.cells #[.int .i64 x, .int .i64 y, .int .i64 z] 27)
  have h2a := (by exact h2 : Held w3.drew 27 3 A' L.length cap' (flat3 L)).alloc (.cells #[.int .i64 x, .int .i64 y, .int .i64 z] 27)
  refine hK.out _ _ ?_ (fun hS => ?_)
  · have := Blk.cell h1a 6
    simp at this
    refine ⟨by exact this, ?_, ?_, ?_⟩ <;> go_keep
  clear hK K
  try simp only [Act.put, List.setIfInBounds_toArray, List.set_cons_zero, List.set_cons_succ]
  refine heldL_move (fun K hK => ?_)
  refine wp_append_fresh _ (.tmp 44) (.tmp 46) _ (by rfl) 27 i0 _ 3 24 Try.underlying28 hi0 hz0 hz1 hz2 rfl (by omega) A' L.length L.length (flat3 L) (by rfl) (flat3_length L) (fun hh => ⟨(h2.2.2.2.1 hh).1, (h2.2.2.2.1 hh).1⟩) (by exact h2a.cells_) ⟨w3.heap.size, 0, none⟩ 1 1 [.int .i64 x, .int .i64 y, .int .i64 z] (by rfl) rfl (World.news_of_block (cs := #[.int .i64 x, .int .i64 y, .int .i64 z]) (t := 27) (fr := (0, 0)) (heap_alloc_new w3 _)) (by omega) (by omega) (by simp only [maxLen]; omega) (by omega) ?_
  intro k4 w4 hown4 hg4
  have d4 := Blk.grown (by exact h1a) hg4 (by simp)
  have c64 := Blk.cell d4 6
  have f64 := Blk.frozen d4 6
  simp at c64
  have x4 := Blk.grown (by exact (Blk.alloc (by exact x3 : Blk w3.drew _ 27 _) (.cells #[.int .i64 x, .int .i64 y, .int .i64 z] 27))) hg4 (by simp)
  have k40 := Blk.cell x4 0
  have k41 := Blk.cell x4 1
  have k42 := Blk.cell x4 2
  simp at k40 k41 k42
  refine hK.out _ _ ?_ (fun hS' => ?_)
  · exact ⟨c64, k40, k41, k42⟩
  clear hK K
  try simp only [Act.put, List.setIfInBounds_toArray, List.set_cons_zero, List.set_cons_succ]
  repeat
    (refine heldL_take ?_ ?_ ?_
     rotate_left
     · intro w' hw'
       try dsimp only at hw'
       go_simp
       try with_reducible rfl
     try simp only [Act.put, List.setIfInBounds_toArray, List.set_cons_zero, List.set_cons_succ])
  refine heldL_last (fun K hK => ?_)
  go_simp
  refine hK _ _ ?_
  clear hK K
  try simp only [Act.put, List.setIfInBounds_toArray, List.set_cons_zero, List.set_cons_succ]
  clear hS hS' c64 k40 k41 k42
  have O4 : Only [g] w w4 := (((Only.of_below B3).drew).alloc _).grown hg4 (by simp)
  have O5 : Only [g] w (w4.setCell ⟨g, 6, none⟩ (.slice (some ⟨w3.heap.size + 1, 0, none⟩) (L.length + 1) k4)) := O4.setCell (by simp) _
  have d5 := Blk.set_ d4 6 (.slice (some ⟨w3.heap.size + 1, 0, none⟩) (L.length + 1) k4)
  have x5 := Blk.far x4 (p := ⟨g, 6, none⟩) (by simp; omega) (.slice (some ⟨w3.heap.size + 1, 0, none⟩) (L.length + 1) k4)
  have n5 := (Held.of_own (by exact hown4)).setCell (p := ⟨g, 6, none⟩) (by exact d4) (by decide) (.slice (some ⟨w3.heap.size + 1, 0, none⟩) (L.length + 1) k4)
  have fr : ∀ b off, A3 = some ⟨b, off, none⟩ → g ≠ b := fun b off hb => by
    have := fr3 b off hb
    have := B1.size
    have := b2'.size
    omega
  have p5 : Pairs (w4.setCell ⟨g, 6, none⟩ (.slice (some ⟨w3.heap.size + 1, 0, none⟩) (L.length + 1) k4)) A3 k3 D := by
    refine Pairs.far ?_ (fun b off hb => fr b off hb) _
    have bb := (Below.refl w3.heap.size w3.drew).alloc (Nat.le_refl _) (.cells #[.int .i64 x, .int .i64 y, .int .i64 z] 27)
    have hp3a := hp3.below (w' := w3.drew.alloc (.cells #[.int .i64 x, .int .i64 y, .int .i64 z] 27)) ⟨bb.os, bb.tape, bb.output, bb.size, bb.block⟩
    exact hp3a.keep hg4.size (fun b off i hA hlt => hg4.cell_far _ hlt (by simp))
  simp at n5
  have hG5 : w3.heap.size + 1 < (w4.setCell ⟨g, 6, none⟩ (.slice (some ⟨w3.heap.size + 1, 0, none⟩) (L.length + 1) k4)).heap.size := by
    have := own_lt hown4 (g := w3.heap.size + 1) (by simp [Value.ownBlock])
    simpa [World.setCell] using this
  generalize w4.setCell ⟨g, 6, none⟩ (.slice (some ⟨w3.heap.size + 1, 0, none⟩) (L.length + 1) k4) = w5 at *
  have hG1 : w.heap.size ≤ w3.heap.size + 1 := Nat.le_succ_of_le B3.size
  have hG2 : w3.heap.size + 1 < w5.heap.size := hG5
  generalize w3.heap.size + 1 = G at *
  simp at d5
  clear d4 x4 O4 hown4 hg4 h1a h2a f64 x3 k30 k31 k32 h1 h2 hi0 hz0 hz1 hz2 hlt f6 hcap hcap2 e1 e2
  have c53 := Blk.cell d5 3
  have c54 := Blk.cell d5 4
  have c55 := Blk.cell d5 5
  have f53 := Blk.frozen d5 3
  have f54 := Blk.frozen d5 4
  have f55 := Blk.frozen d5 5
  have k50 := Blk.cell x5 0
  have k51 := Blk.cell x5 1
  have k52 := Blk.cell x5 2
  simp at c53 c54 c55 k50 k51 k52
  have HG := Lib.hid (fun W => greater_any q (x, y, z) W)
  go_wp2_with fail
  refine wp_region_ord (fun w' => w'.cell? ⟨g, 3, none⟩ = some (.int .i64 q.1) ∧ w'.cell? ⟨g, 4, none⟩ = some (.int .i64 q.2.1) ∧ w'.cell? ⟨g, 5, none⟩ = some (.int .i64 q.2.2) ∧ w'.cell? ⟨w.heap.size, 0, none⟩ = some (.int .i64 x) ∧ w'.cell? ⟨w.heap.size, 1, none⟩ = some (.int .i64 y) ∧ w'.cell? ⟨w.heap.size, 2, none⟩ = some (.int .i64 z)) 10
    [(true, 0), (true, 1), (true, 2), (true, 3), (true, 4), (true, 5), (true, 6), (false, 7), (true, 8), (true, 9)]
    default (by kernel_rfl) (by kernel_rfl) (fun d _ _ _ _ h => by cases d <;> exact h) ?_ ?_
  · exact ⟨c53, c54, c55, k50, k51, k52⟩
  simp only [List.map_cons, List.map_nil, List.getD_cons_succ, List.getD_cons_zero]
  repeat
    (refine heldL_take ?_ ?_ ?_
     rotate_left
     · intro w' hw'
       try dsimp only at hw'
       go_simp
       try with_reducible rfl
     try simp only [Act.put, List.setIfInBounds_toArray, List.set_cons_zero, List.set_cons_succ])
  refine heldL_move (fun K hK => ?_)
  go_simp
  refine (HG.out _).mono ?_
  rintro e w6 ⟨rfl, b6⟩
  have b6' : Below w5.heap.size w5 w6 := ⟨b6.os, b6.tape, b6.output, b6.size, b6.block⟩
  have d6 := Blk.below d5 b6' (Blk.lt d5)
  have x6 := Blk.below x5 b6' (Blk.lt x5)
  have n6 := n5.below b6'
  have p6 := p5.below b6'
  have c63 := Blk.cell d6 3
  have c64 := Blk.cell d6 4
  have c65 := Blk.cell d6 5
  have f63 := Blk.frozen d6 3
  have f64 := Blk.frozen d6 4
  have f65 := Blk.frozen d6 5
  have k60 := Blk.cell x6 0
  have k61 := Blk.cell x6 1
  have k62 := Blk.cell x6 2
  simp at c63 c64 c65 k60 k61 k62
  refine hK.out _ _ ?_ (fun hS => ?_)
  · exact ⟨c63, c64, c65, k60, k61, k62⟩
  clear hK K
  try simp only [Act.put, List.setIfInBounds_toArray, List.set_cons_zero, List.set_cons_succ]
  repeat
    (refine heldL_take ?_ ?_ ?_
     rotate_left
     · intro w' hw'
       try dsimp only at hw'
       go_simp
       try with_reducible rfl
     try simp only [Act.put, List.setIfInBounds_toArray, List.set_cons_zero, List.set_cons_succ])
  refine heldL_last (fun K hK => ?_)
  go_simp
  refine hK _ _ ?_
  clear hK K
  try simp only [Act.put, List.setIfInBounds_toArray, List.set_cons_zero, List.set_cons_succ]
  go_wp2_with fail
  go_ret2
  refine ⟨A3, k3, rfl, ?_, ⟨some ⟨G, 0, none⟩, k4, ?_, ?_, ?_⟩, ?_⟩
  · exact (((p6.far (fun b off hb => fr b off hb) _).far (fun b off hb => fr b off hb) _).far (fun b off hb => fr b off hb) _)
  · have := Blk.set_ (Blk.set_ (Blk.set_ d6 3 (.int .i64 (max q.1 x))) 4 (.int .i64 (max q.2.1 y))) 5 (.int .i64 (max q.2.2 z))
    simpa [hi3] using this
  · have := ((n6.setCell (p := ⟨g, 3, none⟩) (by exact d6) (by decide) (.int .i64 (max q.1 x))).setCell (p := ⟨g, 4, none⟩) (by exact Blk.set_ d6 3 _) (by decide) (.int .i64 (max q.2.1 y))).setCell (p := ⟨g, 5, none⟩) (by exact Blk.set_ (Blk.set_ d6 3 _) 4 _) (by decide) (.int .i64 (max q.2.2 z))
    simpa [flat3] using this
  · intro b off e
    injection e with e
    injection e with e1 e2
    subst e1
    have := b6'.size
    refine ⟨hG1, ?_⟩
    simp [World.setCell]
    omega
  · exact ((((O5.trans_ (Only.of_below b6')).setCell (by simp) _).setCell (by simp) _).setCell (by simp) _)
theorem send_ok (g : Nat) (h q : Set3) (L : List Set3) (x y z : Int) (w : World) (k : ShakeAt w g h q L) (hr : rightB x y z = true) (hL : L.length < 4)
    (hx : -9223372036854775808 ≤ x ∧ x ≤ 9223372036854775807) (hy : -9223372036854775808 ≤ y ∧ y ≤ 9223372036854775807) (hz : -9223372036854775808 ≤ z ∧ z ≤ 9223372036854775807) :
    Calls Try.prog 8 #[.pointer (some ⟨g, 0, none⟩), .agg #[.int .i64 x, .int .i64 y, .int .i64 z]] w (Sent w g h q L (x, y, z)) := (send_in g h q L x y z w k hr hL hx hy hz).mono fun e w' hs => by
  obtain ⟨A, c, h1, h2, h3, h4⟩ := hs
  exact ⟨A, c, h1, h2, h3.at_, h4⟩
end Go.Proofs.Ytdegdikkjaifiaa
