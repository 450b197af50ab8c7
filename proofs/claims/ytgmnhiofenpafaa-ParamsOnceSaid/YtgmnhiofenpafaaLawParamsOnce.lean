/- Proved: ParamsOnce answers true for every input, and leaves its arguments as they were; no condition. -/
import Derived.Test.YtgmnhiofenpafaaRows
import Derived.Test.YtgmnhiofenpafaaMem
import Derived.Test.YtgmnhiofenpafaaLift
import Derived.Test.YtgmnhiofenpafaaParamsAw
import Derived.Test.YtgmnhiofenpafaaParamsP
import Derived.Test.YtgmnhiofenpafaaParamsR
import Derived.Test.YtgmnhiofenpafaaOnce
import Derived.Test.YtgmnhiofenpafaaReads
import Derived.WalkKit
import Derived.ProofKit
import Derived.OpenShut
import Derived.Handy
import Derived.Deep.QuietTactic
import Derived.BigQuiet
import Derived.Deep.RegionWith
import Derived.WalkLawsBesides
import Derived.Deep.RegionHeld3
import Derived.Deep.AppendLies
namespace Go.Proofs.Ytgmnhiofenpafaa.ParamsOnce
open Go.ChangeShapes Go.WideShapes Go.ChangeAt Go.RowKit Go.Deep
set_option linter.unusedVariables false

theorem reads_of_pairs {w : World} {A : Option Addr} {cap : Nat} {L : List (Int × Int)} (h : Pairs w A cap L) : Reads w w.heap.size 2 A L.length (L.flatMap fun p => [Value.int .i64 p.1, Value.int .i64 p.2]) := by
  refine ⟨flat_length L, fun hn => ?_⟩
  obtain ⟨b, off, hA, hb, _⟩ := h.2.2 0 hn
  refine ⟨⟨b, off, none⟩, hA, hb, fun j u hu => ?_⟩
  have hj : j < L.length * 2 := by
    rcases Nat.lt_or_ge j (L.length * 2) with h | h
    · exact h
    · rw [List.getElem?_eq_none (by rw [flat_length]; exact h)] at hu; cases hu
  have hi : j / 2 < L.length := by omega
  obtain ⟨b', off', hA', _, c0, c1, _⟩ := h.2.2 (j / 2) hi
  rw [hA] at hA'
  simp only [Option.some.injEq, Addr.mk.injEq] at hA'
  obtain ⟨rfl, rfl, _⟩ := hA'
  obtain ⟨g0, g1⟩ := flat_get L (j / 2) hi
  rw [add_plain_]
  rcases (by omega : j = j / 2 * 2 ∨ j = j / 2 * 2 + 1) with e | e
  · rw [e] at hu ⊢
    rw [g0] at hu
    rw [← hu]; exact c0
  · rw [e] at hu ⊢
    rw [g1] at hu
    rw [← hu, ← Nat.add_assoc]; exact c1

theorem flat_one (L : List (Int × Int)) : ∀ u ∈ (L.flatMap fun p => [Value.int .i64 p.1, Value.int .i64 p.2]), u.oneCell' = true := by
  intro u hu
  obtain ⟨p, _, hp⟩ := List.mem_flatMap.1 hu
  simp at hp
  rcases hp with rfl | rfl <;> rfl

set_option maxRecDepth 100000 in
set_option maxHeartbeats 8000000 in
theorem core (w : World) (x y z : Int) (A : Option Addr) (cap : Nat) (L : List (Int × Int)) (hL : Pairs w A cap L) :
    Calls Try.prog 4 #[.agg #[.int .i64 x, .int .i64 y, .int .i64 z], .slice A L.length cap] w fun e w' => e = .returned (.bool true) ∧ Below w.heap.size w w' := by
  have hL1 := hL.1
  have hL2 := hL.2.1
  by_cases hn : 100 < L.length
  · have hMl : (L.take 100).length = 100 := by simp; omega
    have hL' := hL.take 100
    have hsame : Hid (app x y z (L.take 100) = app x y z (L.take 100)) := rfl
    clear hL
    generalize L.take 100 = M at *
    have hL := hL'
    clear hL' hsame
    have HM := Lib.hid hMl
    clear hMl
    have hA := fun (W : World) (hW : Pairs W A cap M) => (by have h := apply_any x y z A cap M W hW; rw [HM.out] at h; exact h)
    have hB : ∀ (W : World) (A2 : Option Addr) (m c2 : Nat), m = (M ++ M).length → Pairs W A2 c2 (M ++ M) → Calls Try.prog 7 #[.agg #[.int .i64 x, .int .i64 y, .int .i64 z], .slice A2 m c2] W (Applied W (app x y z M)) := by
      rintro W A2 m c2 rfl hW
      have := apply_any x y z A2 c2 (M ++ M) W hW
      rwa [app_twice] at this
    generalize app x y z M = r at hA hB
    obtain ⟨⟨ra, rb, rc⟩, rd⟩ := r
    have HA := Lib.hid hA
    have HB := Lib.hid hB
    have HL := Lib.hid hL
    clear hA hB hL
    obtain ⟨i0, hi0, hz0, hz1, hz2⟩ := info_parts info_P
    go_enter Try.func4, Try.ntmps4
    go_wp2_with fail
    refine (HA.out _ (HL.out.below ((Below.refl _ _).alloc (Nat.le_refl _) _))).mono ?_
    rintro e w1 ⟨rfl, b1⟩
    have x1 : Blk w1 w.heap.size 23 #[.int .i64 x, .int .i64 y, .int .i64 z] := Blk.below (Blk.new _ _ _) b1 (by simp)
    have B1 : Below w.heap.size w w1 := ((Below.refl _ _).alloc (Nat.le_refl _) _).trans (b1.mono (by simp))
    have lt1 := Blk.lt x1
    go_wp2_with fail
    have hLa := (HL.out.below (B1.alloc B1.size (.cells #[.int .i64 ra, .int .i64 rb, .int .i64 rc] 23)))
    have c0 := Blk.cell x1 0
    have c1 := Blk.cell x1 1
    have c2 := Blk.cell x1 2
    simp at c0 c1 c2
    have hE1 : Blk ((w1.alloc (.cells #[.int .i64 ra, .int .i64 rb, .int .i64 rc] 23)).alloc (.cells #[] 27)) (w1.heap.size + 1) 27 #[] := by simpa only [World.size_alloc] using Blk.new (w1.alloc (.cells #[.int .i64 ra, .int .i64 rb, .int .i64 rc] 23)) 27 #[]
    have hE2 := Blk.alloc hE1 (.cells #[.int .i64 0, .int .i64 0, .int .i64 0] 23)
    have hE3 : Blk (((w1.alloc (.cells #[.int .i64 ra, .int .i64 rb, .int .i64 rc] 23)).alloc (.cells #[.int .i64 0, .int .i64 0, .int .i64 0] 23)).alloc (.cells #[] 27)) (w1.heap.size + 1 + 1) 27 #[] := by simpa only [World.size_alloc] using Blk.new ((w1.alloc (.cells #[.int .i64 ra, .int .i64 rb, .int .i64 rc] 23)).alloc (.cells #[.int .i64 0, .int .i64 0, .int .i64 0] 23)) 27 #[]
    have hR := (by have h := reads_of_pairs HL.out; rw [HM.out] at h; exact h : Reads w w.heap.size 2 A 100 _)
    have hone := flat_one M
    have hb0 := B1.size
    have hZa : Blk (((w1.alloc (.cells #[.int .i64 ra, .int .i64 rb, .int .i64 rc] 23)).alloc (.cells #[.int .i64 0, .int .i64 0, .int .i64 0] 23)).alloc (.cells #[] 27)) (w1.heap.size + 1) 23 #[.int .i64 0, .int .i64 0, .int .i64 0] := Blk.alloc (by simpa only [World.size_alloc] using Blk.new (w1.alloc (.cells #[.int .i64 ra, .int .i64 rb, .int .i64 rc] 23)) 23 #[.int .i64 0, .int .i64 0, .int .i64 0]) _
    have hZb : Blk (((w1.alloc (.cells #[.int .i64 ra, .int .i64 rb, .int .i64 rc] 23)).alloc (.cells #[] 27)).alloc (.cells #[.int .i64 0, .int .i64 0, .int .i64 0] 23)) (w1.heap.size + 1 + 1) 23 #[.int .i64 0, .int .i64 0, .int .i64 0] := by simpa only [World.size_alloc] using Blk.new ((w1.alloc (.cells #[.int .i64 ra, .int .i64 rb, .int .i64 rc] 23)).alloc (.cells #[] 27)) 23 #[.int .i64 0, .int .i64 0, .int .i64 0]
    have ta0 : (((w1.alloc (.cells #[.int .i64 ra, .int .i64 rb, .int .i64 rc] 23)).alloc (.cells #[] 27)).alloc (.cells #[.int .i64 0, .int .i64 0, .int .i64 0] 23)).cell? ⟨w.heap.size, 0, none⟩ = some (.int .i64 x) := Blk.cell (((x1.alloc _).alloc _).alloc _) 0
    have ta1 : (((w1.alloc (.cells #[.int .i64 ra, .int .i64 rb, .int .i64 rc] 23)).alloc (.cells #[] 27)).alloc (.cells #[.int .i64 0, .int .i64 0, .int .i64 0] 23)).cell? ⟨w.heap.size, 1, none⟩ = some (.int .i64 y) := Blk.cell (((x1.alloc _).alloc _).alloc _) 1
    have ta2 : (((w1.alloc (.cells #[.int .i64 ra, .int .i64 rb, .int .i64 rc] 23)).alloc (.cells #[] 27)).alloc (.cells #[.int .i64 0, .int .i64 0, .int .i64 0] 23)).cell? ⟨w.heap.size, 2, none⟩ = some (.int .i64 z) := Blk.cell (((x1.alloc _).alloc _).alloc _) 2
    have tb0 : (((w1.alloc (.cells #[.int .i64 ra, .int .i64 rb, .int .i64 rc] 23)).alloc (.cells #[.int .i64 0, .int .i64 0, .int .i64 0] 23)).alloc (.cells #[] 27)).cell? ⟨w.heap.size, 0, none⟩ = some (.int .i64 x) := Blk.cell (((x1.alloc _).alloc _).alloc _) 0
    have tb1 : (((w1.alloc (.cells #[.int .i64 ra, .int .i64 rb, .int .i64 rc] 23)).alloc (.cells #[.int .i64 0, .int .i64 0, .int .i64 0] 23)).alloc (.cells #[] 27)).cell? ⟨w.heap.size, 1, none⟩ = some (.int .i64 y) := Blk.cell (((x1.alloc _).alloc _).alloc _) 1
    have tb2 : (((w1.alloc (.cells #[.int .i64 ra, .int .i64 rb, .int .i64 rc] 23)).alloc (.cells #[.int .i64 0, .int .i64 0, .int .i64 0] 23)).alloc (.cells #[] 27)).cell? ⟨w.heap.size, 2, none⟩ = some (.int .i64 z) := Blk.cell (((x1.alloc _).alloc _).alloc _) 2
    have q1 : w.heap.size < w1.heap.size + 1 := by omega
    have q2 : w.heap.size < w1.heap.size + 1 + 1 := by omega
    have q3 : ¬ w.heap.size = w1.heap.size := by omega
    have q4 : ¬ w.heap.size = w1.heap.size + 1 := by omega
    have q5 : ¬ w.heap.size = w1.heap.size + 1 + 1 := by omega
    go_region_held3 (fun w' => w'.cell? ⟨w.heap.size, 0, none⟩ = some (.int .i64 x) ∧ w'.cell? ⟨w.heap.size, 1, none⟩ = some (.int .i64 y) ∧ w'.cell? ⟨w.heap.size, 2, none⟩ = some (.int .i64 z))
      (first
        | go_keep
        | (refine ⟨?_, ?_, ?_⟩ <;> with_reducible assumption))
      ((first
        | (refine step_append_new _ (by rfl) (.tmp 22) (.tmp 23) _ (by rfl) w1.heap.size 27 i0 _ 2 16 Try.underlying24 hi0 hz0 hz1 hz2 rfl (by omega) _ (by rfl) (own_empty (by first | exact hE1 | exact hE2 | exact hE3) (by first | (simp; done) | (simp; omega) | omega)) w.heap.size A 100 cap _ (by rfl) (hR.below (by go_grown)) hone (by simp only [maxLen]; omega) (by omega) (by first | (simp; done) | (simp; omega)) ?_
           intro A1 k1 w2 hown1 hg1
           have b2 : Below w.heap.size w w2 := Below.grown (by go_grown) hg1 (by first | (simp; done) | (simp; omega)) (by simp [Value.ownBlock]; omega)
           have s2 : w1.heap.size ≤ w2.heap.size := by have := hg1.size; simp at this; omega
           have x2 : Blk w2 w.heap.size 23 #[.int .i64 x, .int .i64 y, .int .i64 z] := Blk.grown (by first | exact (x1.alloc _).alloc _ | exact ((x1.alloc _).alloc _).alloc _) hg1 (by simp [Value.ownBlock]; omega)
           first
             | have bz2 : Blk w2 (w1.heap.size + 1) 23 #[.int .i64 0, .int .i64 0, .int .i64 0] := Blk.grown (by exact hZa) hg1 (by first | (simp [Value.ownBlock]; done) | (simp [Value.ownBlock]; omega))
             | have bz2 : Blk w2 (w1.heap.size + 1 + 1) 23 #[.int .i64 0, .int .i64 0, .int .i64 0] := Blk.grown (by exact hZb) hg1 (by first | (simp [Value.ownBlock]; done) | (simp [Value.ownBlock]; omega))
             | skip
           have xa2 : Blk w2 w1.heap.size 23 #[.int .i64 ra, .int .i64 rb, .int .i64 rc] := Blk.grown (by first | exact (Blk.new w1 23 _).alloc _ | exact ((Blk.new w1 23 _).alloc _).alloc _) hg1 (by first | (simp [Value.ownBlock]; done) | (simp [Value.ownBlock]; omega))
           have la2 := Blk.lt xa2
           have k20 := Blk.cell x2 0
           have k21 := Blk.cell x2 1
           have k22 := Blk.cell x2 2
           simp at k20 k21 k22)
        | (refine step_append_s _ (by rfl) (.tmp 24) (.tmp 25) _ (by rfl) w1.heap.size 27 i0 _ 2 16 Try.underlying24 hi0 hz0 hz1 hz2 rfl (by omega) (.slice A1 100 k1) 100 _ (by rfl) (by first | exact hown1 | exact hown1.alloc _) w.heap.size A 100 cap _ (by rfl) (hR.below (by first | exact b2 | exact b2.alloc b2.size _)) hone (by simp only [maxLen]; omega) (by omega) (by first | exact s2 | exact Nat.le_succ_of_le s2 | (simp; omega)) ?_
           intro A2 k2 w3 hown2 hg2
           have x3 : Blk w3 w.heap.size 23 #[.int .i64 x, .int .i64 y, .int .i64 z] := Blk.grown (by first | exact x2 | exact x2.alloc _) hg2 (fun e => by have := ownBlock_ge hown1 e.symm; omega)
           have b3 : Below w.heap.size w w3 := Below.grown (by first | exact b2 | exact b2.alloc b2.size _) hg2 (by first | exact b2.size | (simp; have := b2.size; omega)) (fun k hk => by have := ownBlock_ge hown1 hk; omega)
           first
             | have bz3 := Blk.grown (by exact bz2) hg2 (fun e => own_blk_ne hown1 bz2 (by decide) e.symm)
             | have bz3 : Blk w3 w2.heap.size 23 #[.int .i64 0, .int .i64 0, .int .i64 0] := Blk.grown (by exact Blk.new w2 23 #[.int .i64 0, .int .i64 0, .int .i64 0]) hg2 (fun e => own_blk_ne (hown1.alloc _) (Blk.new w2 23 #[.int .i64 0, .int .i64 0, .int .i64 0]) (by decide) e.symm)
             | skip
           have xa3 : Blk w3 w1.heap.size 23 #[.int .i64 ra, .int .i64 rb, .int .i64 rc] := Blk.grown (by first | exact xa2 | exact xa2.alloc _) hg2 (fun e => own_blk_ne hown1 xa2 (by decide) e.symm)
           have la3 := Blk.lt xa3
           have k30 := Blk.cell x3 0
           have k31 := Blk.cell x3 1
           have k32 := Blk.cell x3 2
           simp at k30 k31 k32
           have hp3 : Pairs w3 A2 k2 (M ++ M) := pairs_of_own (base := w1.heap.size) (by rw [List.length_append, HM.out, List.flatMap_append]; exact hown2) (by intro p hp; have := List.mem_append.1 hp; simp at this; obtain ⟨i, hi, rfl⟩ := List.mem_iff_getElem.1 this; obtain ⟨_, _, _, _, _, _, q1, q2⟩ := HL.out.2.2 i hi; exact ⟨q1, q2⟩))
        | (go_simp
           go_at_call 7
           refine (HB.out _ A2 _ k2 (by rw [List.length_append, HM.out]) (by first | exact hp3 | exact hp3.below ((Below.refl _ _).alloc (Nat.le_refl _) _))).mono ?_
           rintro e w4 ⟨rfl, b4⟩
           have lx3 := Blk.lt x3
           have x4 : Blk w4 w.heap.size 23 #[.int .i64 x, .int .i64 y, .int .i64 z] := by first | exact Blk.below x3 b4 (by omega) | exact Blk.below (x3.alloc _) b4 (by simp; omega)
           have lx4 := Blk.lt x4
           have ne1 : ¬ w1.heap.size + 1 = w.heap.size := by omega
           have ne1' : ¬ w1.heap.size + 1 + 1 = w.heap.size := by omega
           have ne2 : ¬ w2.heap.size = w.heap.size := by omega
           have ne3 : ¬ w3.heap.size = w.heap.size := by omega
           have ne4 : ¬ w4.heap.size = w.heap.size := by omega
           have B4 : Below w.heap.size w w4 := by first | exact b3.trans (b4.mono b3.size) | exact (b3.alloc b3.size _).trans (b4.mono (by simp; have := b3.size; omega))
           first
             | have bz4 := Blk.below bz3 b4 (Blk.lt bz3)
             | have bz4 : Blk w4 w3.heap.size 23 #[.int .i64 0, .int .i64 0, .int .i64 0] := Blk.below (Blk.new w3 23 #[.int .i64 0, .int .i64 0, .int .i64 0]) b4 (by simp)
             | skip
           have xa4 : Blk w4 w1.heap.size 23 #[.int .i64 ra, .int .i64 rb, .int .i64 rc] := by first | exact Blk.below xa3 b4 (by omega) | exact Blk.below (xa3.alloc _) b4 (by simp; omega)
           have la4 := Blk.lt xa4
           have k40 := Blk.cell x4 0
           have k41 := Blk.cell x4 1
           have k42 := Blk.cell x4 2
           simp at k40 k41 k42
           first
             | (have m0 := Blk.cell bz4 0
                have m1 := Blk.cell bz4 1
                have m2 := Blk.cell bz4 2
                simp at m0 m1 m2
                have n0 := Blk.frozen bz4 0
                have n1 := Blk.frozen bz4 1
                have n2 := Blk.frozen bz4 2)
             | skip)))
    · have bF := Blk.new w4 23 #[.int .i64 ra, .int .i64 rb, .int .i64 rc]
      have aF := Blk.alloc xa4 (.cells #[.int .i64 ra, .int .i64 rb, .int .i64 rc] 23)
      have BF : Below w.heap.size w (w4.alloc (.cells #[.int .i64 ra, .int .i64 rb, .int .i64 rc] 23)) := B4.alloc B4.size _
      go_wp2_with fail
      refine (awake_any _).mono ?_
      rintro e w6 ⟨rfl, b6⟩
      have bF6 := Blk.below bF b6 (Blk.lt bF)
      have aF6 := Blk.below aF b6 (Blk.lt aF)
      have d0 := Blk.cell bF6 0
      have d1 := Blk.cell bF6 1
      have d2 := Blk.cell bF6 2
      have f0 := Blk.cell aF6 0
      have f1 := Blk.cell aF6 1
      have f2 := Blk.cell aF6 2
      simp at d0 d1 d2 f0 f1 f2
      go_wp2_with fail
      go_ret
      exact ⟨rfl, BF.trans (b6.mono BF.size)⟩
    · have bF := Blk.set_ (Blk.set_ (Blk.set_ bz4 0 (.int .i64 ra)) 1 (.int .i64 rb)) 2 (.int .i64 rc)
      have aF := Blk.far (Blk.far (Blk.far xa4 (p := ⟨w3.heap.size, 0, none⟩) (by first | (simp; done) | (simp; omega)) (.int .i64 ra)) (p := ⟨w3.heap.size, 1, none⟩) (by first | (simp; done) | (simp; omega)) (.int .i64 rb)) (p := ⟨w3.heap.size, 2, none⟩) (by first | (simp; done) | (simp; omega)) (.int .i64 rc)
      have BF := ((B4.setCell (p := ⟨w3.heap.size, 0, none⟩) (by first | (simp; done) | (simp; omega)) (.int .i64 ra)).setCell (p := ⟨w3.heap.size, 1, none⟩) (by first | (simp; done) | (simp; omega)) (.int .i64 rb)).setCell (p := ⟨w3.heap.size, 2, none⟩) (by first | (simp; done) | (simp; omega)) (.int .i64 rc)
      go_wp2_with fail
      refine (awake_any _).mono ?_
      rintro e w6 ⟨rfl, b6⟩
      have bF6 := Blk.below bF b6 (Blk.lt bF)
      have aF6 := Blk.below aF b6 (Blk.lt aF)
      have d0 := Blk.cell bF6 0
      have d1 := Blk.cell bF6 1
      have d2 := Blk.cell bF6 2
      have f0 := Blk.cell aF6 0
      have f1 := Blk.cell aF6 1
      have f2 := Blk.cell aF6 2
      simp at d0 d1 d2 f0 f1 f2
      go_wp2_with fail
      go_ret
      exact ⟨rfl, BF.trans (b6.mono BF.size)⟩
    · have bF := Blk.set_ (Blk.set_ (Blk.set_ bz4 0 (.int .i64 ra)) 1 (.int .i64 rb)) 2 (.int .i64 rc)
      have aF := Blk.far (Blk.far (Blk.far xa4 (p := ⟨w2.heap.size, 0, none⟩) (by first | (simp; done) | (simp; omega)) (.int .i64 ra)) (p := ⟨w2.heap.size, 1, none⟩) (by first | (simp; done) | (simp; omega)) (.int .i64 rb)) (p := ⟨w2.heap.size, 2, none⟩) (by first | (simp; done) | (simp; omega)) (.int .i64 rc)
      have BF := ((B4.setCell (p := ⟨w2.heap.size, 0, none⟩) (by first | (simp; done) | (simp; omega)) (.int .i64 ra)).setCell (p := ⟨w2.heap.size, 1, none⟩) (by first | (simp; done) | (simp; omega)) (.int .i64 rb)).setCell (p := ⟨w2.heap.size, 2, none⟩) (by first | (simp; done) | (simp; omega)) (.int .i64 rc)
      go_wp2_with fail
      refine (awake_any _).mono ?_
      rintro e w6 ⟨rfl, b6⟩
      have bF6 := Blk.below bF b6 (Blk.lt bF)
      have aF6 := Blk.below aF b6 (Blk.lt aF)
      have d0 := Blk.cell bF6 0
      have d1 := Blk.cell bF6 1
      have d2 := Blk.cell bF6 2
      have f0 := Blk.cell aF6 0
      have f1 := Blk.cell aF6 1
      have f2 := Blk.cell aF6 2
      simp at d0 d1 d2 f0 f1 f2
      go_wp2_with fail
      go_ret
      exact ⟨rfl, BF.trans (b6.mono BF.size)⟩
    · have bF := Blk.set_ (Blk.set_ (Blk.set_ bz4 0 (.int .i64 ra)) 1 (.int .i64 rb)) 2 (.int .i64 rc)
      have aF := Blk.far (Blk.far (Blk.far xa4 (p := ⟨w1.heap.size + 1 + 1, 0, none⟩) (by first | (simp; done) | (simp; omega)) (.int .i64 ra)) (p := ⟨w1.heap.size + 1 + 1, 1, none⟩) (by first | (simp; done) | (simp; omega)) (.int .i64 rb)) (p := ⟨w1.heap.size + 1 + 1, 2, none⟩) (by first | (simp; done) | (simp; omega)) (.int .i64 rc)
      have BF := ((B4.setCell (p := ⟨w1.heap.size + 1 + 1, 0, none⟩) (by first | (simp; done) | (simp; omega)) (.int .i64 ra)).setCell (p := ⟨w1.heap.size + 1 + 1, 1, none⟩) (by first | (simp; done) | (simp; omega)) (.int .i64 rb)).setCell (p := ⟨w1.heap.size + 1 + 1, 2, none⟩) (by first | (simp; done) | (simp; omega)) (.int .i64 rc)
      go_wp2_with fail
      refine (awake_any _).mono ?_
      rintro e w6 ⟨rfl, b6⟩
      have bF6 := Blk.below bF b6 (Blk.lt bF)
      have aF6 := Blk.below aF b6 (Blk.lt aF)
      have d0 := Blk.cell bF6 0
      have d1 := Blk.cell bF6 1
      have d2 := Blk.cell bF6 2
      have f0 := Blk.cell aF6 0
      have f1 := Blk.cell aF6 1
      have f2 := Blk.cell aF6 2
      simp at d0 d1 d2 f0 f1 f2
      go_wp2_with fail
      go_ret
      exact ⟨rfl, BF.trans (b6.mono BF.size)⟩
    · have bF := Blk.set_ (Blk.set_ (Blk.set_ bz4 0 (.int .i64 ra)) 1 (.int .i64 rb)) 2 (.int .i64 rc)
      have aF := Blk.far (Blk.far (Blk.far xa4 (p := ⟨w1.heap.size + 1, 0, none⟩) (by first | (simp; done) | (simp; omega)) (.int .i64 ra)) (p := ⟨w1.heap.size + 1, 1, none⟩) (by first | (simp; done) | (simp; omega)) (.int .i64 rb)) (p := ⟨w1.heap.size + 1, 2, none⟩) (by first | (simp; done) | (simp; omega)) (.int .i64 rc)
      have BF := ((B4.setCell (p := ⟨w1.heap.size + 1, 0, none⟩) (by first | (simp; done) | (simp; omega)) (.int .i64 ra)).setCell (p := ⟨w1.heap.size + 1, 1, none⟩) (by first | (simp; done) | (simp; omega)) (.int .i64 rb)).setCell (p := ⟨w1.heap.size + 1, 2, none⟩) (by first | (simp; done) | (simp; omega)) (.int .i64 rc)
      go_wp2_with fail
      refine (awake_any _).mono ?_
      rintro e w6 ⟨rfl, b6⟩
      have bF6 := Blk.below bF b6 (Blk.lt bF)
      have aF6 := Blk.below aF b6 (Blk.lt aF)
      have d0 := Blk.cell bF6 0
      have d1 := Blk.cell bF6 1
      have d2 := Blk.cell bF6 2
      have f0 := Blk.cell aF6 0
      have f1 := Blk.cell aF6 1
      have f2 := Blk.cell aF6 2
      simp at d0 d1 d2 f0 f1 f2
      go_wp2_with fail
      go_ret
      exact ⟨rfl, BF.trans (b6.mono BF.size)⟩
  · have hn' : L.length ≤ 100 := by omega
    clear hn
    obtain ⟨m, hm⟩ : ∃ m, L.length = m := ⟨_, rfl⟩
    rw [hm] at hL1 hn' ⊢
    have HM := Lib.hid hm
    clear hm
    have hA := fun (W : World) (hW : Pairs W A cap L) => (by have h := apply_any x y z A cap L W hW; rw [HM.out] at h; exact h)
    have hB : ∀ (W : World) (A2 : Option Addr) (m c2 : Nat), m = (L ++ L).length → Pairs W A2 c2 (L ++ L) → Calls Try.prog 7 #[.agg #[.int .i64 x, .int .i64 y, .int .i64 z], .slice A2 m c2] W (Applied W (app x y z L)) := by
      rintro W A2 m c2 rfl hW
      have := apply_any x y z A2 c2 (L ++ L) W hW
      rwa [app_twice] at this
    generalize app x y z L = r at hA hB
    obtain ⟨⟨ra, rb, rc⟩, rd⟩ := r
    have HA := Lib.hid hA
    have HB := Lib.hid hB
    have HL := Lib.hid hL
    clear hA hB hL
    obtain ⟨i0, hi0, hz0, hz1, hz2⟩ := info_parts info_P
    go_enter Try.func4, Try.ntmps4
    go_wp2_with fail
    refine (HA.out _ (HL.out.below ((Below.refl _ _).alloc (Nat.le_refl _) _))).mono ?_
    rintro e w1 ⟨rfl, b1⟩
    have x1 : Blk w1 w.heap.size 23 #[.int .i64 x, .int .i64 y, .int .i64 z] := Blk.below (Blk.new _ _ _) b1 (by simp)
    have B1 : Below w.heap.size w w1 := ((Below.refl _ _).alloc (Nat.le_refl _) _).trans (b1.mono (by simp))
    have lt1 := Blk.lt x1
    go_wp2_with fail
    have hLa := (HL.out.below (B1.alloc B1.size (.cells #[.int .i64 ra, .int .i64 rb, .int .i64 rc] 23)))
    have c0 := Blk.cell x1 0
    have c1 := Blk.cell x1 1
    have c2 := Blk.cell x1 2
    simp at c0 c1 c2
    have hE1 : Blk ((w1.alloc (.cells #[.int .i64 ra, .int .i64 rb, .int .i64 rc] 23)).alloc (.cells #[] 27)) (w1.heap.size + 1) 27 #[] := by simpa only [World.size_alloc] using Blk.new (w1.alloc (.cells #[.int .i64 ra, .int .i64 rb, .int .i64 rc] 23)) 27 #[]
    have hE2 := Blk.alloc hE1 (.cells #[.int .i64 0, .int .i64 0, .int .i64 0] 23)
    have hE3 : Blk (((w1.alloc (.cells #[.int .i64 ra, .int .i64 rb, .int .i64 rc] 23)).alloc (.cells #[.int .i64 0, .int .i64 0, .int .i64 0] 23)).alloc (.cells #[] 27)) (w1.heap.size + 1 + 1) 27 #[] := by simpa only [World.size_alloc] using Blk.new ((w1.alloc (.cells #[.int .i64 ra, .int .i64 rb, .int .i64 rc] 23)).alloc (.cells #[.int .i64 0, .int .i64 0, .int .i64 0] 23)) 27 #[]
    have hR := (by have h := reads_of_pairs HL.out; rw [HM.out] at h; exact h : Reads w w.heap.size 2 A m _)
    have hone := flat_one L
    have hb0 := B1.size
    have hZa : Blk (((w1.alloc (.cells #[.int .i64 ra, .int .i64 rb, .int .i64 rc] 23)).alloc (.cells #[.int .i64 0, .int .i64 0, .int .i64 0] 23)).alloc (.cells #[] 27)) (w1.heap.size + 1) 23 #[.int .i64 0, .int .i64 0, .int .i64 0] := Blk.alloc (by simpa only [World.size_alloc] using Blk.new (w1.alloc (.cells #[.int .i64 ra, .int .i64 rb, .int .i64 rc] 23)) 23 #[.int .i64 0, .int .i64 0, .int .i64 0]) _
    have hZb : Blk (((w1.alloc (.cells #[.int .i64 ra, .int .i64 rb, .int .i64 rc] 23)).alloc (.cells #[] 27)).alloc (.cells #[.int .i64 0, .int .i64 0, .int .i64 0] 23)) (w1.heap.size + 1 + 1) 23 #[.int .i64 0, .int .i64 0, .int .i64 0] := by simpa only [World.size_alloc] using Blk.new ((w1.alloc (.cells #[.int .i64 ra, .int .i64 rb, .int .i64 rc] 23)).alloc (.cells #[] 27)) 23 #[.int .i64 0, .int .i64 0, .int .i64 0]
    have ta0 : (((w1.alloc (.cells #[.int .i64 ra, .int .i64 rb, .int .i64 rc] 23)).alloc (.cells #[] 27)).alloc (.cells #[.int .i64 0, .int .i64 0, .int .i64 0] 23)).cell? ⟨w.heap.size, 0, none⟩ = some (.int .i64 x) := Blk.cell (((x1.alloc _).alloc _).alloc _) 0
    have ta1 : (((w1.alloc (.cells #[.int .i64 ra, .int .i64 rb, .int .i64 rc] 23)).alloc (.cells #[] 27)).alloc (.cells #[.int .i64 0, .int .i64 0, .int .i64 0] 23)).cell? ⟨w.heap.size, 1, none⟩ = some (.int .i64 y) := Blk.cell (((x1.alloc _).alloc _).alloc _) 1
    have ta2 : (((w1.alloc (.cells #[.int .i64 ra, .int .i64 rb, .int .i64 rc] 23)).alloc (.cells #[] 27)).alloc (.cells #[.int .i64 0, .int .i64 0, .int .i64 0] 23)).cell? ⟨w.heap.size, 2, none⟩ = some (.int .i64 z) := Blk.cell (((x1.alloc _).alloc _).alloc _) 2
    have tb0 : (((w1.alloc (.cells #[.int .i64 ra, .int .i64 rb, .int .i64 rc] 23)).alloc (.cells #[.int .i64 0, .int .i64 0, .int .i64 0] 23)).alloc (.cells #[] 27)).cell? ⟨w.heap.size, 0, none⟩ = some (.int .i64 x) := Blk.cell (((x1.alloc _).alloc _).alloc _) 0
    have tb1 : (((w1.alloc (.cells #[.int .i64 ra, .int .i64 rb, .int .i64 rc] 23)).alloc (.cells #[.int .i64 0, .int .i64 0, .int .i64 0] 23)).alloc (.cells #[] 27)).cell? ⟨w.heap.size, 1, none⟩ = some (.int .i64 y) := Blk.cell (((x1.alloc _).alloc _).alloc _) 1
    have tb2 : (((w1.alloc (.cells #[.int .i64 ra, .int .i64 rb, .int .i64 rc] 23)).alloc (.cells #[.int .i64 0, .int .i64 0, .int .i64 0] 23)).alloc (.cells #[] 27)).cell? ⟨w.heap.size, 2, none⟩ = some (.int .i64 z) := Blk.cell (((x1.alloc _).alloc _).alloc _) 2
    have q1 : w.heap.size < w1.heap.size + 1 := by omega
    have q2 : w.heap.size < w1.heap.size + 1 + 1 := by omega
    have q3 : ¬ w.heap.size = w1.heap.size := by omega
    have q4 : ¬ w.heap.size = w1.heap.size + 1 := by omega
    have q5 : ¬ w.heap.size = w1.heap.size + 1 + 1 := by omega
    go_region_held3 (fun w' => w'.cell? ⟨w.heap.size, 0, none⟩ = some (.int .i64 x) ∧ w'.cell? ⟨w.heap.size, 1, none⟩ = some (.int .i64 y) ∧ w'.cell? ⟨w.heap.size, 2, none⟩ = some (.int .i64 z))
      (first
        | go_keep
        | (refine ⟨?_, ?_, ?_⟩ <;> with_reducible assumption))
      ((first
        | (refine step_append_new _ (by rfl) (.tmp 22) (.tmp 23) _ (by rfl) w1.heap.size 27 i0 _ 2 16 Try.underlying24 hi0 hz0 hz1 hz2 rfl (by omega) _ (by rfl) (own_empty (by first | exact hE1 | exact hE2 | exact hE3) (by first | (simp; done) | (simp; omega) | omega)) w.heap.size A m cap _ (by rfl) (hR.below (by go_grown)) hone (by simp only [maxLen]; omega) (by omega) (by first | (simp; done) | (simp; omega)) ?_
           intro A1 k1 w2 hown1 hg1
           have b2 : Below w.heap.size w w2 := Below.grown (by go_grown) hg1 (by first | (simp; done) | (simp; omega)) (by simp [Value.ownBlock]; omega)
           have s2 : w1.heap.size ≤ w2.heap.size := by have := hg1.size; simp at this; omega
           have x2 : Blk w2 w.heap.size 23 #[.int .i64 x, .int .i64 y, .int .i64 z] := Blk.grown (by first | exact (x1.alloc _).alloc _ | exact ((x1.alloc _).alloc _).alloc _) hg1 (by simp [Value.ownBlock]; omega)
           first
             | have bz2 : Blk w2 (w1.heap.size + 1) 23 #[.int .i64 0, .int .i64 0, .int .i64 0] := Blk.grown (by exact hZa) hg1 (by first | (simp [Value.ownBlock]; done) | (simp [Value.ownBlock]; omega))
             | have bz2 : Blk w2 (w1.heap.size + 1 + 1) 23 #[.int .i64 0, .int .i64 0, .int .i64 0] := Blk.grown (by exact hZb) hg1 (by first | (simp [Value.ownBlock]; done) | (simp [Value.ownBlock]; omega))
             | skip
           have xa2 : Blk w2 w1.heap.size 23 #[.int .i64 ra, .int .i64 rb, .int .i64 rc] := Blk.grown (by first | exact (Blk.new w1 23 _).alloc _ | exact ((Blk.new w1 23 _).alloc _).alloc _) hg1 (by first | (simp [Value.ownBlock]; done) | (simp [Value.ownBlock]; omega))
           have la2 := Blk.lt xa2
           have k20 := Blk.cell x2 0
           have k21 := Blk.cell x2 1
           have k22 := Blk.cell x2 2
           simp at k20 k21 k22)
        | (refine step_append_s _ (by rfl) (.tmp 24) (.tmp 25) _ (by rfl) w1.heap.size 27 i0 _ 2 16 Try.underlying24 hi0 hz0 hz1 hz2 rfl (by omega) (.slice A1 m k1) m _ (by rfl) (by first | exact hown1 | exact hown1.alloc _) w.heap.size A m cap _ (by rfl) (hR.below (by first | exact b2 | exact b2.alloc b2.size _)) hone (by simp only [maxLen]; omega) (by omega) (by first | exact s2 | exact Nat.le_succ_of_le s2 | (simp; omega)) ?_
           intro A2 k2 w3 hown2 hg2
           have x3 : Blk w3 w.heap.size 23 #[.int .i64 x, .int .i64 y, .int .i64 z] := Blk.grown (by first | exact x2 | exact x2.alloc _) hg2 (fun e => by have := ownBlock_ge hown1 e.symm; omega)
           have b3 : Below w.heap.size w w3 := Below.grown (by first | exact b2 | exact b2.alloc b2.size _) hg2 (by first | exact b2.size | (simp; have := b2.size; omega)) (fun k hk => by have := ownBlock_ge hown1 hk; omega)
           first
             | have bz3 := Blk.grown (by exact bz2) hg2 (fun e => own_blk_ne hown1 bz2 (by decide) e.symm)
             | have bz3 : Blk w3 w2.heap.size 23 #[.int .i64 0, .int .i64 0, .int .i64 0] := Blk.grown (by exact Blk.new w2 23 #[.int .i64 0, .int .i64 0, .int .i64 0]) hg2 (fun e => own_blk_ne (hown1.alloc _) (Blk.new w2 23 #[.int .i64 0, .int .i64 0, .int .i64 0]) (by decide) e.symm)
             | skip
           have xa3 : Blk w3 w1.heap.size 23 #[.int .i64 ra, .int .i64 rb, .int .i64 rc] := Blk.grown (by first | exact xa2 | exact xa2.alloc _) hg2 (fun e => own_blk_ne hown1 xa2 (by decide) e.symm)
           have la3 := Blk.lt xa3
           have k30 := Blk.cell x3 0
           have k31 := Blk.cell x3 1
           have k32 := Blk.cell x3 2
           simp at k30 k31 k32
           have hp3 : Pairs w3 A2 k2 (L ++ L) := pairs_of_own (base := w1.heap.size) (by rw [List.length_append, HM.out, List.flatMap_append]; exact hown2) (by intro p hp; have := List.mem_append.1 hp; simp at this; obtain ⟨i, hi, rfl⟩ := List.mem_iff_getElem.1 this; obtain ⟨_, _, _, _, _, _, q1, q2⟩ := HL.out.2.2 i hi; exact ⟨q1, q2⟩))
        | (go_simp
           go_at_call 7
           refine (HB.out _ A2 _ k2 (by rw [List.length_append, HM.out]) (by first | exact hp3 | exact hp3.below ((Below.refl _ _).alloc (Nat.le_refl _) _))).mono ?_
           rintro e w4 ⟨rfl, b4⟩
           have lx3 := Blk.lt x3
           have x4 : Blk w4 w.heap.size 23 #[.int .i64 x, .int .i64 y, .int .i64 z] := by first | exact Blk.below x3 b4 (by omega) | exact Blk.below (x3.alloc _) b4 (by simp; omega)
           have lx4 := Blk.lt x4
           have ne1 : ¬ w1.heap.size + 1 = w.heap.size := by omega
           have ne1' : ¬ w1.heap.size + 1 + 1 = w.heap.size := by omega
           have ne2 : ¬ w2.heap.size = w.heap.size := by omega
           have ne3 : ¬ w3.heap.size = w.heap.size := by omega
           have ne4 : ¬ w4.heap.size = w.heap.size := by omega
           have B4 : Below w.heap.size w w4 := by first | exact b3.trans (b4.mono b3.size) | exact (b3.alloc b3.size _).trans (b4.mono (by simp; have := b3.size; omega))
           first
             | have bz4 := Blk.below bz3 b4 (Blk.lt bz3)
             | have bz4 : Blk w4 w3.heap.size 23 #[.int .i64 0, .int .i64 0, .int .i64 0] := Blk.below (Blk.new w3 23 #[.int .i64 0, .int .i64 0, .int .i64 0]) b4 (by simp)
             | skip
           have xa4 : Blk w4 w1.heap.size 23 #[.int .i64 ra, .int .i64 rb, .int .i64 rc] := by first | exact Blk.below xa3 b4 (by omega) | exact Blk.below (xa3.alloc _) b4 (by simp; omega)
           have la4 := Blk.lt xa4
           have k40 := Blk.cell x4 0
           have k41 := Blk.cell x4 1
           have k42 := Blk.cell x4 2
           simp at k40 k41 k42
           first
             | (have m0 := Blk.cell bz4 0
                have m1 := Blk.cell bz4 1
                have m2 := Blk.cell bz4 2
                simp at m0 m1 m2
                have n0 := Blk.frozen bz4 0
                have n1 := Blk.frozen bz4 1
                have n2 := Blk.frozen bz4 2)
             | skip)))
    · have bF := Blk.new w4 23 #[.int .i64 ra, .int .i64 rb, .int .i64 rc]
      have aF := Blk.alloc xa4 (.cells #[.int .i64 ra, .int .i64 rb, .int .i64 rc] 23)
      have BF : Below w.heap.size w (w4.alloc (.cells #[.int .i64 ra, .int .i64 rb, .int .i64 rc] 23)) := B4.alloc B4.size _
      go_wp2_with fail
      refine (awake_any _).mono ?_
      rintro e w6 ⟨rfl, b6⟩
      have bF6 := Blk.below bF b6 (Blk.lt bF)
      have aF6 := Blk.below aF b6 (Blk.lt aF)
      have d0 := Blk.cell bF6 0
      have d1 := Blk.cell bF6 1
      have d2 := Blk.cell bF6 2
      have f0 := Blk.cell aF6 0
      have f1 := Blk.cell aF6 1
      have f2 := Blk.cell aF6 2
      simp at d0 d1 d2 f0 f1 f2
      go_wp2_with fail
      go_ret
      exact ⟨rfl, BF.trans (b6.mono BF.size)⟩
    · have bF := Blk.set_ (Blk.set_ (Blk.set_ bz4 0 (.int .i64 ra)) 1 (.int .i64 rb)) 2 (.int .i64 rc)
      have aF := Blk.far (Blk.far (Blk.far xa4 (p := ⟨w3.heap.size, 0, none⟩) (by first | (simp; done) | (simp; omega)) (.int .i64 ra)) (p := ⟨w3.heap.size, 1, none⟩) (by first | (simp; done) | (simp; omega)) (.int .i64 rb)) (p := ⟨w3.heap.size, 2, none⟩) (by first | (simp; done) | (simp; omega)) (.int .i64 rc)
      have BF := ((B4.setCell (p := ⟨w3.heap.size, 0, none⟩) (by first | (simp; done) | (simp; omega)) (.int .i64 ra)).setCell (p := ⟨w3.heap.size, 1, none⟩) (by first | (simp; done) | (simp; omega)) (.int .i64 rb)).setCell (p := ⟨w3.heap.size, 2, none⟩) (by first | (simp; done) | (simp; omega)) (.int .i64 rc)
      go_wp2_with fail
      refine (awake_any _).mono ?_
      rintro e w6 ⟨rfl, b6⟩
      have bF6 := Blk.below bF b6 (Blk.lt bF)
      have aF6 := Blk.below aF b6 (Blk.lt aF)
      have d0 := Blk.cell bF6 0
      have d1 := Blk.cell bF6 1
      have d2 := Blk.cell bF6 2
      have f0 := Blk.cell aF6 0
      have f1 := Blk.cell aF6 1
      have f2 := Blk.cell aF6 2
      simp at d0 d1 d2 f0 f1 f2
      go_wp2_with fail
      go_ret
      exact ⟨rfl, BF.trans (b6.mono BF.size)⟩
    · have bF := Blk.set_ (Blk.set_ (Blk.set_ bz4 0 (.int .i64 ra)) 1 (.int .i64 rb)) 2 (.int .i64 rc)
      have aF := Blk.far (Blk.far (Blk.far xa4 (p := ⟨w2.heap.size, 0, none⟩) (by first | (simp; done) | (simp; omega)) (.int .i64 ra)) (p := ⟨w2.heap.size, 1, none⟩) (by first | (simp; done) | (simp; omega)) (.int .i64 rb)) (p := ⟨w2.heap.size, 2, none⟩) (by first | (simp; done) | (simp; omega)) (.int .i64 rc)
      have BF := ((B4.setCell (p := ⟨w2.heap.size, 0, none⟩) (by first | (simp; done) | (simp; omega)) (.int .i64 ra)).setCell (p := ⟨w2.heap.size, 1, none⟩) (by first | (simp; done) | (simp; omega)) (.int .i64 rb)).setCell (p := ⟨w2.heap.size, 2, none⟩) (by first | (simp; done) | (simp; omega)) (.int .i64 rc)
      go_wp2_with fail
      refine (awake_any _).mono ?_
      rintro e w6 ⟨rfl, b6⟩
      have bF6 := Blk.below bF b6 (Blk.lt bF)
      have aF6 := Blk.below aF b6 (Blk.lt aF)
      have d0 := Blk.cell bF6 0
      have d1 := Blk.cell bF6 1
      have d2 := Blk.cell bF6 2
      have f0 := Blk.cell aF6 0
      have f1 := Blk.cell aF6 1
      have f2 := Blk.cell aF6 2
      simp at d0 d1 d2 f0 f1 f2
      go_wp2_with fail
      go_ret
      exact ⟨rfl, BF.trans (b6.mono BF.size)⟩
    · have bF := Blk.set_ (Blk.set_ (Blk.set_ bz4 0 (.int .i64 ra)) 1 (.int .i64 rb)) 2 (.int .i64 rc)
      have aF := Blk.far (Blk.far (Blk.far xa4 (p := ⟨w1.heap.size + 1 + 1, 0, none⟩) (by first | (simp; done) | (simp; omega)) (.int .i64 ra)) (p := ⟨w1.heap.size + 1 + 1, 1, none⟩) (by first | (simp; done) | (simp; omega)) (.int .i64 rb)) (p := ⟨w1.heap.size + 1 + 1, 2, none⟩) (by first | (simp; done) | (simp; omega)) (.int .i64 rc)
      have BF := ((B4.setCell (p := ⟨w1.heap.size + 1 + 1, 0, none⟩) (by first | (simp; done) | (simp; omega)) (.int .i64 ra)).setCell (p := ⟨w1.heap.size + 1 + 1, 1, none⟩) (by first | (simp; done) | (simp; omega)) (.int .i64 rb)).setCell (p := ⟨w1.heap.size + 1 + 1, 2, none⟩) (by first | (simp; done) | (simp; omega)) (.int .i64 rc)
      go_wp2_with fail
      refine (awake_any _).mono ?_
      rintro e w6 ⟨rfl, b6⟩
      have bF6 := Blk.below bF b6 (Blk.lt bF)
      have aF6 := Blk.below aF b6 (Blk.lt aF)
      have d0 := Blk.cell bF6 0
      have d1 := Blk.cell bF6 1
      have d2 := Blk.cell bF6 2
      have f0 := Blk.cell aF6 0
      have f1 := Blk.cell aF6 1
      have f2 := Blk.cell aF6 2
      simp at d0 d1 d2 f0 f1 f2
      go_wp2_with fail
      go_ret
      exact ⟨rfl, BF.trans (b6.mono BF.size)⟩
    · have bF := Blk.set_ (Blk.set_ (Blk.set_ bz4 0 (.int .i64 ra)) 1 (.int .i64 rb)) 2 (.int .i64 rc)
      have aF := Blk.far (Blk.far (Blk.far xa4 (p := ⟨w1.heap.size + 1, 0, none⟩) (by first | (simp; done) | (simp; omega)) (.int .i64 ra)) (p := ⟨w1.heap.size + 1, 1, none⟩) (by first | (simp; done) | (simp; omega)) (.int .i64 rb)) (p := ⟨w1.heap.size + 1, 2, none⟩) (by first | (simp; done) | (simp; omega)) (.int .i64 rc)
      have BF := ((B4.setCell (p := ⟨w1.heap.size + 1, 0, none⟩) (by first | (simp; done) | (simp; omega)) (.int .i64 ra)).setCell (p := ⟨w1.heap.size + 1, 1, none⟩) (by first | (simp; done) | (simp; omega)) (.int .i64 rb)).setCell (p := ⟨w1.heap.size + 1, 2, none⟩) (by first | (simp; done) | (simp; omega)) (.int .i64 rc)
      go_wp2_with fail
      refine (awake_any _).mono ?_
      rintro e w6 ⟨rfl, b6⟩
      have bF6 := Blk.below bF b6 (Blk.lt bF)
      have aF6 := Blk.below aF b6 (Blk.lt aF)
      have d0 := Blk.cell bF6 0
      have d1 := Blk.cell bF6 1
      have d2 := Blk.cell bF6 2
      have f0 := Blk.cell aF6 0
      have f1 := Blk.cell aF6 1
      have f2 := Blk.cell aF6 2
      simp at d0 d1 d2 f0 f1 f2
      go_wp2_with fail
      go_ret
      exact ⟨rfl, BF.trans (b6.mono BF.size)⟩

theorem walk (w : World) (x y z : Int) (bx : -9223372036854775808 ≤ x ∧ x ≤ 9223372036854775807) (by_ : -9223372036854775808 ≤ y ∧ y ≤ 9223372036854775807) (bz : -9223372036854775808 ≤ z ∧ z ≤ 9223372036854775807) (v1 : Value) (n : Nat) (C : Nat → List Value) (h1 : RowsAt w v1 n 2 Two C) :
    Calls Try.prog 4 #[.agg #[.int .i64 x, .int .i64 y, .int .i64 z], v1] w fun e w' => e = .returned (.bool true) ∧ Below w.heap.size w w' := by
  obtain ⟨A, cap, L, rfl, hL⟩ := pairs_of_rows h1
  exact core w x y z A cap L hL

theorem own : ownKnob Try.prog.godebug = none := by kernel_rfl

set_option maxRecDepth 100000 in
theorem lifted (os : Os) (started : os.Started) (H : Type) (enc : TypeId × Value → H) :
    ReturnsInHanded {} Try.checked os 4 .any (Rows.paramsOnceSpec.pre6 enc Try.prog Try.f4 Rows.paramsOnceRow.domain false) (Rows.paramsOnceSpec.post enc Try.prog Try.f4 false true false false) := by
  refine returnsInHanded_of_change (C := Try.checked) own started (by kernel_rfl) Try.func4
    (ChangeSpec.witness6 (enc := enc) (C := Try.checked) false ⟨#[], #[.agg #[.int .i64 0, .int .i64 0, .int .i64 0], .slice none 0 0], []⟩ 8 (by kernel_rfl) (by kernel_rfl) (by kernel_rfl) (by kernel_rfl)) ?_
  intro W base args ds gs before hval0 hW hcnd _
  have hval : ∀ (j : Nat) t v, Try.f4.params[j]? = some t → args[j]? = some v → Value.okWide Try.prog W .any base t v := hval0
  have hW' := hW
  obtain ⟨p, q, hA0, hV, rfl, hfz, hnd⟩ := hW
  have hA : DataW.TrodAll enc Try.prog W 0 (fun _ => true) true Try.f4.params.toList args.toList ds p := hA0
  rw [Try.params4] at hA hval
  obtain ⟨v0, vs0, d0, ds0, p0, q0, hargs, rfl, rfl, h0, r0⟩ := trodAll_cons hA
  obtain ⟨v1, vs1, d1, ds1, p1, q1, rfl, rfl, rfl, h1, r1⟩ := trodAll_cons r0
  obtain ⟨rfl, rfl, rfl⟩ := trodAll_nil r1
  obtain rfl : args = #[v0, v1] := by cases args; simp_all
  obtain ⟨rfl, rfl⟩ := trodVars_none hV
  have g0 := h0
  have g1 := h1
  obtain ⟨x0, y0, z0, rfl, bx0, by0, bz0⟩ := open_ints3 Try.underlying23 Try.underlying3 (by kernel_rfl) (by kernel_rfl) rfl rfl rfl rfl rfl rfl (hval 0 23 v0 rfl rfl) h0
  obtain ⟨n1, C1, k1⟩ := open_rows Try.underlying24 (by kernel_rfl) (by decide) (two_of Try.underlying27 Try.underlying3 (by kernel_rfl) rfl rfl rfl rfl) (hval 1 24 v1 rfl rfl) h1
  clear hA0 hval0
  have hlt : ∀ x ∈ (p0 ++ (p1 ++ [])), x.block < W.heap.size := fun x hx => hW'.lt x (by simpa using hx)
  refine (walk W x0 y0 z0 bx0 by0 bz0 v1 n1 C1 k1).mono fun e W' ⟨he, hb⟩ => ?_
  subst he
  refine ⟨_, rfl, post_of_below (pa := (p0 ++ (p1 ++ []))) (pv := []) hW' (fun _ _ _ => (trodAll_cons_mk (shut_bool Try.underlying4 _) trodAll_mk0)) (fun sp hsp => ?_) (fun _ _ => rfl) (by simp) hb (ok_one (by kernel_rfl) rfl (okWide_bool_mk Try.underlying4 _))⟩
  exact trodAll_cons_mk (below_trod sp (by kernel_rfl) (by kernel_rfl) (of_decide_eq_true (by kernel_rfl)) g0 hb (fun x hx => hlt x (by simp [hx])) (fun x hx => hsp x (by simp [hx])))
    (trodAll_cons_mk (below_trod sp (by kernel_rfl) (by kernel_rfl) (of_decide_eq_true (by kernel_rfl)) g1 hb (fun x hx => hlt x (by simp [hx])) (fun x hx => hsp x (by simp [hx])))
    (trodAll_mk0))

theorem over : Rows.paramsOnceRow.holds Try.pinned (OpenSpec.ofChange Rows.paramsOnceSpec) :=
  OpenClaim.holds_of_wide 4 Try.f4 rfl rfl rfl rfl rfl rfl rfl ⟨rfl, rfl, rfl, rfl, rfl⟩ rfl rfl rfl rfl rfl (by kernel_rfl) Try.func4 (by kernel_rfl)
    (of_decide_eq_true (by kernel_rfl)) (by unfold Func.isWrapper; rw [if_neg (by decide +kernel)]; exact ⟨rfl, rfl⟩)
    (fun os started H enc _ => lifted os started H enc)

theorem proved : Rows.ParamsOnceSaid := over
#print axioms proved
end Go.Proofs.Ytgmnhiofenpafaa.ParamsOnce
