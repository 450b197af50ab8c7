/- The walks of package params, and of its reference. -/
import Derived.Test.YtdegdikkjaifiaaRows
import Derived.WalkKit
import Derived.ProofKit
import Derived.Handy
import Derived.Test.YtdegdikkjaifiaaMem
import Derived.Test.YtdegdikkjaifiaaLift
import Derived.Test.YtdegdikkjaifiaaApp
import Derived.Deep.QuietTactic
import Derived.BigQuiet
import Derived.Deep.RegionWith
import Derived.Deep.RegionHeld
import Derived.WalkLawsBesides
import Derived.Laws.ResultCell
import Derived.WalkSmall
namespace Go.Proofs.Ytdegdikkjaifiaa
open Go.RowKit
set_option linter.unusedVariables false

/-- A setting laid into settings. -/
def setP (x y z i v : Int) : Int × Int × Int := if i = 1 then (v, y, z) else if i = 2 then (x, v, z) else if i = 3 then (x, y, v) else (x, y, z)
/-- Settings with others. -/
def app (x y z : Int) : List (Int × Int) → (Int × Int × Int) × Int
  | [] => ((x, y, z), 0)
  | (i, v) :: r => if v < 0 ∨ 2147483647 < v then ((0, 0, 0), 4) else app (setP x y z i v).1 (setP x y z i v).2.1 (setP x y z i v).2.2 r

/-- A slice of pairs of ints, as a list. -/
def Pairs (w : World) (A : Option Addr) (cap : Nat) (L : List (Int × Int)) : Prop :=
  L.length ≤ cap ∧ cap ≤ 9223372036854775807 ∧ ∀ (i : Nat) (h : i < L.length), ∃ b off, A = some ⟨b, off, none⟩ ∧ b < w.heap.size ∧ w.cell? ⟨b, off + i * 2, none⟩ = some (.int .i64 (L[i]'h).1) ∧ w.cell? ⟨b, off + i * 2 + 1, none⟩ = some (.int .i64 (L[i]'h).2) ∧
    (-9223372036854775808 ≤ (L[i]'h).1 ∧ (L[i]'h).1 ≤ 9223372036854775807) ∧ (-9223372036854775808 ≤ (L[i]'h).2 ∧ (L[i]'h).2 ≤ 9223372036854775807)

theorem Pairs.below {w w' : World} {A : Option Addr} {cap : Nat} {L : List (Int × Int)} (h : Pairs w A cap L) (hb : Below w.heap.size w w') : Pairs w' A cap L := by
  refine ⟨h.1, h.2.1, fun i hi => ?_⟩
  obtain ⟨b, off, hA, hlt, h1, h2, h3, h4⟩ := h.2.2 i hi
  exact ⟨b, off, hA, Nat.lt_of_lt_of_le hlt hb.size, (hb.cell (p := ⟨b, off + i * 2, none⟩) hlt).trans h1, (hb.cell (p := ⟨b, off + i * 2 + 1, none⟩) hlt).trans h2, h3, h4⟩

theorem Pairs.keep {w w' : World} {A : Option Addr} {cap : Nat} {L : List (Int × Int)} (h : Pairs w A cap L) (hs : w.heap.size ≤ w'.heap.size) (hk : ∀ b off i, A = some ⟨b, off, none⟩ → b < w.heap.size → w'.cell? ⟨b, i, none⟩ = w.cell? ⟨b, i, none⟩) : Pairs w' A cap L := by
  refine ⟨h.1, h.2.1, fun i hi => ?_⟩
  obtain ⟨b, off, hA, hlt, h1, h2, h3, h4⟩ := h.2.2 i hi
  exact ⟨b, off, hA, Nat.lt_of_lt_of_le hlt hs, (hk b off _ hA hlt).trans h1, (hk b off _ hA hlt).trans h2, h3, h4⟩
theorem Pairs.far {w : World} {A : Option Addr} {cap : Nat} {L : List (Int × Int)} (h : Pairs w A cap L) {p : Addr} (hf : ∀ b off, A = some ⟨b, off, none⟩ → p.block ≠ b) (v : Value) : Pairs (w.setCell p v) A cap L :=
  h.keep (by simp) fun b off i hA _ => World.cell?_setCell_far w p _ v (hf b off hA)

theorem within_any (n m : Int) (w : World) :
    Calls Try.prog 21 #[.int .i64 n, .int .i64 m] w fun e w' => e = .returned (.bool (decide (0 ≤ n ∧ n ≤ m))) ∧ w = w' := by
  by_cases h0 : n < 0
  · rw [show decide (0 ≤ n ∧ n ≤ m) = false by simp; omega]
    go_enter Try.func21, Try.ntmps21
    go_wp2
    go_ret
    exact ⟨rfl, rfl⟩
  · by_cases h1 : n ≤ m
    · rw [show decide (0 ≤ n ∧ n ≤ m) = true by simp; omega]
      go_enter Try.func21, Try.ntmps21
      go_wp2
      go_ret
      exact ⟨rfl, rfl⟩
    · rw [show decide (0 ≤ n ∧ n ≤ m) = false by simp; omega]
      go_enter Try.func21, Try.ntmps21
      go_wp2
      go_ret
      exact ⟨rfl, rfl⟩

theorem first_any (w : World) :
    Calls Try.prog 16 #[] w fun e w' => e = .returned (.agg #[.int .i64 64, .int .i64 8, .int .i64 4]) ∧ Below w.heap.size w w' := by
  go_enter Try.func16, Try.ntmps16
  go_wp2
  go_returns
  exact ⟨rfl, (Below.refl _ _).alloc (Nat.le_refl _) _⟩

def Applied (w : World) (r : (Int × Int × Int) × Int) (e : Ending) (w' : World) : Prop :=
  e = .returned (.tuple #[.agg #[.int .i64 r.1.1, .int .i64 r.1.2.1, .int .i64 r.1.2.2], .int .i64 r.2]) ∧ Below w.heap.size w w'

/-- May settings be one's own? -/
def rightB (x y z : Int) : Bool := decide (0 ≤ x ∧ x ≤ 4096) && decide (0 ≤ y ∧ y ≤ 32) && decide (0 ≤ z ∧ z ≤ 64)

theorem check_any (x y z : Int) (w : World) :
    Calls Try.prog 17 #[.agg #[.int .i64 x, .int .i64 y, .int .i64 z]] w fun e w' => e = .returned (.int .i64 (if rightB x y z then 0 else 3)) ∧ Below w.heap.size w w' := by
  have hX := fun W => within_any x 4096 W
  have hY := fun W => within_any y 32 W
  have hZ := fun W => within_any z 64 W
  unfold rightB
  generalize decide (0 ≤ x ∧ x ≤ 4096) = bx at *
  generalize decide (0 ≤ y ∧ y ≤ 32) = by_ at *
  generalize decide (0 ≤ z ∧ z ≤ 64) = bz at *
  have HX := Lib.hid hX
  have HY := Lib.hid hY
  have HZ := Lib.hid hZ
  clear hX hY hZ
  cases bx
  · go_enter Try.func17, Try.ntmps17
    go_wp2_with fail
    refine (HX.out _).mono ?_
    rintro e w1 ⟨rfl, rfl⟩
    go_wp2_with fail
    go_ret
    exact ⟨rfl, (Below.refl _ _).alloc (Nat.le_refl _) _⟩
  · cases by_
    · go_enter Try.func17, Try.ntmps17
      go_wp2_with fail
      refine (HX.out _).mono ?_
      rintro e w1 ⟨rfl, rfl⟩
      go_wp2_with fail
      refine (HY.out _).mono ?_
      rintro e w1 ⟨rfl, rfl⟩
      go_wp2_with fail
      go_ret
      exact ⟨rfl, (Below.refl _ _).alloc (Nat.le_refl _) _⟩
    · cases bz
      · go_enter Try.func17, Try.ntmps17
        go_wp2_with fail
        refine (HX.out _).mono ?_
        rintro e w1 ⟨rfl, rfl⟩
        go_wp2_with fail
        refine (HY.out _).mono ?_
        rintro e w1 ⟨rfl, rfl⟩
        go_wp2_with fail
        refine (HZ.out _).mono ?_
        rintro e w1 ⟨rfl, rfl⟩
        go_wp2_with fail
        go_ret
        exact ⟨rfl, (Below.refl _ _).alloc (Nat.le_refl _) _⟩
      · go_enter Try.func17, Try.ntmps17
        go_wp2_with fail
        refine (HX.out _).mono ?_
        rintro e w1 ⟨rfl, rfl⟩
        go_wp2_with fail
        refine (HY.out _).mono ?_
        rintro e w1 ⟨rfl, rfl⟩
        go_wp2_with fail
        refine (HZ.out _).mono ?_
        rintro e w1 ⟨rfl, rfl⟩
        go_wp2_with fail
        go_ret
        exact ⟨rfl, (Below.refl _ _).alloc (Nat.le_refl _) _⟩
end Go.Proofs.Ytdegdikkjaifiaa
