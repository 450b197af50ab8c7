/- The walks of package share: awake, cut. -/
import Derived.Test.YtodkifkphhfnpaaRows
import Derived.WalkKit
import Derived.ProofKit
import Derived.Handy
import Derived.Test.YtodkifkphhfnpaaMem
import Derived.Test.YtodkifkphhfnpaaLift
import Derived.Test.YtodkifkphhfnpaaApp
import Derived.Test.YtodkifkphhfnpaaReads
import Derived.Test.YtodkifkphhfnpaaOrd
import Derived.Test.YtodkifkphhfnpaaShLaw
import Derived.Test.YtodkifkphhfnpaaShare
import Derived.Test.YtodkifkphhfnpaaShare2
import Derived.Test.YtodkifkphhfnpaaShare3
import Derived.Test.YtodkifkphhfnpaaShare4
import Derived.Test.YtodkifkphhfnpaaShare5
import Derived.Test.YtodkifkphhfnpaaShare6
import Derived.Test.YtodkifkphhfnpaaShare7
import Derived.Deep.QuietTactic
import Derived.BigQuiet
import Derived.Deep.RegionWith
import Derived.Deep.RegionHeld3
import Derived.Deep.AppendLies
import Derived.WalkLawsBesides
import Derived.WalkSmall
import Derived.Deep.LoopGhost
import Derived.ChangeKeysEq
import Derived.Laws.StructEq
namespace Go.Proofs.Ytodkifkphhfnpaa
open Go.RowKit
set_option linter.unusedVariables false
set_option linter.unusedSimpArgs false








open Go.WideShapes Go.ChangeShapes Go.Deep in
theorem claims_of {w : World} {v : Value} {n : Nat} {C : Nat → List Value} (h : RowsAt w v n 2 Two C) : ∃ X Y, Claims w v n X Y := by
  obtain ⟨A, cap, rfl, hnc, hcap, hc⟩ := h
  have g : ∀ i, i < n → ∃ p : Int × Int, C i = [.int .i64 p.1, .int .i64 p.2] ∧ (-9223372036854775808 ≤ p.1 ∧ p.1 ≤ 9223372036854775807) ∧ (-9223372036854775808 ≤ p.2 ∧ p.2 ≤ 9223372036854775807) := by
    intro i hi
    obtain ⟨⟨x, y, h1, h2, h3⟩, _⟩ := hc i hi
    exact ⟨(x, y), h1, h2, h3⟩
  obtain ⟨f, hf⟩ := choose_lt (α := Int × Int) (p := fun i a => C i = [.int .i64 a.1, .int .i64 a.2] ∧ (-9223372036854775808 ≤ a.1 ∧ a.1 ≤ 9223372036854775807) ∧ (-9223372036854775808 ≤ a.2 ∧ a.2 ≤ 9223372036854775807)) (n := n) g
  refine ⟨fun i => (f i).1, fun i => (f i).2, ⟨⟨A, cap, rfl, hnc, hcap, fun hA => ?_, fun i hi => ?_⟩, fun i hi => (hf i hi).2.1, fun i hi => (hf i hi).2.2⟩⟩
  · rcases Nat.eq_zero_or_pos n with h0 | h0
    · exact h0
    · obtain ⟨_, _, b, off, hA', _⟩ := hc 0 h0
      rw [hA] at hA'; cases hA'
  · obtain ⟨_, _, b, off, hA, hb, hcell⟩ := hc i hi
    have hC := (hf i hi).1
    refine ⟨b, off, hA, hb, ?_, ?_⟩
    · exact hcell 0 _ (by rw [hC]; rfl)
    · exact hcell 1 _ (by rw [hC]; rfl)

theorem cut_any (v : Value) (n : Nat) (X Y : Nat → Int) (w : World) (hc : Claims w v n X Y) :
    Calls Try.prog 7 #[v] w fun e w' => (∃ v', e = .returned v' ∧ Claims w v' (min n 40) X Y) ∧ w = w' := by
  have hc' := hc
  obtain ⟨⟨A, cap, rfl, hnc, hcap, hA0, hcells⟩, bx, bY⟩ := hc
  have HC := Lib.hid hc'
  have HF := Lib.hid (And.intro hcells (And.intro bx bY))
  clear hc' hcells bx bY
  by_cases h : n ≤ 40
  · rw [Nat.min_eq_left h]
    go_enter Try.func7, Try.ntmps7
    go_wp2_with fail
    go_ret
    exact ⟨⟨_, rfl, HC.out⟩, rfl⟩
  · have h40 : 40 < n := by omega
    rw [Nat.min_eq_right (by omega)]
    cases A with
    | none => exact absurd (hA0 rfl) (by omega)
    | some b =>
      go_enter Try.func7, Try.ntmps7
      go_wp2_with fail
      go_ret
      refine ⟨⟨_, rfl, ⟨⟨_, _, rfl, by omega, by omega, fun h => (by cases h), fun i hi => HF.out.1 i (by omega)⟩, fun i hi => HF.out.2.1 i (by omega), fun i hi => HF.out.2.2 i (by omega)⟩⟩, rfl⟩

def awX : Nat → Int := fun i => if i = 0 then 2 else 9
theorem aw_end : (dealOf 10 3 awX (fun _ => 1)).End ((dealOf 10 3 awX (fun _ => 1)).it 2) := by
  refine ⟨2, fun j hj => ?_, ?_, rfl⟩
  · have h0 : ¬ (dealOf 10 3 awX (fun _ => 1)).stop ((dealOf 10 3 awX (fun _ => 1)).it 0) := by decide +kernel
    have h1 : ¬ (dealOf 10 3 awX (fun _ => 1)).stop ((dealOf 10 3 awX (fun _ => 1)).it 1) := by decide +kernel
    rcases (by omega : j = 0 ∨ j = 1) with rfl | rfl
    · exact h0
    · exact h1
  · have h2 : (dealOf 10 3 awX (fun _ => 1)).stop ((dealOf 10 3 awX (fun _ => 1)).it 2) := by decide +kernel
    exact h2
def awH : Nat → Int := fun i => if i = 0 then 2 else 4
theorem aw_val : ∀ j, j < 3 → (dealOf 10 3 awX (fun _ => 1)).it 2 j = awH j := by
  intro j hj
  rcases (by omega : j = 0 ∨ j = 1 ∨ j = 2) with rfl | rfl | rfl <;> decide +kernel

set_option maxHeartbeats 2000000 in
theorem awake_any (w : World) : Calls Try.prog 9 #[] w fun e w' => e = .returned (.bool true) ∧ Below w.heap.size w w' := by
  go_enter Try.func9, Try.ntmps9
  go_wp2_with fail
  have hcl : Claims (w.alloc (.cells #[.int .i64 2, .int .i64 1, .int .i64 9, .int .i64 1, .int .i64 9, .int .i64 1] 32)) (.slice (some ⟨w.heap.size, 0, none⟩) 3 3) 3 awX (fun _ => 1) := by
    have hb := Blk.new w 32 #[.int .i64 2, .int .i64 1, .int .i64 9, .int .i64 1, .int .i64 9, .int .i64 1]
    refine ⟨⟨_, _, rfl, by omega, by omega, fun h => (by cases h), fun i hi => ⟨w.heap.size, 0, rfl, by simp, ?_, ?_⟩⟩, fun i _ => by simp only [awX]; split <;> omega, fun i _ => by omega⟩
    · rw [Blk.cell hb]; rcases (by omega : i = 0 ∨ i = 1 ∨ i = 2) with rfl | rfl | rfl <;> rfl
    · rw [Blk.cell hb]; rcases (by omega : i = 0 ∨ i = 1 ∨ i = 2) with rfl | rfl | rfl <;> rfl
  refine (share_ok 10 _ 3 awX (fun _ => 1) _ hcl (by omega) (by omega) (by omega)).mono ?_
  rintro e w1 ⟨A, cap, h, rfl, hr, hE, b1⟩
  obtain rfl := SH.Deal.End.one hE aw_end
  have B1 : Below w.heap.size w w1 := ((Below.refl _ _).alloc (Nat.le_refl _) _).trans (b1.mono (by simp))
  have hr2 : RowI (w1.alloc (.cells #[.int .i64 2, .int .i64 4, .int .i64 4] 3)) A 3 cap awH := by
    have := hr.below ((Below.refl _ _).alloc (Nat.le_refl _) (.cells #[.int .i64 2, .int .i64 4, .int .i64 4] 3))
    exact ⟨this.1, fun hn => by
      obtain ⟨g, hA, i⟩ := this.2 hn
      exact ⟨g, hA, i.congr aw_val⟩⟩
  have hr3 : RowI (w1.alloc (.cells #[.int .i64 2, .int .i64 4, .int .i64 4] 3)) (some ⟨w1.heap.size, 0, none⟩) 3 3 awH := by
    refine ⟨by omega, fun _ => ⟨_, rfl, #[.int .i64 2, .int .i64 4, .int .i64 4], Blk.new w1 _ _, fun j hj => ?_⟩⟩
    rcases (by omega : j = 0 ∨ j = 1 ∨ j = 2) with rfl | rfl | rfl <;> rfl
  have HI := Lib.hid (ints_any _ _ 3 cap 3 awH awH _ hr2 hr3 (by omega) (fun _ _ => rfl))
  have HB := Lib.hid B1
  clear hr hr2 hr3 hE b1 B1 hcl
  go_wp2_with fail
  refine HI.out.mono ?_
  rintro e w2 ⟨rfl, q, rfl⟩
  go_wp2_with fail
  go_ret
  exact ⟨rfl, below_drewN (HB.out.alloc HB.out.size _) q⟩
end Go.Proofs.Ytodkifkphhfnpaa
