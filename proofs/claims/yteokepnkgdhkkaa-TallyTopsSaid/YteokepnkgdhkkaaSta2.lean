/- The walks of the stable sort: blocks rotated. -/
import Derived.Test.YteokepnkgdhkkaaRows
import Derived.WalkKit
import Derived.ProofKit
import Derived.Handy
import Derived.Deep.QuietTactic
import Derived.BigQuiet
import Derived.Deep.RegionWith
import Derived.Deep.RegionHeld3
import Derived.Deep.AppendLies
import Derived.WalkLawsBesides
import Derived.WalkSmall
import Derived.Deep.Cut
import Derived.Test.YteokepnkgdhkkaaSta1
namespace Go.Proofs.Yteokepnkgdhkkaa
open Go.RowKit Go.Sort
set_option linter.unusedVariables false
def RotE (base : Nat) (w : World) (g n c : Nat) (d : Array Sm) (a m b : Nat) (e : Ending) (w' : World) : Prop :=
  e = .returned (.tuple #[]) ∧ ∃ d' : Array Sm, (∀ x, at' d' x = rotF (at' d) a m b x) ∧ (∀ p q, p ≤ a → b ≤ q → q ≤ n → PermIn p q d d') ∧ RowIs base w w' g n c d'
theorem rot_fun {α : Type} [Inhabited α] {d' : Array α} {f : Nat → α} (h : ∀ x, at' d' x = f x) (a m b x : Nat) : rotF (at' d') a m b x = rotF f a m b x := by
  unfold rotF
  rw [h, h, h]
set_option maxHeartbeats 2000000 in
theorem rotC_any (base : Nat) (w : World) (g n c : Nat) (d : Array Sm) (a m b : Nat) (fv : Value) (h : RowIs base w w g n c d) (hb : base ≤ w.heap.size) (hn : n ≤ 100000) (ham : a < m) (hmb : m < b) (hbn : b ≤ n) :
    Calls Try.prog 47 #[.slice (some ⟨g, 0, none⟩) n c, .int .i64 a, .int .i64 m, .int .i64 b, fv] w (RotE base w g n c d a m b) := by
  have H := Lib.hid h
  clear h
  obtain ⟨I0, hI0⟩ : ∃ I0 : Nat, (m : Int) - (a : Int) = I0 := ⟨m - a, by omega⟩
  obtain ⟨J0, hJ0⟩ : ∃ J0 : Nat, (b : Int) - (m : Int) = J0 := ⟨b - m, by omega⟩
  have hw1 : IntKind.i64.wrap (I0 : Int) = I0 := by rw [IntKind.wrap_i64]; omega
  have hw2 : IntKind.i64.wrap (J0 : Int) = J0 := by rw [IntKind.wrap_i64]; omega
  go_enter Try.func47, Try.ntmps47
  go_wp2_with fail
  go_loopw [10, 11] (fun iv jv wr => ∃ (i j : Nat) (dk : Array Sm), iv = .int .i64 i ∧ jv = .int .i64 j ∧ 1 ≤ i ∧ 1 ≤ j ∧ i + a ≤ m ∧ m + j ≤ b ∧ (∀ x, rotF (at' dk) (m - i) m (m + j) x = rotF (at' d) a m b x) ∧ (∀ p q, p ≤ a → b ≤ q → q ≤ n → PermIn p q d dk) ∧ RowIs base w wr g n c dk) (fun iv jv _ => (intOf iv).toNat + (intOf jv).toNat)
  case atStart => exact ⟨I0, J0, d, rfl, rfl, by omega, by omega, by omega, by omega, (fun x => by rw [show m - I0 = a by omega, show m + J0 = b by omega]), (fun p q _ _ _ => permIn_refl d p q), H.out⟩
  case round =>
    obtain ⟨i, j, dk, rfl, rfl, hi, hj, hia, hjb, hf, hp, hr⟩ := hrel
    have HM := Lib.hid (And.intro hf (And.intro hp hr))
    have hbs : base ≤ wr.heap.size := Nat.le_trans hb hr.2.2.size
    clear hf hp hr hI0 hJ0 hw1 hw2
    obtain ⟨MI, hMI⟩ : ∃ MI : Nat, MI = m - i := ⟨_, rfl⟩
    have hMIz : (m : Int) - (i : Int) = MI := by omega
    have hMIw : IntKind.i64.wrap (MI : Int) = MI := by rw [IntKind.wrap_i64]; omega
    have HRow : Hid (RowIs base wr wr g n c dk) := ⟨HM.out.2.2.1, HM.out.2.2.2.1, Below.refl _ _⟩
    rcases Nat.lt_trichotomy i j with hlt | heq | hgt
    · obtain ⟨MJ, hMJ⟩ : ∃ MJ : Nat, MJ = m + j - i := ⟨_, rfl⟩
      have hMJ1 : (m : Int) + (j : Int) = ((m + j : Nat) : Int) := by omega
      have hMJz : (m : Int) + (j : Int) - (i : Int) = MJ := by omega
      have hMJw : IntKind.i64.wrap (MJ : Int) = MJ := by rw [IntKind.wrap_i64]; omega
      have hMJw2 : IntKind.i64.wrap ((m : Int) + (j : Int)) = (m : Int) + (j : Int) := by rw [IntKind.wrap_i64]; omega
      obtain ⟨J2, hJ2⟩ : ∃ J2 : Nat, J2 = j - i := ⟨_, rfl⟩
      have hJ2z : (j : Int) - (i : Int) = J2 := by omega
      have hJ2w : IntKind.i64.wrap (J2 : Int) = J2 := by rw [IntKind.wrap_i64]; omega
      have hij : ((i : Int) != (j : Int)) = true := by simp; omega
      have hgt : ¬ (j : Int) < (i : Int) := by omega
      have HC := Lib.hid (swapR_any base wr g n c dk MI MJ i fv HRow.out hbs hn (by omega) (by omega))
      have HX := Lib.hid (And.intro hMI (And.intro hMJ hJ2))
      clear hMJ1 hMI hMJ hJ2
      go_wp2_with fail
      refine HC.out.mono ?_
      rintro e w3 ⟨rfl, d3, hs3, hp3, hr3⟩
      have hfin := Lib.hid (And.intro (show ∀ x, rotF (at' d3) (m - i) m (m + J2) x = rotF (at' d) a m b x from fun x => by
        rw [rot_fun hs3, ← HM.out.1 x, HX.out.1, HX.out.2.1, HX.out.2.2]
        exact rot_less (at' dk) m i j x (by omega) hlt) (And.intro (show ∀ p q, p ≤ a → b ≤ q → q ≤ n → PermIn p q d d3 from fun p q h1 h2 h3 => permIn_trans _ _ _ p q (HM.out.2.1 p q h1 h2 h3) (hp3 p q (by have := HX.out.1; omega) (by have := HX.out.2.1; omega) h3)) (show RowIs base w w3 g n c d3 from ⟨hr3.1, hr3.2.1, HM.out.2.2.2.2.trans hr3.2.2⟩)))
      clear hs3 hp3 hr3
      go_wp2_with fail
      go_roundw
      case rel => exact ⟨i, J2, d3, rfl, rfl, hi, by have := HX.out.2.2; omega, hia, by have := HX.out.2.2; omega, hfin.out.1, hfin.out.2.1, hfin.out.2.2⟩
      case measure => have := HX.out.2.2; simp [intOf]; omega
    · subst heq
      have HC := Lib.hid (swapR_any base wr g n c dk MI m i fv HRow.out hbs hn (by omega) (by omega))
      have HX := Lib.hid hMI
      clear hMI
      go_wp2_with fail
      refine HC.out.mono ?_
      rintro e w3 ⟨rfl, d3, hs3, hp3, hr3⟩
      have hfin := Lib.hid (And.intro (show ∀ x, at' d3 x = rotF (at' d) a m b x from fun x => by
        rw [hs3, ← HM.out.1 x, HX.out]
        exact rot_same (at' dk) m i x (by omega)) (And.intro (show ∀ p q, p ≤ a → b ≤ q → q ≤ n → PermIn p q d d3 from fun p q h1 h2 h3 => permIn_trans _ _ _ p q (HM.out.2.1 p q h1 h2 h3) (hp3 p q (by have := HX.out; omega) (by omega) h3)) (show RowIs base w w3 g n c d3 from ⟨hr3.1, hr3.2.1, HM.out.2.2.2.2.trans hr3.2.2⟩)))
      clear hs3 hp3 hr3
      go_wp2_with fail
      go_end0
      exact ⟨rfl, d3, hfin.out⟩
    · obtain ⟨I2, hI2⟩ : ∃ I2 : Nat, I2 = i - j := ⟨_, rfl⟩
      have hI2z : (i : Int) - (j : Int) = I2 := by omega
      have hI2w : IntKind.i64.wrap (I2 : Int) = I2 := by rw [IntKind.wrap_i64]; omega
      have hij : ((i : Int) != (j : Int)) = true := by simp; omega
      have hgtz : (j : Int) < (i : Int) := by omega
      have HC := Lib.hid (swapR_any base wr g n c dk MI m j fv HRow.out hbs hn (by omega) (by omega))
      have HX := Lib.hid (And.intro hMI hI2)
      clear hMI hI2
      go_wp2_with fail
      refine HC.out.mono ?_
      rintro e w3 ⟨rfl, d3, hs3, hp3, hr3⟩
      have hfin := Lib.hid (And.intro (show ∀ x, rotF (at' d3) (m - I2) m (m + j) x = rotF (at' d) a m b x from fun x => by
        rw [rot_fun hs3, ← HM.out.1 x, HX.out.1, HX.out.2, show m - (i - j) = m - i + j by omega]
        exact rot_more (at' dk) m i j x (by omega) hgt) (And.intro (show ∀ p q, p ≤ a → b ≤ q → q ≤ n → PermIn p q d d3 from fun p q h1 h2 h3 => permIn_trans _ _ _ p q (HM.out.2.1 p q h1 h2 h3) (hp3 p q (by have := HX.out.1; omega) (by omega) h3)) (show RowIs base w w3 g n c d3 from ⟨hr3.1, hr3.2.1, HM.out.2.2.2.2.trans hr3.2.2⟩)))
      clear hs3 hp3 hr3
      go_wp2_with fail
      go_roundw
      case rel => exact ⟨I2, j, d3, rfl, rfl, by have := HX.out.2; omega, hj, by have := HX.out.2; omega, hjb, hfin.out.1, hfin.out.2.1, hfin.out.2.2⟩
      case measure => have := HX.out.2; simp [intOf]; omega
end Go.Proofs.Yteokepnkgdhkkaa
