/- The walks of package window, and of its reference. -/
import Derived.Test.YtpbahmnlhckgbaaRows
import Derived.WalkKit
import Derived.ProofKit
import Derived.Test.YtpbahmnlhckgbaaMem
import Derived.Deep.QuietTactic
import Derived.BigQuiet
import Derived.Deep.RegionWith
import Derived.WalkLawsBesides
namespace Go.Proofs.Ytpbahmnlhckgbaa
open Go.RowKit
set_option linter.unusedVariables false

def Win (w : World) (g : Nat) (n : Int) : Prop := Blk w g 71 #[.int .i64 n]

theorem within_any (n : Int) (w : World) :
    Calls Try.prog 41 #[.int .i64 n] w fun e w' => e = .returned (.bool (decide (0 ≤ n ∧ n ≤ 2147483647))) ∧ w = w' := by
  by_cases h0 : n < 0
  · rw [show decide (0 ≤ n ∧ n ≤ 2147483647) = false by simp; omega]
    go_enter Try.func41, Try.ntmps41
    go_wp2
    go_ret
    exact ⟨rfl, rfl⟩
  · by_cases h1 : n ≤ 2147483647
    · rw [show decide (0 ≤ n ∧ n ≤ 2147483647) = true by simp; omega]
      go_enter Try.func41, Try.ntmps41
      go_wp2
      go_ret
      exact ⟨rfl, rfl⟩
    · rw [show decide (0 ≤ n ∧ n ≤ 2147483647) = false by simp; omega]
      go_enter Try.func41, Try.ntmps41
      go_wp2
      go_ret
      exact ⟨rfl, rfl⟩

theorem within_yes (n : Int) (w : World) (h0 : 0 ≤ n) (h1 : n ≤ 2147483647) :
    Calls Try.prog 41 #[.int .i64 n] w fun e w' => e = .returned (.bool true) ∧ w = w' := by
  have h := within_any n w
  rw [show decide (0 ≤ n ∧ n ≤ 2147483647) = true by simp; omega] at h
  exact h
theorem within_no (n : Int) (w : World) (h0 : n < 0 ∨ 2147483647 < n) :
    Calls Try.prog 41 #[.int .i64 n] w fun e w' => e = .returned (.bool false) ∧ w = w' := by
  have h := within_any n w
  rw [show decide (0 ≤ n ∧ n ≤ 2147483647) = false by simp; omega] at h
  exact h

theorem new_yes (n : Int) (w : World) (h1 : 0 ≤ n) (h2 : n ≤ 2147483647) :
    Calls Try.prog 20 #[.int .i64 n] w fun e w' => e = .returned (.tuple #[.pointer (some ⟨w.heap.size, 0, none⟩), .int .i64 0]) ∧ Win w' w.heap.size n ∧ Below w.heap.size w w' := by
  go_enter Try.func20, Try.ntmps20
  go_wp2_with fail
  refine (within_yes _ _ h1 h2).mono ?_
  rintro e w1 ⟨rfl, rfl⟩
  go_wp2
  go_ret2
  exact ⟨rfl, Blk.new _ _ _, (Below.refl _ _).alloc (Nat.le_refl _) _⟩

theorem new_no (n : Int) (w : World) (h : n < 0 ∨ 2147483647 < n) :
    Calls Try.prog 20 #[.int .i64 n] w fun e w' => e = .returned (.tuple #[.pointer none, .int .i64 3]) ∧ w = w' := by
  go_enter Try.func20, Try.ntmps20
  go_wp2_with fail
  refine (within_no _ _ h).mono ?_
  rintro e w1 ⟨rfl, rfl⟩
  go_wp2
  go_ret2
  exact ⟨rfl, rfl⟩

theorem size_any (g : Nat) (n : Int) (w : World) (hb : Win w g n) :
    Calls Try.prog 39 #[.pointer (some ⟨g, 0, none⟩)] w fun e w' => e = .returned (.int .i64 n) ∧ w = w' := by
  have c0 := Blk.cell hb 0
  simp at c0
  go_enter Try.func39, Try.ntmps39
  go_wp2
  go_ret
  exact ⟨rfl, rfl⟩
theorem size_nil (w : World) :
    Calls Try.prog 39 #[.pointer none] w fun e w' => e = .returned (.int .i64 0) ∧ w = w' := by
  go_enter Try.func39, Try.ntmps39
  go_wp2
  go_ret
  exact ⟨rfl, rfl⟩

theorem free_any (g : Nat) (n : Int) (w : World) (hb : Win w g n) :
    Calls Try.prog 40 #[.pointer (some ⟨g, 0, none⟩)] w fun e w' => e = .returned (.int .i64 (max n 0)) ∧ w = w' := by
  by_cases h : n < 0
  · rw [Int.max_eq_right (by omega)]
    go_enter Try.func40, Try.ntmps40
    go_wp2_with fail
    refine (size_any g n _ hb).mono ?_
    rintro e w1 ⟨rfl, rfl⟩
    go_wp2
    go_ret
    exact ⟨rfl, rfl⟩
  · rw [Int.max_eq_left (by omega)]
    go_enter Try.func40, Try.ntmps40
    go_wp2_with fail
    refine (size_any g n _ hb).mono ?_
    rintro e w1 ⟨rfl, rfl⟩
    go_wp2
    go_ret
    exact ⟨rfl, rfl⟩
theorem free_nil (w : World) :
    Calls Try.prog 40 #[.pointer none] w fun e w' => e = .returned (.int .i64 0) ∧ w = w' := by
  go_enter Try.func40, Try.ntmps40
  go_wp2_with fail
  refine (size_nil _).mono ?_
  rintro e w1 ⟨rfl, rfl⟩
  go_wp2
  go_ret
  exact ⟨rfl, rfl⟩

theorem fits_any (n : Int) (w : World) (h : -9223372036854775808 ≤ n) (h' : n ≤ 9223372036854775807) :
    Calls Try.prog 55 #[.int .i64 n] w fun e w' => e = .returned (.bool (decide (-2147483647 ≤ n ∧ n ≤ 2147483647))) ∧ w = w' := by
  by_cases h0 : n ≤ 2147483647
  · by_cases h1 : -2147483647 ≤ n
    · rw [show decide (-2147483647 ≤ n ∧ n ≤ 2147483647) = true by simp; omega]
      go_enter Try.func55, Try.ntmps55
      go_wp2
      go_ret
      exact ⟨rfl, rfl⟩
    · rw [show decide (-2147483647 ≤ n ∧ n ≤ 2147483647) = false by simp; omega]
      go_enter Try.func55, Try.ntmps55
      go_wp2
      go_ret
      exact ⟨rfl, rfl⟩
  · rw [show decide (-2147483647 ≤ n ∧ n ≤ 2147483647) = false by simp; omega]
    go_enter Try.func55, Try.ntmps55
    go_wp2
    go_ret
    exact ⟨rfl, rfl⟩

theorem add_yes (g : Nat) (n k : Int) (w : World) (hb : Win w g n) (hn1 : -2147483647 ≤ n) (hn2 : n ≤ 2147483647) (hk1 : -2147483647 ≤ k) (hk2 : k ≤ 2147483647) (h1 : -2147483647 ≤ n + k) (h2 : n + k ≤ 2147483647) :
    Calls Try.prog 47 #[.pointer (some ⟨g, 0, none⟩), .int .i64 k] w fun e w' => e = .returned (.int .i64 0) ∧ Win w' g (n + k) ∧ Only [g] w w' := by
  have c0 := Blk.cell hb 0
  have f0 := Blk.frozen hb 0
  simp at c0
  have hf := fun W => fits_any (n + k) W (by omega) (by omega)
  rw [show decide (-2147483647 ≤ n + k ∧ n + k ≤ 2147483647) = true by simp; omega] at hf
  have HF := Lib.hid hf
  clear hf
  go_enter Try.func47, Try.ntmps47
  go_wp2_with fail
  refine (HF.out _).mono ?_
  rintro e w1 ⟨rfl, rfl⟩
  go_wp2_with fail
  go_ret
  exact ⟨rfl, Blk.set_ hb 0 _, (Only.refl _ _).setCell (.inl (by simp)) _⟩
theorem add_over (g : Nat) (n k : Int) (w : World) (hb : Win w g n) (hn1 : -2147483647 ≤ n) (hn2 : n ≤ 2147483647) (hk1 : -2147483647 ≤ k) (hk2 : k ≤ 2147483647) (h1 : n + k < -2147483647 ∨ 2147483647 < n + k) :
    Calls Try.prog 47 #[.pointer (some ⟨g, 0, none⟩), .int .i64 k] w fun e w' => e = .returned (.int .i64 10) ∧ w = w' := by
  have c0 := Blk.cell hb 0
  simp at c0
  have hf := fun W => fits_any (n + k) W (by omega) (by omega)
  rw [show decide (-2147483647 ≤ n + k ∧ n + k ≤ 2147483647) = false by simp; omega] at hf
  have HF := Lib.hid hf
  clear hf h1
  go_enter Try.func47, Try.ntmps47
  go_wp2_with fail
  refine (HF.out _).mono ?_
  rintro e w1 ⟨rfl, rfl⟩
  go_wp2_with fail
  go_ret
  exact ⟨rfl, rfl⟩

theorem grow_yes (g : Nat) (n k : Int) (w : World) (hb : Win w g n) (hn1 : -2147483647 ≤ n) (hn2 : n ≤ 2147483647) (hk1 : 1 ≤ k) (hk2 : k ≤ 2147483647) (h2 : n + k ≤ 2147483647) :
    Calls Try.prog 25 #[.pointer (some ⟨g, 0, none⟩), .int .i64 k] w fun e w' => e = .returned (.int .i64 0) ∧ Win w' g (n + k) ∧ Only [g] w w' := by
  go_enter Try.func25, Try.ntmps25
  go_wp2_with fail
  refine (within_yes _ _ (by omega) hk2).mono ?_
  rintro e w1 ⟨rfl, rfl⟩
  go_wp2_with fail
  refine (add_yes g n k _ hb hn1 hn2 (by omega) hk2 (by omega) h2).mono ?_
  rintro e w1 ⟨rfl, d, o⟩
  go_wp2_with fail
  go_ret
  exact ⟨rfl, d, o⟩
theorem grow_over (g : Nat) (n k : Int) (w : World) (hb : Win w g n) (hn1 : -2147483647 ≤ n) (hn2 : n ≤ 2147483647) (hk1 : 1 ≤ k) (hk2 : k ≤ 2147483647) (h2 : 2147483647 < n + k) :
    Calls Try.prog 25 #[.pointer (some ⟨g, 0, none⟩), .int .i64 k] w fun e w' => e = .returned (.int .i64 10) ∧ w = w' := by
  go_enter Try.func25, Try.ntmps25
  go_wp2_with fail
  refine (within_yes _ _ (by omega) hk2).mono ?_
  rintro e w1 ⟨rfl, rfl⟩
  go_wp2_with fail
  refine (add_over g n k _ hb hn1 hn2 (by omega) hk2 (.inr h2)).mono ?_
  rintro e w1 ⟨rfl, rfl⟩
  go_wp2_with fail
  go_ret
  exact ⟨rfl, rfl⟩
theorem grow_arg (g : Nat) (k : Int) (w : World) (h : k < 1 ∨ 2147483647 < k) :
    Calls Try.prog 25 #[.pointer (some ⟨g, 0, none⟩), .int .i64 k] w fun e w' => e = .returned (.int .i64 2) ∧ w = w' := by
  by_cases h1 : k < 1
  · clear h
    go_enter Try.func25, Try.ntmps25
    go_wp2_with fail
    go_ret
    exact ⟨rfl, rfl⟩
  · have h2 : 2147483647 < k := by omega
    clear h
    go_enter Try.func25, Try.ntmps25
    go_wp2_with fail
    refine (within_no _ _ (.inr h2)).mono ?_
    rintro e w1 ⟨rfl, rfl⟩
    go_wp2_with fail
    go_ret
    exact ⟨rfl, rfl⟩
theorem grow_nil (k : Int) (w : World) :
    Calls Try.prog 25 #[.pointer none, .int .i64 k] w fun e w' => e = .returned (.int .i64 1) ∧ w = w' := by
  go_enter Try.func25, Try.ntmps25
  go_wp2_with fail
  go_ret
  exact ⟨rfl, rfl⟩

theorem spend_yes (g : Nat) (n k : Int) (w : World) (hb : Win w g n) (hn1 : -2147483647 ≤ n) (hn2 : n ≤ 2147483647) (h0 : 0 ≤ k) (h1 : k ≤ max n 0) :
    Calls Try.prog 30 #[.pointer (some ⟨g, 0, none⟩), .int .i64 k] w fun e w' => e = .returned (.int .i64 0) ∧ Win w' g (n - k) ∧ Only [g] w w' := by
  have c0 := Blk.cell hb 0
  have f0 := Blk.frozen hb 0
  simp at c0
  have hf := fun W (hW : Win W g n) => free_any g n W hW
  have hx : k ≤ 2147483647 := by omega
  generalize max n 0 = m at *
  have HF := Lib.hid hf
  clear hf
  go_enter Try.func30, Try.ntmps30
  go_wp2_with fail
  refine (HF.out _ hb).mono ?_
  rintro e w1 ⟨rfl, rfl⟩
  go_wp2_with fail
  go_ret
  exact ⟨rfl, Blk.set_ hb 0 _, (Only.refl _ _).setCell (.inl (by simp)) _⟩
theorem spend_arg (g : Nat) (k : Int) (w : World) (h0 : k < 0) :
    Calls Try.prog 30 #[.pointer (some ⟨g, 0, none⟩), .int .i64 k] w fun e w' => e = .returned (.int .i64 2) ∧ w = w' := by
  go_enter Try.func30, Try.ntmps30
  go_wp2_with fail
  go_ret
  exact ⟨rfl, rfl⟩
theorem spend_full (g : Nat) (n k : Int) (w : World) (hb : Win w g n) (h0 : 0 ≤ k) (h1 : max n 0 < k) :
    Calls Try.prog 30 #[.pointer (some ⟨g, 0, none⟩), .int .i64 k] w fun e w' => e = .returned (.int .i64 9) ∧ w = w' := by
  have hf := fun W (hW : Win W g n) => free_any g n W hW
  generalize max n 0 = m at *
  have HF := Lib.hid hf
  clear hf
  go_enter Try.func30, Try.ntmps30
  go_wp2_with fail
  refine (HF.out _ hb).mono ?_
  rintro e w1 ⟨rfl, rfl⟩
  go_wp2_with fail
  go_ret
  exact ⟨rfl, rfl⟩
theorem spend_nil (k : Int) (w : World) :
    Calls Try.prog 30 #[.pointer none, .int .i64 k] w fun e w' => e = .returned (.int .i64 1) ∧ w = w' := by
  go_enter Try.func30, Try.ntmps30
  go_wp2_with fail
  go_ret
  exact ⟨rfl, rfl⟩

theorem resize_yes (g : Nat) (n a b : Int) (w : World) (hb : Win w g n) (hn1 : -2147483647 ≤ n) (hn2 : n ≤ 2147483647) (a1 : 0 ≤ a) (a2 : a ≤ 2147483647) (b1 : 0 ≤ b) (b2 : b ≤ 2147483647) (h1 : -2147483647 ≤ n + (b - a)) (h2 : n + (b - a) ≤ 2147483647) :
    Calls Try.prog 27 #[.pointer (some ⟨g, 0, none⟩), .int .i64 a, .int .i64 b] w fun e w' => e = .returned (.int .i64 0) ∧ Win w' g (n + (b - a)) ∧ Only [g] w w' := by
  go_enter Try.func27, Try.ntmps27
  go_wp2_with fail
  refine (within_yes _ _ a1 a2).mono ?_
  rintro e w1 ⟨rfl, rfl⟩
  go_wp2_with fail
  refine (within_yes _ _ b1 b2).mono ?_
  rintro e w1 ⟨rfl, rfl⟩
  go_wp2_with fail
  refine (add_yes g n (b - a) _ hb hn1 hn2 (by omega) (by omega) h1 h2).mono ?_
  rintro e w1 ⟨rfl, d, o⟩
  go_wp2_with fail
  go_ret
  exact ⟨rfl, d, o⟩
theorem resize_over (g : Nat) (n a b : Int) (w : World) (hb : Win w g n) (hn1 : -2147483647 ≤ n) (hn2 : n ≤ 2147483647) (a1 : 0 ≤ a) (a2 : a ≤ 2147483647) (b1 : 0 ≤ b) (b2 : b ≤ 2147483647) (h1 : n + (b - a) < -2147483647 ∨ 2147483647 < n + (b - a)) :
    Calls Try.prog 27 #[.pointer (some ⟨g, 0, none⟩), .int .i64 a, .int .i64 b] w fun e w' => e = .returned (.int .i64 10) ∧ w = w' := by
  have hA := fun W (hW : Win W g n) => add_over g n (b - a) W hW hn1 hn2 (by omega) (by omega) h1
  have HA := Lib.hid hA
  clear hA h1
  go_enter Try.func27, Try.ntmps27
  go_wp2_with fail
  refine (within_yes _ _ a1 a2).mono ?_
  rintro e w1 ⟨rfl, rfl⟩
  go_wp2_with fail
  refine (within_yes _ _ b1 b2).mono ?_
  rintro e w1 ⟨rfl, rfl⟩
  go_wp2_with fail
  refine (HA.out _ hb).mono ?_
  rintro e w1 ⟨rfl, rfl⟩
  go_wp2_with fail
  go_ret
  exact ⟨rfl, rfl⟩
theorem resize_arg (g : Nat) (a b : Int) (w : World) (h : a < 0 ∨ 2147483647 < a ∨ b < 0 ∨ 2147483647 < b) :
    Calls Try.prog 27 #[.pointer (some ⟨g, 0, none⟩), .int .i64 a, .int .i64 b] w fun e w' => e = .returned (.int .i64 2) ∧ w = w' := by
  by_cases ha : a < 0 ∨ 2147483647 < a
  · have hA := fun W => within_no a W ha
    have HA := Lib.hid hA
    clear hA h ha
    go_enter Try.func27, Try.ntmps27
    go_wp2_with fail
    refine (HA.out _).mono ?_
    rintro e w1 ⟨rfl, rfl⟩
    go_wp2_with fail
    go_ret
    exact ⟨rfl, rfl⟩
  · have hA := fun W => within_no b W (by omega)
    have HA := Lib.hid hA
    have hB := fun W => within_yes a W (by omega) (by omega)
    have HB := Lib.hid hB
    clear hA hB h ha
    go_enter Try.func27, Try.ntmps27
    go_wp2_with fail
    refine (HB.out _).mono ?_
    rintro e w1 ⟨rfl, rfl⟩
    go_wp2_with fail
    refine (HA.out _).mono ?_
    rintro e w1 ⟨rfl, rfl⟩
    go_wp2_with fail
    go_ret
    exact ⟨rfl, rfl⟩
theorem resize_nil (a b : Int) (w : World) :
    Calls Try.prog 27 #[.pointer none, .int .i64 a, .int .i64 b] w fun e w' => e = .returned (.int .i64 1) ∧ w = w' := by
  go_enter Try.func27, Try.ntmps27
  go_wp2_with fail
  go_ret
  exact ⟨rfl, rfl⟩
theorem copy_any (g : Nat) (n : Int) (w : World) (hb : Win w g n) :
    Calls Try.prog 29 #[.pointer (some ⟨g, 0, none⟩)] w fun e w' => e = .returned (.pointer (some ⟨w.heap.size, 0, none⟩)) ∧ Win w' w.heap.size n ∧ Below w.heap.size w w' := by
  have c0 := Blk.cell hb 0
  simp at c0
  go_enter Try.func29, Try.ntmps29
  go_wp2
  go_ret
  exact ⟨rfl, Blk.new _ _ _, (Below.refl _ _).alloc (Nat.le_refl _) _⟩
theorem copy_nil (w : World) :
    Calls Try.prog 29 #[.pointer none] w fun e w' => e = .returned (.pointer none) ∧ w = w' := by
  go_enter Try.func29, Try.ntmps29
  go_wp2
  go_ret
  exact ⟨rfl, rfl⟩

/-! The reference. -/
theorem rgrow_arg (n k : Int) (w : World) (h : k < 1 ∨ 2147483647 < k) :
    Calls Try.prog 48 #[.int .i64 n, .int .i64 k] w fun e w' => e = .returned (.tuple #[.int .i64 n, .int .i64 2]) ∧ w = w' := by
  by_cases h1 : k < 1
  · clear h
    go_enter Try.func48, Try.ntmps48
    go_wp2
    go_ret2
    exact ⟨rfl, rfl⟩
  · have h2 : 2147483647 < k := by omega
    clear h
    go_enter Try.func48, Try.ntmps48
    go_wp2
    go_ret2
    exact ⟨rfl, rfl⟩
theorem rgrow_over (n k : Int) (w : World) (hn1 : -2147483647 ≤ n) (hn2 : n ≤ 2147483647) (hk1 : 1 ≤ k) (hk2 : k ≤ 2147483647) (h : 2147483647 < n + k) :
    Calls Try.prog 48 #[.int .i64 n, .int .i64 k] w fun e w' => e = .returned (.tuple #[.int .i64 n, .int .i64 10]) ∧ w = w' := by
  go_enter Try.func48, Try.ntmps48
  go_wp2
  go_ret2
  exact ⟨rfl, rfl⟩
theorem rgrow_yes (n k : Int) (w : World) (hn1 : -2147483647 ≤ n) (hn2 : n ≤ 2147483647) (hk1 : 1 ≤ k) (hk2 : k ≤ 2147483647) (h : n + k ≤ 2147483647) :
    Calls Try.prog 48 #[.int .i64 n, .int .i64 k] w fun e w' => e = .returned (.tuple #[.int .i64 (n + k), .int .i64 0]) ∧ w = w' := by
  go_enter Try.func48, Try.ntmps48
  go_wp2
  go_ret2
  exact ⟨rfl, rfl⟩
theorem rresize_arg (n a b : Int) (w : World) (h : a < 0 ∨ 2147483647 < a ∨ b < 0 ∨ 2147483647 < b) :
    Calls Try.prog 50 #[.int .i64 n, .int .i64 a, .int .i64 b] w fun e w' => e = .returned (.tuple #[.int .i64 n, .int .i64 2]) ∧ w = w' := by
  by_cases h1 : a < 0
  · clear h
    go_enter Try.func50, Try.ntmps50
    go_wp2
    go_ret2
    exact ⟨rfl, rfl⟩
  · by_cases h2 : b < 0
    · clear h
      go_enter Try.func50, Try.ntmps50
      go_wp2
      go_ret2
      exact ⟨rfl, rfl⟩
    · by_cases h3 : 2147483647 < a
      · clear h
        go_enter Try.func50, Try.ntmps50
        go_wp2
        go_ret2
        exact ⟨rfl, rfl⟩
      · have h4 : 2147483647 < b := by omega
        clear h
        go_enter Try.func50, Try.ntmps50
        go_wp2
        go_ret2
        exact ⟨rfl, rfl⟩
theorem rresize_over (n a b : Int) (w : World) (hn1 : -2147483647 ≤ n) (hn2 : n ≤ 2147483647) (a1 : 0 ≤ a) (a2 : a ≤ 2147483647) (b1 : 0 ≤ b) (b2 : b ≤ 2147483647) (h1 : n + (b - a) < -2147483647 ∨ 2147483647 < n + (b - a)) :
    Calls Try.prog 50 #[.int .i64 n, .int .i64 a, .int .i64 b] w fun e w' => e = .returned (.tuple #[.int .i64 n, .int .i64 10]) ∧ w = w' := by
  by_cases h2 : 2147483647 < n + b - a
  · clear h1
    go_enter Try.func50, Try.ntmps50
    go_wp2
    go_ret2
    exact ⟨rfl, rfl⟩
  · have h3 : n + b - a < -2147483647 := by omega
    clear h1
    go_enter Try.func50, Try.ntmps50
    go_wp2
    go_ret2
    exact ⟨rfl, rfl⟩
theorem rresize_yes (n a b : Int) (w : World) (hn1 : -2147483647 ≤ n) (hn2 : n ≤ 2147483647) (a1 : 0 ≤ a) (a2 : a ≤ 2147483647) (b1 : 0 ≤ b) (b2 : b ≤ 2147483647) (h1 : -2147483647 ≤ n + (b - a)) (h2 : n + (b - a) ≤ 2147483647) :
    Calls Try.prog 50 #[.int .i64 n, .int .i64 a, .int .i64 b] w fun e w' => e = .returned (.tuple #[.int .i64 (n + (b - a)), .int .i64 0]) ∧ w = w' := by
  go_enter Try.func50, Try.ntmps50
  go_wp2
  go_ret2
  exact ⟨ret2_int (by omega) rfl, rfl⟩

/-! The law's own. -/
end Go.Proofs.Ytpbahmnlhckgbaa
