/- The walks of package window, and of its reference. -/
import Derived.Test.YtnfkaflpakedmaaRows
import Derived.WalkKit
import Derived.ProofKit
import Derived.Test.YtnfkaflpakedmaaMem
import Derived.Deep.QuietTactic
import Derived.BigQuiet
import Derived.Deep.RegionWith
import Derived.WalkLawsBesides
namespace Go.Proofs.Ytnfkaflpakedmaa
open Go.RowKit
set_option linter.unusedVariables false

def Win (w : World) (g : Nat) (n : Int) : Prop := Blk w g 42 #[.int .i64 n]

theorem within_any (n : Int) (w : World) :
    Calls Try.prog 15 #[.int .i64 n] w fun e w' => e = .returned (.bool (decide (0 ≤ n ∧ n ≤ 2147483647))) ∧ w = w' := by
  by_cases h0 : n < 0
  · rw [show decide (0 ≤ n ∧ n ≤ 2147483647) = false by simp; omega]
    go_enter Try.func15, Try.ntmps15
    go_wp2
    go_ret
    exact ⟨rfl, rfl⟩
  · by_cases h1 : n ≤ 2147483647
    · rw [show decide (0 ≤ n ∧ n ≤ 2147483647) = true by simp; omega]
      go_enter Try.func15, Try.ntmps15
      go_wp2
      go_ret
      exact ⟨rfl, rfl⟩
    · rw [show decide (0 ≤ n ∧ n ≤ 2147483647) = false by simp; omega]
      go_enter Try.func15, Try.ntmps15
      go_wp2
      go_ret
      exact ⟨rfl, rfl⟩

theorem within_yes (n : Int) (w : World) (h0 : 0 ≤ n) (h1 : n ≤ 2147483647) :
    Calls Try.prog 15 #[.int .i64 n] w fun e w' => e = .returned (.bool true) ∧ w = w' := by
  have h := within_any n w
  rw [show decide (0 ≤ n ∧ n ≤ 2147483647) = true by simp; omega] at h
  exact h
theorem within_no (n : Int) (w : World) (h0 : n < 0 ∨ 2147483647 < n) :
    Calls Try.prog 15 #[.int .i64 n] w fun e w' => e = .returned (.bool false) ∧ w = w' := by
  have h := within_any n w
  rw [show decide (0 ≤ n ∧ n ≤ 2147483647) = false by simp; omega] at h
  exact h

theorem new_yes (n : Int) (w : World) (h1 : 0 ≤ n) (h2 : n ≤ 2147483647) :
    Calls Try.prog 6 #[.int .i64 n] w fun e w' => e = .returned (.tuple #[.pointer (some ⟨w.heap.size, 0, none⟩), .int .i64 0]) ∧ Win w' w.heap.size n ∧ Below w.heap.size w w' := by
  go_enter Try.func6, Try.ntmps6
  go_wp2_with fail
  refine (within_yes _ _ h1 h2).mono ?_
  rintro e w1 ⟨rfl, rfl⟩
  go_wp2
  go_ret2
  exact ⟨rfl, Blk.new _ _ _, (Below.refl _ _).alloc (Nat.le_refl _) _⟩

theorem new_no (n : Int) (w : World) (h : n < 0 ∨ 2147483647 < n) :
    Calls Try.prog 6 #[.int .i64 n] w fun e w' => e = .returned (.tuple #[.pointer none, .int .i64 3]) ∧ w = w' := by
  go_enter Try.func6, Try.ntmps6
  go_wp2_with fail
  refine (within_no _ _ h).mono ?_
  rintro e w1 ⟨rfl, rfl⟩
  go_wp2
  go_ret2
  exact ⟨rfl, rfl⟩

theorem size_any (g : Nat) (n : Int) (w : World) (hb : Win w g n) :
    Calls Try.prog 9 #[.pointer (some ⟨g, 0, none⟩)] w fun e w' => e = .returned (.int .i64 n) ∧ w = w' := by
  have c0 := Blk.cell hb 0
  simp at c0
  go_enter Try.func9, Try.ntmps9
  go_wp2
  go_ret
  exact ⟨rfl, rfl⟩
theorem size_nil (w : World) :
    Calls Try.prog 9 #[.pointer none] w fun e w' => e = .returned (.int .i64 0) ∧ w = w' := by
  go_enter Try.func9, Try.ntmps9
  go_wp2
  go_ret
  exact ⟨rfl, rfl⟩

theorem free_any (g : Nat) (n : Int) (w : World) (hb : Win w g n) :
    Calls Try.prog 10 #[.pointer (some ⟨g, 0, none⟩)] w fun e w' => e = .returned (.int .i64 (max n 0)) ∧ w = w' := by
  by_cases h : n < 0
  · rw [Int.max_eq_right (by omega)]
    go_enter Try.func10, Try.ntmps10
    go_wp2_with fail
    refine (size_any g n _ hb).mono ?_
    rintro e w1 ⟨rfl, rfl⟩
    go_wp2
    go_ret
    exact ⟨rfl, rfl⟩
  · rw [Int.max_eq_left (by omega)]
    go_enter Try.func10, Try.ntmps10
    go_wp2_with fail
    refine (size_any g n _ hb).mono ?_
    rintro e w1 ⟨rfl, rfl⟩
    go_wp2
    go_ret
    exact ⟨rfl, rfl⟩
theorem free_nil (w : World) :
    Calls Try.prog 10 #[.pointer none] w fun e w' => e = .returned (.int .i64 0) ∧ w = w' := by
  go_enter Try.func10, Try.ntmps10
  go_wp2_with fail
  refine (size_nil _).mono ?_
  rintro e w1 ⟨rfl, rfl⟩
  go_wp2
  go_ret
  exact ⟨rfl, rfl⟩

theorem fits_any (n : Int) (w : World) (h : -9223372036854775808 ≤ n) (h' : n ≤ 9223372036854775807) :
    Calls Try.prog 20 #[.int .i64 n] w fun e w' => e = .returned (.bool (decide (-2147483647 ≤ n ∧ n ≤ 2147483647))) ∧ w = w' := by
  by_cases h0 : n ≤ 2147483647
  · by_cases h1 : -2147483647 ≤ n
    · rw [show decide (-2147483647 ≤ n ∧ n ≤ 2147483647) = true by simp; omega]
      go_enter Try.func20, Try.ntmps20
      go_wp2
      go_ret
      exact ⟨rfl, rfl⟩
    · rw [show decide (-2147483647 ≤ n ∧ n ≤ 2147483647) = false by simp; omega]
      go_enter Try.func20, Try.ntmps20
      go_wp2
      go_ret
      exact ⟨rfl, rfl⟩
  · rw [show decide (-2147483647 ≤ n ∧ n ≤ 2147483647) = false by simp; omega]
    go_enter Try.func20, Try.ntmps20
    go_wp2
    go_ret
    exact ⟨rfl, rfl⟩

theorem add_yes (g : Nat) (n k : Int) (w : World) (hb : Win w g n) (hn1 : -2147483647 ≤ n) (hn2 : n ≤ 2147483647) (hk1 : -2147483647 ≤ k) (hk2 : k ≤ 2147483647) (h1 : -2147483647 ≤ n + k) (h2 : n + k ≤ 2147483647) :
    Calls Try.prog 19 #[.pointer (some ⟨g, 0, none⟩), .int .i64 k] w fun e w' => e = .returned (.int .i64 0) ∧ Win w' g (n + k) ∧ Only [g] w w' := by
  have c0 := Blk.cell hb 0
  have f0 := Blk.frozen hb 0
  simp at c0
  have hf := fun W => fits_any (n + k) W (by omega) (by omega)
  rw [show decide (-2147483647 ≤ n + k ∧ n + k ≤ 2147483647) = true by simp; omega] at hf
  have HF := Lib.hid hf
  clear hf
  go_enter Try.func19, Try.ntmps19
  go_wp2_with fail
  refine (HF.out _).mono ?_
  rintro e w1 ⟨rfl, rfl⟩
  go_wp2_with fail
  go_ret
  exact ⟨rfl, Blk.set_ hb 0 _, (Only.refl _ _).setCell (.inl (by simp)) _⟩
theorem add_over (g : Nat) (n k : Int) (w : World) (hb : Win w g n) (hn1 : -2147483647 ≤ n) (hn2 : n ≤ 2147483647) (hk1 : -2147483647 ≤ k) (hk2 : k ≤ 2147483647) (h1 : n + k < -2147483647 ∨ 2147483647 < n + k) :
    Calls Try.prog 19 #[.pointer (some ⟨g, 0, none⟩), .int .i64 k] w fun e w' => e = .returned (.int .i64 10) ∧ w = w' := by
  have c0 := Blk.cell hb 0
  simp at c0
  have hf := fun W => fits_any (n + k) W (by omega) (by omega)
  rw [show decide (-2147483647 ≤ n + k ∧ n + k ≤ 2147483647) = false by simp; omega] at hf
  have HF := Lib.hid hf
  clear hf h1
  go_enter Try.func19, Try.ntmps19
  go_wp2_with fail
  refine (HF.out _).mono ?_
  rintro e w1 ⟨rfl, rfl⟩
  go_wp2_with fail
  go_ret
  exact ⟨rfl, rfl⟩

theorem grow_yes (g : Nat) (n k : Int) (w : World) (hb : Win w g n) (hn1 : -2147483647 ≤ n) (hn2 : n ≤ 2147483647) (hk1 : 1 ≤ k) (hk2 : k ≤ 2147483647) (h2 : n + k ≤ 2147483647) :
    Calls Try.prog 11 #[.pointer (some ⟨g, 0, none⟩), .int .i64 k] w fun e w' => e = .returned (.int .i64 0) ∧ Win w' g (n + k) ∧ Only [g] w w' := by
  go_enter Try.func11, Try.ntmps11
  go_wp2_with fail
  refine (within_yes _ _ (by omega) hk2).mono ?_
  rintro e w1 ⟨rfl, rfl⟩
  go_wp2_with fail
  refine (add_yes g n k _ hb hn1 hn2 (by omega) hk2 (by omega) h2).mono ?_
  rintro e w1 ⟨rfl, d, o⟩
  go_wp2_with fail
  go_ret
  exact ⟨rfl, d, o⟩
theorem grow_over (g : Nat) (n k : Int) (w : World) (hb : Win w g n) (hn1 : -2147483647 ≤ n) (hn2 : n ≤ 2147483647) (hk1 : 1 ≤ k) (hk2 : k ≤ 2147483647) (h2 : 2147483647 < n + k) :
    Calls Try.prog 11 #[.pointer (some ⟨g, 0, none⟩), .int .i64 k] w fun e w' => e = .returned (.int .i64 10) ∧ w = w' := by
  go_enter Try.func11, Try.ntmps11
  go_wp2_with fail
  refine (within_yes _ _ (by omega) hk2).mono ?_
  rintro e w1 ⟨rfl, rfl⟩
  go_wp2_with fail
  refine (add_over g n k _ hb hn1 hn2 (by omega) hk2 (.inr h2)).mono ?_
  rintro e w1 ⟨rfl, rfl⟩
  go_wp2_with fail
  go_ret
  exact ⟨rfl, rfl⟩
theorem grow_arg (g : Nat) (k : Int) (w : World) (h : k < 1 ∨ 2147483647 < k) :
    Calls Try.prog 11 #[.pointer (some ⟨g, 0, none⟩), .int .i64 k] w fun e w' => e = .returned (.int .i64 2) ∧ w = w' := by
  by_cases h1 : k < 1
  · clear h
    go_enter Try.func11, Try.ntmps11
    go_wp2_with fail
    go_ret
    exact ⟨rfl, rfl⟩
  · have h2 : 2147483647 < k := by omega
    clear h
    go_enter Try.func11, Try.ntmps11
    go_wp2_with fail
    refine (within_no _ _ (.inr h2)).mono ?_
    rintro e w1 ⟨rfl, rfl⟩
    go_wp2_with fail
    go_ret
    exact ⟨rfl, rfl⟩
theorem grow_nil (k : Int) (w : World) :
    Calls Try.prog 11 #[.pointer none, .int .i64 k] w fun e w' => e = .returned (.int .i64 1) ∧ w = w' := by
  go_enter Try.func11, Try.ntmps11
  go_wp2_with fail
  go_ret
  exact ⟨rfl, rfl⟩

theorem spend_yes (g : Nat) (n k : Int) (w : World) (hb : Win w g n) (hn1 : -2147483647 ≤ n) (hn2 : n ≤ 2147483647) (h0 : 0 ≤ k) (h1 : k ≤ max n 0) :
    Calls Try.prog 13 #[.pointer (some ⟨g, 0, none⟩), .int .i64 k] w fun e w' => e = .returned (.int .i64 0) ∧ Win w' g (n - k) ∧ Only [g] w w' := by
  have c0 := Blk.cell hb 0
  have f0 := Blk.frozen hb 0
  simp at c0
  have hf := fun W (hW : Win W g n) => free_any g n W hW
  have hx : k ≤ 2147483647 := by omega
  generalize max n 0 = m at *
  have HF := Lib.hid hf
  clear hf
  go_enter Try.func13, Try.ntmps13
  go_wp2_with fail
  refine (HF.out _ hb).mono ?_
  rintro e w1 ⟨rfl, rfl⟩
  go_wp2_with fail
  go_ret
  exact ⟨rfl, Blk.set_ hb 0 _, (Only.refl _ _).setCell (.inl (by simp)) _⟩
theorem spend_arg (g : Nat) (k : Int) (w : World) (h0 : k < 0) :
    Calls Try.prog 13 #[.pointer (some ⟨g, 0, none⟩), .int .i64 k] w fun e w' => e = .returned (.int .i64 2) ∧ w = w' := by
  go_enter Try.func13, Try.ntmps13
  go_wp2_with fail
  go_ret
  exact ⟨rfl, rfl⟩
theorem spend_full (g : Nat) (n k : Int) (w : World) (hb : Win w g n) (h0 : 0 ≤ k) (h1 : max n 0 < k) :
    Calls Try.prog 13 #[.pointer (some ⟨g, 0, none⟩), .int .i64 k] w fun e w' => e = .returned (.int .i64 9) ∧ w = w' := by
  have hf := fun W (hW : Win W g n) => free_any g n W hW
  generalize max n 0 = m at *
  have HF := Lib.hid hf
  clear hf
  go_enter Try.func13, Try.ntmps13
  go_wp2_with fail
  refine (HF.out _ hb).mono ?_
  rintro e w1 ⟨rfl, rfl⟩
  go_wp2_with fail
  go_ret
  exact ⟨rfl, rfl⟩
theorem spend_nil (k : Int) (w : World) :
    Calls Try.prog 13 #[.pointer none, .int .i64 k] w fun e w' => e = .returned (.int .i64 1) ∧ w = w' := by
  go_enter Try.func13, Try.ntmps13
  go_wp2_with fail
  go_ret
  exact ⟨rfl, rfl⟩

theorem resize_yes (g : Nat) (n a b : Int) (w : World) (hb : Win w g n) (hn1 : -2147483647 ≤ n) (hn2 : n ≤ 2147483647) (a1 : 0 ≤ a) (a2 : a ≤ 2147483647) (b1 : 0 ≤ b) (b2 : b ≤ 2147483647) (h1 : -2147483647 ≤ n + (b - a)) (h2 : n + (b - a) ≤ 2147483647) :
    Calls Try.prog 12 #[.pointer (some ⟨g, 0, none⟩), .int .i64 a, .int .i64 b] w fun e w' => e = .returned (.int .i64 0) ∧ Win w' g (n + (b - a)) ∧ Only [g] w w' := by
  go_enter Try.func12, Try.ntmps12
  go_wp2_with fail
  refine (within_yes _ _ a1 a2).mono ?_
  rintro e w1 ⟨rfl, rfl⟩
  go_wp2_with fail
  refine (within_yes _ _ b1 b2).mono ?_
  rintro e w1 ⟨rfl, rfl⟩
  go_wp2_with fail
  refine (add_yes g n (b - a) _ hb hn1 hn2 (by omega) (by omega) h1 h2).mono ?_
  rintro e w1 ⟨rfl, d, o⟩
  go_wp2_with fail
  go_ret
  exact ⟨rfl, d, o⟩
theorem resize_over (g : Nat) (n a b : Int) (w : World) (hb : Win w g n) (hn1 : -2147483647 ≤ n) (hn2 : n ≤ 2147483647) (a1 : 0 ≤ a) (a2 : a ≤ 2147483647) (b1 : 0 ≤ b) (b2 : b ≤ 2147483647) (h1 : n + (b - a) < -2147483647 ∨ 2147483647 < n + (b - a)) :
    Calls Try.prog 12 #[.pointer (some ⟨g, 0, none⟩), .int .i64 a, .int .i64 b] w fun e w' => e = .returned (.int .i64 10) ∧ w = w' := by
  have hA := fun W (hW : Win W g n) => add_over g n (b - a) W hW hn1 hn2 (by omega) (by omega) h1
  have HA := Lib.hid hA
  clear hA h1
  go_enter Try.func12, Try.ntmps12
  go_wp2_with fail
  refine (within_yes _ _ a1 a2).mono ?_
  rintro e w1 ⟨rfl, rfl⟩
  go_wp2_with fail
  refine (within_yes _ _ b1 b2).mono ?_
  rintro e w1 ⟨rfl, rfl⟩
  go_wp2_with fail
  refine (HA.out _ hb).mono ?_
  rintro e w1 ⟨rfl, rfl⟩
  go_wp2_with fail
  go_ret
  exact ⟨rfl, rfl⟩
theorem resize_arg (g : Nat) (a b : Int) (w : World) (h : a < 0 ∨ 2147483647 < a ∨ b < 0 ∨ 2147483647 < b) :
    Calls Try.prog 12 #[.pointer (some ⟨g, 0, none⟩), .int .i64 a, .int .i64 b] w fun e w' => e = .returned (.int .i64 2) ∧ w = w' := by
  by_cases ha : a < 0 ∨ 2147483647 < a
  · have hA := fun W => within_no a W ha
    have HA := Lib.hid hA
    clear hA h ha
    go_enter Try.func12, Try.ntmps12
    go_wp2_with fail
    refine (HA.out _).mono ?_
    rintro e w1 ⟨rfl, rfl⟩
    go_wp2_with fail
    go_ret
    exact ⟨rfl, rfl⟩
  · have hA := fun W => within_no b W (by omega)
    have HA := Lib.hid hA
    have hB := fun W => within_yes a W (by omega) (by omega)
    have HB := Lib.hid hB
    clear hA hB h ha
    go_enter Try.func12, Try.ntmps12
    go_wp2_with fail
    refine (HB.out _).mono ?_
    rintro e w1 ⟨rfl, rfl⟩
    go_wp2_with fail
    refine (HA.out _).mono ?_
    rintro e w1 ⟨rfl, rfl⟩
    go_wp2_with fail
    go_ret
    exact ⟨rfl, rfl⟩
theorem resize_nil (a b : Int) (w : World) :
    Calls Try.prog 12 #[.pointer none, .int .i64 a, .int .i64 b] w fun e w' => e = .returned (.int .i64 1) ∧ w = w' := by
  go_enter Try.func12, Try.ntmps12
  go_wp2_with fail
  go_ret
  exact ⟨rfl, rfl⟩
theorem copy_any (g : Nat) (n : Int) (w : World) (hb : Win w g n) :
    Calls Try.prog 14 #[.pointer (some ⟨g, 0, none⟩)] w fun e w' => e = .returned (.pointer (some ⟨w.heap.size, 0, none⟩)) ∧ Win w' w.heap.size n ∧ Below w.heap.size w w' := by
  have c0 := Blk.cell hb 0
  simp at c0
  go_enter Try.func14, Try.ntmps14
  go_wp2
  go_ret
  exact ⟨rfl, Blk.new _ _ _, (Below.refl _ _).alloc (Nat.le_refl _) _⟩
theorem copy_nil (w : World) :
    Calls Try.prog 14 #[.pointer none] w fun e w' => e = .returned (.pointer none) ∧ w = w' := by
  go_enter Try.func14, Try.ntmps14
  go_wp2
  go_ret
  exact ⟨rfl, rfl⟩

/-! The reference. -/
theorem rgrow_arg (n k : Int) (w : World) (h : k < 1 ∨ 2147483647 < k) :
    Calls Try.prog 16 #[.int .i64 n, .int .i64 k] w fun e w' => e = .returned (.tuple #[.int .i64 n, .int .i64 2]) ∧ w = w' := by
  by_cases h1 : k < 1
  · clear h
    go_enter Try.func16, Try.ntmps16
    go_wp2
    go_ret2
    exact ⟨rfl, rfl⟩
  · have h2 : 2147483647 < k := by omega
    clear h
    go_enter Try.func16, Try.ntmps16
    go_wp2
    go_ret2
    exact ⟨rfl, rfl⟩
theorem rgrow_over (n k : Int) (w : World) (hn1 : -2147483647 ≤ n) (hn2 : n ≤ 2147483647) (hk1 : 1 ≤ k) (hk2 : k ≤ 2147483647) (h : 2147483647 < n + k) :
    Calls Try.prog 16 #[.int .i64 n, .int .i64 k] w fun e w' => e = .returned (.tuple #[.int .i64 n, .int .i64 10]) ∧ w = w' := by
  go_enter Try.func16, Try.ntmps16
  go_wp2
  go_ret2
  exact ⟨rfl, rfl⟩
theorem rgrow_yes (n k : Int) (w : World) (hn1 : -2147483647 ≤ n) (hn2 : n ≤ 2147483647) (hk1 : 1 ≤ k) (hk2 : k ≤ 2147483647) (h : n + k ≤ 2147483647) :
    Calls Try.prog 16 #[.int .i64 n, .int .i64 k] w fun e w' => e = .returned (.tuple #[.int .i64 (n + k), .int .i64 0]) ∧ w = w' := by
  go_enter Try.func16, Try.ntmps16
  go_wp2
  go_ret2
  exact ⟨rfl, rfl⟩
theorem rspend_arg (n k : Int) (w : World) (h : k < 0) :
    Calls Try.prog 18 #[.int .i64 n, .int .i64 k] w fun e w' => e = .returned (.tuple #[.int .i64 n, .int .i64 2]) ∧ w = w' := by
  go_enter Try.func18, Try.ntmps18
  go_wp2
  go_ret2
  exact ⟨rfl, rfl⟩
theorem rspend_full (n k : Int) (w : World) (h : 0 ≤ k) (h1 : max n 0 < k) :
    Calls Try.prog 18 #[.int .i64 n, .int .i64 k] w fun e w' => e = .returned (.tuple #[.int .i64 n, .int .i64 9]) ∧ w = w' := by
  have h2 : 0 < k := by omega
  have h3 : n < k := by omega
  clear h1
  go_enter Try.func18, Try.ntmps18
  go_wp2
  go_ret2
  exact ⟨rfl, rfl⟩
theorem rspend_yes (n k : Int) (w : World) (hn1 : -2147483647 ≤ n) (hn2 : n ≤ 2147483647) (h : 0 ≤ k) (h1 : k ≤ max n 0) :
    Calls Try.prog 18 #[.int .i64 n, .int .i64 k] w fun e w' => e = .returned (.tuple #[.int .i64 (n - k), .int .i64 0]) ∧ w = w' := by
  by_cases h2 : 0 < k
  · have h3 : k ≤ n := by omega
    clear h1
    go_enter Try.func18, Try.ntmps18
    go_wp2
    go_ret2
    exact ⟨rfl, rfl⟩
  · obtain rfl : k = 0 := by omega
    clear h1
    go_enter Try.func18, Try.ntmps18
    go_wp2
    go_ret2
    exact ⟨ret2_int (by omega) rfl, rfl⟩
theorem rresize_arg (n a b : Int) (w : World) (h : a < 0 ∨ 2147483647 < a ∨ b < 0 ∨ 2147483647 < b) :
    Calls Try.prog 17 #[.int .i64 n, .int .i64 a, .int .i64 b] w fun e w' => e = .returned (.tuple #[.int .i64 n, .int .i64 2]) ∧ w = w' := by
  by_cases h1 : a < 0
  · clear h
    go_enter Try.func17, Try.ntmps17
    go_wp2
    go_ret2
    exact ⟨rfl, rfl⟩
  · by_cases h2 : b < 0
    · clear h
      go_enter Try.func17, Try.ntmps17
      go_wp2
      go_ret2
      exact ⟨rfl, rfl⟩
    · by_cases h3 : 2147483647 < a
      · clear h
        go_enter Try.func17, Try.ntmps17
        go_wp2
        go_ret2
        exact ⟨rfl, rfl⟩
      · have h4 : 2147483647 < b := by omega
        clear h
        go_enter Try.func17, Try.ntmps17
        go_wp2
        go_ret2
        exact ⟨rfl, rfl⟩
theorem rresize_over (n a b : Int) (w : World) (hn1 : -2147483647 ≤ n) (hn2 : n ≤ 2147483647) (a1 : 0 ≤ a) (a2 : a ≤ 2147483647) (b1 : 0 ≤ b) (b2 : b ≤ 2147483647) (h1 : n + (b - a) < -2147483647 ∨ 2147483647 < n + (b - a)) :
    Calls Try.prog 17 #[.int .i64 n, .int .i64 a, .int .i64 b] w fun e w' => e = .returned (.tuple #[.int .i64 n, .int .i64 10]) ∧ w = w' := by
  by_cases h2 : 2147483647 < n + b - a
  · clear h1
    go_enter Try.func17, Try.ntmps17
    go_wp2
    go_ret2
    exact ⟨rfl, rfl⟩
  · have h3 : n + b - a < -2147483647 := by omega
    clear h1
    go_enter Try.func17, Try.ntmps17
    go_wp2
    go_ret2
    exact ⟨rfl, rfl⟩
theorem rresize_yes (n a b : Int) (w : World) (hn1 : -2147483647 ≤ n) (hn2 : n ≤ 2147483647) (a1 : 0 ≤ a) (a2 : a ≤ 2147483647) (b1 : 0 ≤ b) (b2 : b ≤ 2147483647) (h1 : -2147483647 ≤ n + (b - a)) (h2 : n + (b - a) ≤ 2147483647) :
    Calls Try.prog 17 #[.int .i64 n, .int .i64 a, .int .i64 b] w fun e w' => e = .returned (.tuple #[.int .i64 (n + (b - a)), .int .i64 0]) ∧ w = w' := by
  go_enter Try.func17, Try.ntmps17
  go_wp2
  go_ret2
  exact ⟨ret2_int (by omega) rfl, rfl⟩

/-! The law's own. -/
def Did (g : Nat) (w : World) (e : Ending) (w' : World) : Prop :=
  ∃ m : Int, e = .returned (.tuple #[.int .i64 m, .bool true]) ∧ -2147483647 ≤ m ∧ m ≤ 2147483647 ∧ Win w' g m ∧ Only [g] w w'

set_option maxHeartbeats 4000000 in
theorem do_any (g : Nat) (n k x y : Int) (w : World) (hb : Win w g n) (hn1 : -2147483647 ≤ n) (hn2 : n ≤ 2147483647) (x1 : -9223372036854775808 ≤ x) (x2 : x ≤ 9223372036854775807) (y1 : -9223372036854775808 ≤ y) (y2 : y ≤ 9223372036854775807) :
    Calls Try.prog 8 #[.pointer (some ⟨g, 0, none⟩), .int .i64 n, .agg #[.int .i64 k, .int .i64 x, .int .i64 y]] w (Did g w) := by
  have hlt := Blk.lt hb
  by_cases k0 : k = 0
  · subst k0
    by_cases h1 : x < 1 ∨ 2147483647 < x
    · have hR := fun W => rgrow_arg n x W h1
      have HR := Lib.hid hR
      have hP := fun W => grow_arg g x W h1
      have HP := Lib.hid hP
      clear hR hP h1
      go_enter Try.func8, Try.ntmps8
      go_wp2_with fail
      refine (HR.out _).mono ?_
      rintro e w1 ⟨rfl, rfl⟩
      go_wp2_with fail
      refine (HP.out _).mono ?_
      rintro e w2 ⟨rfl, rfl⟩
      go_wp2_with fail
      go_ret2
      exact ⟨n, rfl, by omega, by omega, Blk.alloc hb _, (Only.refl _ _).alloc _⟩
    · have h2 : 1 ≤ x := by omega
      have h3 : x ≤ 2147483647 := by omega
      clear h1
      by_cases h4 : n + x ≤ 2147483647
      · go_enter Try.func8, Try.ntmps8
        go_wp2_with fail
        refine (rgrow_yes n x _ hn1 hn2 h2 h3 h4).mono ?_
        rintro e w1 ⟨rfl, rfl⟩
        go_wp2_with fail
        refine (grow_yes g n x _ (Blk.alloc hb _) hn1 hn2 h2 h3 h4).mono ?_
        rintro e w2 ⟨rfl, d, o⟩
        go_wp2_with fail
        go_ret2
        exact ⟨n + x, rfl, by omega, by omega, d, ((Only.refl _ _).alloc _).trans_ o⟩
      · go_enter Try.func8, Try.ntmps8
        go_wp2_with fail
        refine (rgrow_over n x _ hn1 hn2 h2 h3 (by omega)).mono ?_
        rintro e w1 ⟨rfl, rfl⟩
        go_wp2_with fail
        refine (grow_over g n x _ (Blk.alloc hb _) hn1 hn2 h2 h3 (by omega)).mono ?_
        rintro e w2 ⟨rfl, rfl⟩
        go_wp2_with fail
        go_ret2
        exact ⟨n, rfl, by omega, by omega, Blk.alloc hb _, (Only.refl _ _).alloc _⟩
  · by_cases k1 : k = 1
    · subst k1
      by_cases h1 : x < 1 ∨ 2147483647 < x
      · have hR := fun W => rgrow_arg n x W h1
        have HR := Lib.hid hR
        have hP := fun W => grow_arg g x W h1
        have HP := Lib.hid hP
        clear hR hP h1
        go_enter Try.func8, Try.ntmps8
        go_wp2_with fail
        refine (HR.out _).mono ?_
        rintro e w1 ⟨rfl, rfl⟩
        go_wp2_with fail
        refine (HP.out _).mono ?_
        rintro e w2 ⟨rfl, rfl⟩
        go_wp2_with fail
        go_ret2
        exact ⟨n, rfl, by omega, by omega, Blk.alloc hb _, (Only.refl _ _).alloc _⟩
      · have h2 : 1 ≤ x := by omega
        have h3 : x ≤ 2147483647 := by omega
        clear h1
        by_cases h4 : n + x ≤ 2147483647
        · go_enter Try.func8, Try.ntmps8
          go_wp2_with fail
          refine (rgrow_yes n x _ hn1 hn2 h2 h3 h4).mono ?_
          rintro e w1 ⟨rfl, rfl⟩
          go_wp2_with fail
          refine (grow_yes g n x _ (Blk.alloc hb _) hn1 hn2 h2 h3 h4).mono ?_
          rintro e w2 ⟨rfl, d, o⟩
          go_wp2_with fail
          go_ret2
          exact ⟨n + x, rfl, by omega, by omega, d, ((Only.refl _ _).alloc _).trans_ o⟩
        · go_enter Try.func8, Try.ntmps8
          go_wp2_with fail
          refine (rgrow_over n x _ hn1 hn2 h2 h3 (by omega)).mono ?_
          rintro e w1 ⟨rfl, rfl⟩
          go_wp2_with fail
          refine (grow_over g n x _ (Blk.alloc hb _) hn1 hn2 h2 h3 (by omega)).mono ?_
          rintro e w2 ⟨rfl, rfl⟩
          go_wp2_with fail
          go_ret2
          exact ⟨n, rfl, by omega, by omega, Blk.alloc hb _, (Only.refl _ _).alloc _⟩
    · by_cases k4 : k = 4
      · subst k4
        by_cases h1 : x < 0 ∨ 2147483647 < x ∨ y < 0 ∨ 2147483647 < y
        · have hR := fun W => rresize_arg n x y W h1
          have HR := Lib.hid hR
          have hP := fun W => resize_arg g x y W h1
          have HP := Lib.hid hP
          clear hR hP h1
          go_enter Try.func8, Try.ntmps8
          go_wp2_with fail
          refine (HR.out _).mono ?_
          rintro e w1 ⟨rfl, rfl⟩
          go_wp2_with fail
          refine (HP.out _).mono ?_
          rintro e w2 ⟨rfl, rfl⟩
          go_wp2_with fail
          go_ret2
          exact ⟨n, rfl, by omega, by omega, Blk.alloc hb _, (Only.refl _ _).alloc _⟩
        · have a1 : 0 ≤ x := by omega
          have a2 : x ≤ 2147483647 := by omega
          have b1 : 0 ≤ y := by omega
          have b2 : y ≤ 2147483647 := by omega
          clear h1
          by_cases h2 : n + (y - x) < -2147483647 ∨ 2147483647 < n + (y - x)
          · have hR := fun W => rresize_over n x y W hn1 hn2 a1 a2 b1 b2 h2
            have HR := Lib.hid hR
            have hP := fun W hW => resize_over g n x y W hW hn1 hn2 a1 a2 b1 b2 h2
            have HP := Lib.hid hP
            clear hR hP h2
            go_enter Try.func8, Try.ntmps8
            go_wp2_with fail
            refine (HR.out _).mono ?_
            rintro e w1 ⟨rfl, rfl⟩
            go_wp2_with fail
            refine (HP.out _ (Blk.alloc hb _)).mono ?_
            rintro e w2 ⟨rfl, rfl⟩
            go_wp2_with fail
            go_ret2
            exact ⟨n, rfl, by omega, by omega, Blk.alloc hb _, (Only.refl _ _).alloc _⟩
          · have h3 : -2147483647 ≤ n + (y - x) := by omega
            have h4 : n + (y - x) ≤ 2147483647 := by omega
            clear h2
            have hR := fun W => rresize_yes n x y W hn1 hn2 a1 a2 b1 b2 h3 h4
            have HR := Lib.hid hR
            have hP := fun W hW => resize_yes g n x y W hW hn1 hn2 a1 a2 b1 b2 h3 h4
            have HP := Lib.hid hP
            clear hR hP
            go_enter Try.func8, Try.ntmps8
            go_wp2_with fail
            refine (HR.out _).mono ?_
            rintro e w1 ⟨rfl, rfl⟩
            go_wp2_with fail
            refine (HP.out _ (Blk.alloc hb _)).mono ?_
            rintro e w2 ⟨rfl, d, o⟩
            go_wp2_with fail
            go_ret2
            exact ⟨n + (y - x), rfl, by omega, by omega, d, ((Only.refl _ _).alloc _).trans_ o⟩
      · have e0 : (k == 0) = false := by simp [k0]
        have e1 : (k == 1) = false := by simp [k1]
        have e4 : (k == 4) = false := by simp [k4]
        clear k0 k1 k4
        by_cases h1 : x < 0
        · go_enter Try.func8, Try.ntmps8
          go_wp2_with fail
          refine (rspend_arg n x _ h1).mono ?_
          rintro e w1 ⟨rfl, rfl⟩
          go_wp2_with fail
          refine (spend_arg g x _ h1).mono ?_
          rintro e w2 ⟨rfl, rfl⟩
          go_wp2_with fail
          go_ret2
          exact ⟨n, rfl, by omega, by omega, Blk.alloc hb _, (Only.refl _ _).alloc _⟩
        · have h2 : 0 ≤ x := by omega
          by_cases h3 : x ≤ max n 0
          · have hd : -2147483647 ≤ n - x ∧ n - x ≤ 2147483647 := by omega
            obtain ⟨hd1, hd2⟩ := hd
            have hR := fun W => rspend_yes n x W hn1 hn2 h2 h3
            have HR := Lib.hid hR
            have hP := fun W hW => spend_yes g n x W hW hn1 hn2 h2 h3
            have HP := Lib.hid hP
            clear hR hP h3
            go_enter Try.func8, Try.ntmps8
            go_wp2_with fail
            refine (HR.out _).mono ?_
            rintro e w1 ⟨rfl, rfl⟩
            go_wp2_with fail
            refine (HP.out _ (Blk.alloc hb _)).mono ?_
            rintro e w2 ⟨rfl, d, o⟩
            go_wp2_with fail
            go_ret2
            exact ⟨n - x, rfl, by omega, by omega, d, ((Only.refl _ _).alloc _).trans_ o⟩
          · have h4 : max n 0 < x := by omega
            have hR := fun W => rspend_full n x W h2 h4
            have HR := Lib.hid hR
            have hP := fun W hW => spend_full g n x W hW h2 h4
            have HP := Lib.hid hP
            clear hR hP h3 h4
            go_enter Try.func8, Try.ntmps8
            go_wp2_with fail
            refine (HR.out _).mono ?_
            rintro e w1 ⟨rfl, rfl⟩
            go_wp2_with fail
            refine (HP.out _ (Blk.alloc hb _)).mono ?_
            rintro e w2 ⟨rfl, rfl⟩
            go_wp2_with fail
            go_ret2
            exact ⟨n, rfl, by omega, by omega, Blk.alloc hb _, (Only.refl _ _).alloc _⟩

theorem awake_any (w : World) :
    Calls Try.prog 7 #[] w fun e w' => e = .returned (.bool true) ∧ Below w.heap.size w w' := by
  go_enter Try.func7, Try.ntmps7
  go_wp2_with fail
  refine (new_yes _ _ (by omega) (by omega)).mono ?_
  rintro e w1 ⟨rfl, d1, b1⟩
  go_wp2_with fail
  refine (spend_yes _ 10 8 _ d1 (by omega) (by omega) (by omega) (by decide)).mono ?_
  rintro e w2 ⟨rfl, d2, o2⟩
  rw [show (10 : Int) - 8 = 2 by decide] at d2
  go_wp2_with fail
  refine (resize_yes _ 2 10 4 _ d2 (by omega) (by omega) (by omega) (by omega) (by omega) (by omega) (by omega) (by omega)).mono ?_
  rintro e w3 ⟨rfl, d3, o3⟩
  rw [show (2 : Int) + (4 - 10) = -4 by decide] at d3
  go_wp2_with fail
  refine (size_any _ (-4) _ d3).mono ?_
  rintro e w4 ⟨rfl, rfl⟩
  go_wp2_with fail
  refine (free_any _ (-4) _ d3).mono ?_
  rintro e w4 ⟨rfl, rfl⟩
  go_wp2_with fail
  go_ret
  exact ⟨rfl, bonly (bonly b1 o2 (by simp)) o3 (by simp)⟩
end Go.Proofs.Ytnfkaflpakedmaa
