/- The walks of package demand. -/
import Derived.Test.YtamjmnoejledbaaRows
import Derived.WalkKit
import Derived.ProofKit
import Derived.Test.YtamjmnoejledbaaMem
import Derived.Deep.QuietTactic
import Derived.BigQuiet
import Derived.Deep.RegionWith
namespace Go.Proofs.Ytamjmnoejledbaa
open Go.RowKit

theorem ret2_int {j k : IntKind} {a b c d : Int} (h : a = b) (h' : c = d) : Ending.returned (.tuple #[.int j a, .int k c]) = .returned (.tuple #[.int j b, .int k d]) := by rw [h, h']
theorem ret_int {k : IntKind} {a b : Int} (h : a = b) : Ending.returned (.int k a) = .returned (.int k b) := by rw [h]
theorem ret_bool {a b : Bool} (h : a = b) : Ending.returned (.bool a) = .returned (.bool b) := by rw [h]

def Dem (w : World) (g : Nat) (n limit : Int) : Prop := Blk w g 43 #[.int .i64 n, .int .i64 limit]

theorem new_yes (limit : Int) (w : World) (h1 : 1 ≤ limit) (h2 : limit ≤ 2147483647) :
    Calls Try.prog 6 #[.int .i64 limit] w fun e w' => e = .returned (.tuple #[.pointer (some ⟨w.heap.size, 0, none⟩), .int .i64 0]) ∧ Dem w' w.heap.size 0 limit ∧ Below w.heap.size w w' := by
  go_enter Try.func6, Try.ntmps6
  go_wp2
  go_ret2
  exact ⟨rfl, Blk.new _ _ _, (Below.refl _ _).alloc (Nat.le_refl _) _⟩

theorem new_no (limit : Int) (w : World) (h1 : limit < 1 ∨ 2147483647 < limit) :
    Calls Try.prog 6 #[.int .i64 limit] w fun e w' => e = .returned (.tuple #[.pointer none, .int .i64 3]) ∧ w = w' := by
  rcases h1 with h1 | h1
  · go_enter Try.func6, Try.ntmps6
    go_wp2
    go_ret2
    exact ⟨rfl, rfl⟩
  · have h2 : ¬ limit < 1 := by omega
    go_enter Try.func6, Try.ntmps6
    go_wp2
    go_ret2
    exact ⟨rfl, rfl⟩

theorem add_any (g : Nat) (n limit k : Int) (w : World) (hb : Dem w g n limit) (h1 : 1 ≤ k) (h2 : k ≤ 9223372036854775807) (hn : 0 ≤ n) (hnl : n ≤ limit) (hl : limit ≤ 2147483647) :
    Calls Try.prog 7 #[.pointer (some ⟨g, 0, none⟩), .int .i64 k] w fun e w' => e = .returned (.tuple #[.int .i64 (min k (limit - n)), .int .i64 0]) ∧ Dem w' g (n + min k (limit - n)) limit ∧ Only [g] w w' := by
  have c0 := Blk.cell hb 0
  have c1 := Blk.cell hb 1
  have f0 := Blk.frozen hb 0
  simp at c0 c1
  by_cases hk : k ≤ limit - n
  · rw [Int.min_eq_left hk]
    go_enter Try.func7, Try.ntmps7
    go_wp2
    go_region
    go_wp2
    go_ret2
    exact ⟨rfl, (Blk.set_ hb 0 _).drew, ((Only.refl _ _).setCell (.inl (by simp)) _).drew⟩
  · rw [Int.min_eq_right (by omega)]
    go_enter Try.func7, Try.ntmps7
    go_wp2
    go_region
    go_wp2
    go_ret2
    exact ⟨rfl, (Blk.set_ hb 0 _).drew, ((Only.refl _ _).setCell (.inl (by simp)) _).drew⟩

theorem add_arg (g : Nat) (k : Int) (w : World) (h1 : k < 1) :
    Calls Try.prog 7 #[.pointer (some ⟨g, 0, none⟩), .int .i64 k] w fun e w' => e = .returned (.tuple #[.int .i64 0, .int .i64 2]) ∧ w = w' := by
  go_enter Try.func7, Try.ntmps7
  go_wp2
  go_ret2
  exact ⟨rfl, rfl⟩

theorem add_nil (k : Int) (w : World) :
    Calls Try.prog 7 #[.pointer none, .int .i64 k] w fun e w' => e = .returned (.tuple #[.int .i64 0, .int .i64 1]) ∧ w = w' := by
  go_enter Try.func7, Try.ntmps7
  go_wp2
  go_ret2
  exact ⟨rfl, rfl⟩

theorem left_any (g : Nat) (n limit : Int) (w : World) (hb : Dem w g n limit) :
    Calls Try.prog 8 #[.pointer (some ⟨g, 0, none⟩)] w fun e w' => e = .returned (.int .i64 n) ∧ w = w' := by
  have c0 := Blk.cell hb 0
  simp at c0
  go_enter Try.func8, Try.ntmps8
  go_wp2
  go_ret
  exact ⟨rfl, rfl⟩

theorem left_nil (w : World) :
    Calls Try.prog 8 #[.pointer none] w fun e w' => e = .returned (.int .i64 0) ∧ w = w' := by
  go_enter Try.func8, Try.ntmps8
  go_wp2
  go_ret
  exact ⟨rfl, rfl⟩

theorem take_any (g : Nat) (n limit k : Int) (w : World) (hb : Dem w g n limit) (h1 : 0 ≤ k) (h2 : k ≤ n) (hl : n ≤ 2147483647) :
    Calls Try.prog 11 #[.pointer (some ⟨g, 0, none⟩), .int .i64 k] w fun e w' => e = .returned (.int .i64 0) ∧ Dem w' g (n - k) limit ∧ Only [g] w w' := by
  have c0 := Blk.cell hb 0
  have f0 := Blk.frozen hb 0
  simp at c0
  go_enter Try.func11, Try.ntmps11
  go_wp2
  go_ret
  exact ⟨rfl, Blk.set_ hb 0 _, (Only.refl _ _).setCell (.inl (by simp)) _⟩

theorem take_arg (g : Nat) (k : Int) (w : World) (h1 : k < 0) :
    Calls Try.prog 11 #[.pointer (some ⟨g, 0, none⟩), .int .i64 k] w fun e w' => e = .returned (.int .i64 2) ∧ w = w' := by
  go_enter Try.func11, Try.ntmps11
  go_wp2
  go_ret
  exact ⟨rfl, rfl⟩

theorem take_full (g : Nat) (n limit k : Int) (w : World) (hb : Dem w g n limit) (h0 : 0 ≤ k) (h1 : n < k) :
    Calls Try.prog 11 #[.pointer (some ⟨g, 0, none⟩), .int .i64 k] w fun e w' => e = .returned (.int .i64 9) ∧ w = w' := by
  have c0 := Blk.cell hb 0
  simp at c0
  go_enter Try.func11, Try.ntmps11
  go_wp2
  go_ret
  exact ⟨rfl, rfl⟩

theorem take_nil (k : Int) (w : World) :
    Calls Try.prog 11 #[.pointer none, .int .i64 k] w fun e w' => e = .returned (.int .i64 1) ∧ w = w' := by
  go_enter Try.func11, Try.ntmps11
  go_wp2
  go_ret
  exact ⟨rfl, rfl⟩

theorem endless_any (g : Nat) (n limit : Int) (w : World) (hb : Dem w g n limit) :
    Calls Try.prog 13 #[.pointer (some ⟨g, 0, none⟩)] w fun e w' => e = .returned (.bool (n == limit)) ∧ ∃ k, w' = w.drewN k := by
  have c0 := Blk.cell hb 0
  have c1 := Blk.cell hb 1
  simp at c0 c1
  go_enter Try.func13, Try.ntmps13
  go_wp2
  go_quiet (fail)
  go_wp2
  go_ret
  exact ⟨rfl, _, rfl⟩

theorem endless_nil (w : World) :
    Calls Try.prog 13 #[.pointer none] w fun e w' => e = .returned (.bool false) ∧ ∃ k, w' = w.drewN k := by
  go_enter Try.func13, Try.ntmps13
  go_wp2
  go_quiet (fail)
  go_wp2
  go_ret
  exact ⟨rfl, _, rfl⟩

/-- The closure of Upto: the boxes of n and of d. -/
theorem upto_fn (g bk bd : Nat) (n limit k : Int) (w : World) (hk : w.cell? ⟨bk, 0, none⟩ = some (.int .i64 k)) (hd : w.cell? ⟨bd, 0, none⟩ = some (.pointer (some ⟨g, 0, none⟩))) (hb : Dem w g n limit) :
    Calls Try.prog 15 #[.pointer (some ⟨bk, 0, none⟩), .pointer (some ⟨bd, 0, none⟩)] w fun e w' => e = .returned (.int .i64 (max (min k n) 0)) ∧ ∃ q, w' = w.drewN q := by
  by_cases h1 : k ≤ n
  · rw [Int.min_eq_left h1]
    by_cases h2 : k < 0
    · rw [Int.max_eq_right (by omega)]
      go_enter Try.func15, Try.ntmps15
      go_wp2
      go_quiet ((go_at_call 8; exact quiet_left (left_any g n limit _ hb)))
      go_wp2
      go_ret
      exact ⟨rfl, _, rfl⟩
    · rw [Int.max_eq_left (by omega)]
      go_enter Try.func15, Try.ntmps15
      go_wp2
      go_quiet ((go_at_call 8; exact quiet_left (left_any g n limit _ hb)))
      go_wp2
      go_ret
      exact ⟨rfl, _, rfl⟩
  · rw [Int.min_eq_right (by omega)]
    by_cases h2 : n < 0
    · rw [Int.max_eq_right (by omega)]
      go_enter Try.func15, Try.ntmps15
      go_wp2
      go_quiet ((go_at_call 8; exact quiet_left (left_any g n limit _ hb)))
      go_wp2
      go_ret
      exact ⟨rfl, _, rfl⟩
    · rw [Int.max_eq_left (by omega)]
      go_enter Try.func15, Try.ntmps15
      go_wp2
      go_quiet ((go_at_call 8; exact quiet_left (left_any g n limit _ hb)))
      go_wp2
      go_ret
      exact ⟨rfl, _, rfl⟩

theorem upto_fn_nil (bk bd : Nat) (k : Int) (w : World) (hk : w.cell? ⟨bk, 0, none⟩ = some (.int .i64 k)) (hd : w.cell? ⟨bd, 0, none⟩ = some (.pointer none)) :
    Calls Try.prog 15 #[.pointer (some ⟨bk, 0, none⟩), .pointer (some ⟨bd, 0, none⟩)] w fun e w' => e = .returned (.int .i64 0) ∧ ∃ q, w' = w.drewN q := by
  by_cases h1 : k ≤ 0
  · by_cases h2 : k < 0
    · go_enter Try.func15, Try.ntmps15
      go_wp2
      go_quiet ((go_at_call 8; exact quiet_left (left_nil _)))
      go_wp2
      go_ret
      exact ⟨rfl, _, rfl⟩
    · obtain rfl : k = 0 := by omega
      go_enter Try.func15, Try.ntmps15
      go_wp2
      go_quiet ((go_at_call 8; exact quiet_left (left_nil _)))
      go_wp2
      go_ret
      exact ⟨rfl, _, rfl⟩
  · go_enter Try.func15, Try.ntmps15
    go_wp2
    go_quiet ((go_at_call 8; exact quiet_left (left_nil _)))
    go_wp2
    go_ret
    exact ⟨rfl, _, rfl⟩

theorem upto_any (g : Nat) (n limit k : Int) (w : World) (hb : Dem w g n limit) (hn : 0 ≤ n) (hl : n ≤ 2147483647) :
    Calls Try.prog 12 #[.pointer (some ⟨g, 0, none⟩), .int .i64 k] w fun e w' => e = .returned (.int .i64 (max (min k n) 0)) ∧ Dem w' g (n - max (min k n) 0) limit ∧ Only [g] w w' := by
  have c0 := Blk.cell hb 0
  have f0 := Blk.frozen hb 0
  have hlt := Blk.lt hb
  simp at c0
  have hm0 : 0 ≤ max (min k n) 0 ∧ max (min k n) 0 ≤ n := by omega
  obtain ⟨m, hm⟩ : ∃ m, max (min k n) 0 = m := ⟨_, rfl⟩
  rw [hm]
  rw [hm] at hm0
  obtain ⟨hm1, hm2⟩ := hm0
  have H := Lib.hid hm
  clear hm
  go_enter Try.func12, Try.ntmps12
  go_wp2_with fail
  refine (upto_fn g _ _ n limit k _ (by go_simp) (by go_simp) ((Blk.alloc (Blk.alloc hb _) _))).mono ?_
  rintro e w' ⟨rfl, q, rfl⟩
  rw [H.out]
  go_wp2_with fail
  refine (take_any g n limit m _ ((Blk.drewN (Blk.alloc (Blk.alloc hb _) _) _)) hm1 hm2 hl).mono ?_
  rintro e w' ⟨rfl, h1, h2⟩
  go_wp2_with fail
  go_ret
  exact ⟨rfl, h1, ((((Only.refl _ _).alloc _).alloc _).drewN _).trans_ h2⟩

theorem upto_nil (k : Int) (w : World) :
    Calls Try.prog 12 #[.pointer none, .int .i64 k] w fun e w' => e = .returned (.int .i64 0) ∧ Below w.heap.size w w' := by
  go_enter Try.func12, Try.ntmps12
  go_wp2_with fail
  refine (upto_fn_nil _ _ k _ (by go_simp) (by go_simp)).mono ?_
  rintro e w' ⟨rfl, q, rfl⟩
  go_wp2_with fail
  refine (take_nil _ _).mono ?_
  rintro e w' ⟨rfl, rfl⟩
  go_wp2_with fail
  go_ret
  exact ⟨rfl, below_drewN (((Below.refl _ _).alloc (Nat.le_refl _) _).alloc (by simp) _) _⟩

theorem copy_any (g : Nat) (n limit : Int) (w : World) (hb : Dem w g n limit) :
    Calls Try.prog 14 #[.pointer (some ⟨g, 0, none⟩)] w fun e w' => e = .returned (.pointer (some ⟨w.heap.size, 0, none⟩)) ∧ Dem w' w.heap.size n limit ∧ Below w.heap.size w w' := by
  have c0 := Blk.cell hb 0
  have c1 := Blk.cell hb 1
  simp at c0 c1
  go_enter Try.func14, Try.ntmps14
  go_wp2
  go_ret
  exact ⟨rfl, Blk.new _ _ _, (Below.refl _ _).alloc (Nat.le_refl _) _⟩

theorem copy_nil (w : World) :
    Calls Try.prog 14 #[.pointer none] w fun e w' => e = .returned (.pointer none) ∧ Below w.heap.size w w' := by
  go_enter Try.func14, Try.ntmps14
  go_wp2
  go_ret
  exact ⟨rfl, Below.refl _ _⟩

theorem awake_any (w : World) :
    Calls Try.prog 9 #[] w fun e w' => e = .returned (.bool true) ∧ Below w.heap.size w w' := by
  go_enter Try.func9, Try.ntmps9
  go_wp2_with fail
  refine (new_yes _ _ (by omega) (by omega)).mono ?_
  rintro e w1 ⟨rfl, d1, b1⟩
  go_wp2_with fail
  have h := add_any _ 0 10 7 w1 d1 (by omega) (by omega) (by omega) (by omega) (by omega)
  rw [show min (7 : Int) (10 - 0) = 7 by decide, show (0 : Int) + 7 = 7 by decide] at h
  refine h.mono ?_
  clear h
  rintro e w2 ⟨rfl, d2, o2⟩
  go_wp2_with fail
  have h := add_any _ 7 10 7 w2 d2 (by omega) (by omega) (by omega) (by omega) (by omega)
  rw [show min (7 : Int) (10 - 7) = 3 by decide, show (7 : Int) + 3 = 10 by decide] at h
  refine h.mono ?_
  clear h
  rintro e w3 ⟨rfl, d3, o3⟩
  go_wp2_with fail
  refine (endless_any _ 10 10 _ d3).mono ?_
  rintro e w4 ⟨rfl, q, rfl⟩
  go_wp2_with fail
  refine (left_any _ 10 10 _ (d3.drewN q)).mono ?_
  rintro e w5 ⟨rfl, rfl⟩
  go_wp2_with fail
  go_ret
  exact ⟨rfl, below_drewN (bonly (bonly b1 o2 (by simp)) o3 (by simp)) _⟩
end Go.Proofs.Ytamjmnoejledbaa
