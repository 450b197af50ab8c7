/- The walks of package share: Share, Left; and the answer's own functions. -/
import Derived.Test.YtodkifkphhfnpaaRows
import Derived.WalkKit
import Derived.ProofKit
import Derived.Handy
import Derived.Test.YtodkifkphhfnpaaMem
import Derived.Test.YtodkifkphhfnpaaLift
import Derived.Test.YtodkifkphhfnpaaApp
import Derived.Test.YtodkifkphhfnpaaReads
import Derived.Test.YtodkifkphhfnpaaOrd
import Derived.Test.YtodkifkphhfnpaaShLaw
import Derived.Test.YtodkifkphhfnpaaShare
import Derived.Test.YtodkifkphhfnpaaShare2
import Derived.Test.YtodkifkphhfnpaaShare3
import Derived.Test.YtodkifkphhfnpaaShare4
import Derived.Deep.QuietTactic
import Derived.BigQuiet
import Derived.Deep.RegionWith
import Derived.Deep.RegionHeld3
import Derived.Deep.AppendLies
import Derived.WalkLawsBesides
import Derived.WalkSmall
import Derived.ChangeKeysEq
import Derived.Laws.StructEq
namespace Go.Proofs.Ytodkifkphhfnpaa
open Go.RowKit
set_option linter.unusedVariables false
set_option linter.unusedSimpArgs false





/-- A slice of n ints, known. -/
def RowI (w : World) (A : Option Addr) (n cap : Nat) (h : Nat → Int) : Prop := n ≤ cap ∧ (0 < n → ∃ g, A = some ⟨g, 0, none⟩ ∧ IRow w g n h)
theorem RowI.below {w w' : World} {A : Option Addr} {n cap : Nat} {h : Nat → Int} (r : RowI w A n cap h) (hb : Below w.heap.size w w') : RowI w' A n cap h :=
  ⟨r.1, fun hn => by
    obtain ⟨g, hA, i⟩ := r.2 hn
    exact ⟨g, hA, i.below hb i.lt⟩⟩
def Shared (w : World) (whole : Int) (n : Nat) (X Y : Nat → Int) (e : Ending) (w' : World) : Prop :=
  ∃ A cap h, e = .returned (.tuple #[.slice A n cap, .int .i64 0]) ∧ RowI w' A n cap h ∧ (dealOf whole n X Y).End h ∧ Below w.heap.size w w'

theorem share_ok (whole : Int) (v : Value) (n : Nat) (X Y : Nat → Int) (w : World) (hc : Claims w v n X Y) (hn : n ≤ 256) (h0 : 0 ≤ whole) (h1 : whole ≤ 2147483647) :
    Calls Try.prog 8 #[.int .i64 whole, v] w (Shared w whole n X Y) := by
  have hM := made_any whole v n X Y w hc hn h0 h1
  obtain ⟨⟨A, cap, rfl, hnc, hcap, _, _⟩, _, _⟩ := hc
  have HM := Lib.hid hM
  clear hM
  go_enter Try.func8, Try.ntmps8
  go_wp2_with fail
  refine HM.out.mono ?_
  rintro e w1 ⟨d, rfl, hdn, k1, g1, g2, g3, b1⟩
  go_wp2_with fail
  refine (done_any d _ (fits_of whole n X Y h0 h1) w1 hdn k1).mono ?_
  rintro e w2 ⟨rfl, h, hE, k2, o2⟩
  have B2 : Below w.heap.size w w2 := bonly b1 o2 (by simp; omega)
  have c2 := Blk.cell k2.blk 2
  simp at c2
  have hr : RowI w2 d.Ah n d.ch h := ⟨by have := k2.caps; omega, fun hp => by
    obtain ⟨_, _, hA, _, _, _, _, _, r3⟩ := k2.row (by omega)
    exact ⟨d.gh, hA, by rw [← hdn]; exact r3⟩⟩
  have HF := Lib.hid (And.intro hr (And.intro hE B2))
  rw [hdn] at c2
  clear k1 k2 o2 hr hE B2 b1
  go_wp2_with fail
  go_ret2
  exact ⟨_, _, h, rfl, HF.out.1, HF.out.2.1, HF.out.2.2⟩
theorem share_arg (whole : Int) (v : Value) (w : World) (h0 : whole < 0 ∨ 2147483647 < whole) :
    Calls Try.prog 8 #[.int .i64 whole, v] w fun e w' => e = .returned (.tuple #[.slice none 0 0, .int .i64 2]) ∧ w = w' := by
  rcases Int.lt_or_le whole 0 with h | h
  · clear h0
    go_enter Try.func8, Try.ntmps8
    go_wp2_with fail
    go_ret2
    exact ⟨rfl, rfl⟩
  · have h1 : 2147483647 < whole := by omega
    clear h0
    go_enter Try.func8, Try.ntmps8
    go_wp2_with fail
    go_ret2
    exact ⟨rfl, rfl⟩
theorem share_big (whole : Int) (A : Option Addr) (n cap : Nat) (w : World) (h0 : 0 ≤ whole) (h1 : whole ≤ 2147483647) (hn : 256 < n) (hn' : n ≤ 400) :
    Calls Try.prog 8 #[.int .i64 whole, .slice A n cap] w fun e w' => e = .returned (.tuple #[.slice none 0 0, .int .i64 4]) ∧ w = w' := by
  go_enter Try.func8, Try.ntmps8
  go_wp2_with fail
  go_ret2
  exact ⟨rfl, rfl⟩
def LeftIs (w : World) (whole : Int) (n : Nat) (X Y : Nat → Int) (e : Ending) (w' : World) : Prop :=
  ∃ h, e = .returned (.int .i64 ((dealOf whole n X Y).left h)) ∧ (dealOf whole n X Y).End h ∧ Below w.heap.size w w'
theorem left_ok (whole : Int) (v : Value) (n : Nat) (X Y : Nat → Int) (w : World) (hc : Claims w v n X Y) (hn : n ≤ 256) (h0 : 0 ≤ whole) (h1 : whole ≤ 2147483647) :
    Calls Try.prog 12 #[.int .i64 whole, v] w (LeftIs w whole n X Y) := by
  have hM := made_any whole v n X Y w hc hn h0 h1
  obtain ⟨⟨A, cap, rfl, hnc, hcap, _, _⟩, _, _⟩ := hc
  have HM := Lib.hid hM
  clear hM
  go_enter Try.func12, Try.ntmps12
  go_wp2_with fail
  refine HM.out.mono ?_
  rintro e w1 ⟨d, rfl, hdn, k1, g1, g2, g3, b1⟩
  go_wp2_with fail
  refine (done_any d _ (fits_of whole n X Y h0 h1) w1 hdn k1).mono ?_
  rintro e w2 ⟨rfl, h, hE, k2, o2⟩
  have B2 : Below w.heap.size w w2 := bonly b1 o2 (by simp; omega)
  have c2 := Blk.cell k2.blk 3
  simp at c2
  have HF := Lib.hid (And.intro hE B2)
  clear k1 k2 o2 hE B2 b1
  go_wp2_with fail
  go_ret
  exact ⟨h, rfl, HF.out.1, HF.out.2⟩
theorem left_no (whole : Int) (A : Option Addr) (n cap : Nat) (w : World) (hn' : n ≤ 400) (h : whole < 0 ∨ 2147483647 < whole ∨ 256 < n) :
    Calls Try.prog 12 #[.int .i64 whole, .slice A n cap] w fun e w' => e = .returned (.int .i64 0) ∧ w = w' := by
  rcases Int.lt_or_le whole 0 with h1 | h1
  · clear h
    go_enter Try.func12, Try.ntmps12
    go_wp2_with fail
    go_ret
    exact ⟨rfl, rfl⟩
  · rcases Int.lt_or_le 2147483647 whole with h2 | h2
    · clear h
      go_enter Try.func12, Try.ntmps12
      go_wp2_with fail
      go_ret
      exact ⟨rfl, rfl⟩
    · have h3 : 256 < n := by omega
      clear h
      go_enter Try.func12, Try.ntmps12
      go_wp2_with fail
      go_ret
      exact ⟨rfl, rfl⟩

theorem low_any (a b : Int) (w : World) : Calls Try.prog 17 #[.int .i64 a, .int .i64 b] w fun e w' => e = .returned (.int .i64 (min a b)) ∧ w = w' := by
  by_cases h : a < b
  · rw [Int.min_eq_left (by omega)]
    go_enter Try.func17, Try.ntmps17
    go_wp2_with fail
    go_ret
    exact ⟨rfl, rfl⟩
  · rw [Int.min_eq_right (by omega)]
    go_enter Try.func17, Try.ntmps17
    go_wp2_with fail
    go_ret
    exact ⟨rfl, rfl⟩
theorem high_any (a b : Int) (w : World) : Calls Try.prog 18 #[.int .i64 a, .int .i64 b] w fun e w' => e = .returned (.int .i64 (max a b)) ∧ w = w' := by
  by_cases h : b < a
  · rw [Int.max_eq_left (by omega)]
    go_enter Try.func18, Try.ntmps18
    go_wp2_with fail
    go_ret
    exact ⟨rfl, rfl⟩
  · rw [Int.max_eq_right (by omega)]
    go_enter Try.func18, Try.ntmps18
    go_wp2_with fail
    go_ret
    exact ⟨rfl, rfl⟩
theorem want_any (x : Int) (w : World) : Calls Try.prog 10 #[.int .i64 x] w fun e w' => e = .returned (.int .i64 (wantOf x)) ∧ w = w' := by
  rw [show wantOf x = min (max x 0) 2147483647 by simp only [wantOf]; omega]
  go_enter Try.func10, Try.ntmps10
  go_wp2_with fail
  refine (high_any _ _ _).mono ?_
  rintro e w1 ⟨rfl, rfl⟩
  go_wp2_with fail
  refine (low_any _ _ _).mono ?_
  rintro e w1 ⟨rfl, rfl⟩
  go_wp2_with fail
  go_ret
  exact ⟨rfl, rfl⟩
theorem weight_any (x : Int) (w : World) : Calls Try.prog 11 #[.int .i64 x] w fun e w' => e = .returned (.int .i64 (wtOf x)) ∧ w = w' := by
  rw [show wtOf x = min (max x 1) 256 by simp only [wtOf]; omega]
  go_enter Try.func11, Try.ntmps11
  go_wp2_with fail
  refine (high_any _ _ _).mono ?_
  rintro e w1 ⟨rfl, rfl⟩
  go_wp2_with fail
  refine (low_any _ _ _).mono ?_
  rintro e w1 ⟨rfl, rfl⟩
  go_wp2_with fail
  go_ret
  exact ⟨rfl, rfl⟩

theorem sum_bound {h : Nat → Int} {n : Nat} (hh : ∀ j, j < n → 0 ≤ h j ∧ h j ≤ 2147483647) : ∀ k, k ≤ n → 0 ≤ SH.sumF h k ∧ SH.sumF h k ≤ 2147483647 * k
  | 0, _ => by simp [SH.sumF]
  | k + 1, hk => by
    have h1 := sum_bound hh k (by omega)
    have h2 := hh k (by omega)
    simp only [SH.sumF]
    omega
theorem rsum_any (A : Option Addr) (n cap : Nat) (h : Nat → Int) (w : World) (r : RowI w A n cap h) (hn : n ≤ 400) (hh : ∀ j, j < n → 0 ≤ h j ∧ h j ≤ 2147483647) :
    Calls Try.prog 19 #[.slice A n cap] w fun e w' => e = .returned (.int .i64 (SH.sumF h n)) ∧ w = w' := by
  have HR := Lib.hid r.2
  have HB := Lib.hid (fun k => sum_bound hh k)
  clear r hh
  go_enter Try.func19, Try.ntmps19
  go_wp2_with fail
  go_loopw [3, 4] (fun sv iv wr => ∃ m : Nat, m ≤ n ∧ iv = .int .i64 m ∧ sv = .int .i64 (SH.sumF h m) ∧ w = wr) (fun _ i _ => n - (intOf i).toNat)
  case atStart => exact ⟨0, by omega, rfl, rfl, rfl⟩
  case round =>
    obtain ⟨m, hm, rfl, rfl, rfl⟩ := hrel
    by_cases hlt : m < n
    · obtain ⟨g, rfl, i⟩ := HR.out (by omega)
      have x := i.cell hlt
      have hb := HB.out (m + 1) (by omega)
      simp only [SH.sumF] at hb
      obtain ⟨hb1, hb2⟩ := hb
      clear i
      go_wp2_with fail
      go_roundw
      case rel => exact ⟨m + 1, by omega, by go_num, by first | rfl | trivial, by first | rfl | trivial⟩
      case measure => simp [intOf]; omega
    · obtain rfl : m = n := by omega
      go_wp2_with fail
      go_ret
      exact ⟨rfl, rfl⟩

theorem ints_any (A A' : Option Addr) (n cap cap' : Nat) (h h' : Nat → Int) (w : World) (r : RowI w A n cap h) (r' : RowI w A' n cap' h') (hn : n ≤ 400) (he : ∀ j, j < n → h j = h' j) :
    Calls Try.prog 14 #[.slice A n cap, .slice A' n cap'] w fun e w' => e = .returned (.bool true) ∧ ∃ q, w' = w.drewN q := by
  have HR := Lib.hid r.2
  have HR' := Lib.hid r'.2
  have HE := Lib.hid he
  clear r r' he
  go_enter Try.func14, Try.ntmps14
  go_wp2_with fail
  go_loopw [5] (fun iv wr => ∃ m q : Nat, m ≤ n ∧ iv = .int .i64 m ∧ wr = w.drewN q) (fun i _ => n - (intOf i).toNat)
  case atStart => exact ⟨0, 0, by omega, rfl, rfl⟩
  case round =>
    obtain ⟨m, q, hm, rfl, rfl⟩ := hrel
    by_cases hlt : m < n
    · obtain ⟨g, rfl, i⟩ := HR.out (by omega)
      obtain ⟨g', rfl, i'⟩ := HR'.out (by omega)
      have x := i.cell hlt
      have x' := i'.cell hlt
      rw [← HE.out m hlt] at x'
      clear i i'
      go_wp2_with fail
      go_quiet (fail)
      go_wp2_with fail
      go_roundw
      case rel => exact ⟨m + 1, _, by omega, by go_num, rfl⟩
      case measure => simp [intOf]; omega
    · obtain rfl : m = n := by omega
      go_wp2_with fail
      go_ret
      exact ⟨rfl, _, rfl⟩
end Go.Proofs.Ytodkifkphhfnpaa
