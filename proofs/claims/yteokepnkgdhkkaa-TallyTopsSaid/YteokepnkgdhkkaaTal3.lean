/- The walks of the answer's sums: Find, Same. -/
import Derived.Test.YteokepnkgdhkkaaRows
import Derived.WalkKit
import Derived.ProofKit
import Derived.Handy
import Derived.Deep.QuietTactic
import Derived.BigQuiet
import Derived.Deep.RegionWith
import Derived.Deep.RegionHeld3
import Derived.Deep.AppendLies
import Derived.WalkLawsBesides
import Derived.WalkSmall
import Derived.Test.YteokepnkgdhkkaaTalB
namespace Go.Proofs.Yteokepnkgdhkkaa
open Go.RowKit
set_option linter.unusedVariables false
/-- The first place of a stream. -/
def FindIs (l : List Sm) (x r : Int) : Prop := (∃ (k : Nat) (hk : k < l.length), l[k].st = x ∧ r = (k : Int) ∧ ∀ (j : Nat) (hj : j < l.length), j < k → l[j].st ≠ x) ∨ (r = -1 ∧ ∀ (j : Nat) (hj : j < l.length), l[j].st ≠ x)
def FindE (w : World) (l : List Sm) (x : Int) (e : Ending) (w' : World) : Prop := ∃ r, e = .returned (.int .i64 r) ∧ FindIs l x r ∧ w = w'
theorem find_any (B n c : Nat) (A : Option Addr) (l : List Sm) (x : Int) (w : World) (h : Sms w B A n c l) :
    Calls Try.prog 19 #[.slice A n c, .int .i64 x] w (FindE w l x) := by
  have hc := h.cap_ge
  have hc2 := h.cap_le
  have HK := Lib.hid h
  have HN := Lib.hid h.len
  clear h
  go_enter Try.func19, Try.ntmps19
  go_wp2_with fail
  go_loop [5] (fun iv => ∃ k : Nat, k ≤ n ∧ iv = .int .i64 k ∧ ∀ (j : Nat) (hj : j < l.length), j < k → l[j].st ≠ x) (fun i => n - (intOf i).toNat)
  case atStart => exact ⟨0, by omega, rfl, fun j _ h => absurd h (by omega)⟩
  case round =>
    obtain ⟨k, hk, rfl, hno⟩ := hrel
    have HNO := Lib.hid hno
    clear hno
    by_cases hlt : k < n
    · have hkl : k < l.length := by rw [HN.out]; exact hlt
      obtain ⟨b, off, rfl, hb, c0, _⟩ := HK.out.at_ k hkl
      have hk0 : (0 : Int) ≤ k := by omega
      have hk1 : (k : Int) < n := by omega
      by_cases he : l[k].st = x
      · have HE := Lib.hid he
        rw [he] at c0
        clear he
        go_wp2_with fail
        go_ret
        exact ⟨_, rfl, .inl ⟨k, hkl, HE.out, rfl, HNO.out⟩, rfl⟩
      · have HE := Lib.hid he
        generalize hy : l[k].st = y at *
        have HY := Lib.hid hy
        have hyx : (y == x) = false := by simp [he]
        clear he hy
        go_wp2_with fail
        go_round
        case rel =>
          refine ⟨k + 1, by omega, by go_num, fun j hj hjk => ?_⟩
          rcases Nat.lt_or_ge j k with h | h
          · exact HNO.out j hj h
          · obtain rfl : j = k := by omega
            rw [HY.out]
            exact HE.out
        case measure => simp [intOf]; omega
    · obtain rfl : n = k := by omega
      go_wp2_with fail
      go_ret
      exact ⟨-1, rfl, .inr ⟨rfl, fun j hj => HNO.out j hj (by rw [← HN.out]; exact hj)⟩, rfl⟩
theorem same_any (B B' n n' c c' : Nat) (A A' : Option Addr) (l : List Sm) (w : World) (h : Sms w B A n c l) (h' : Sms w B' A' n' c' l) (hL : l.length ≤ 100000) :
    Calls Try.prog 9 #[.slice A n c, .slice A' n' c'] w fun e w' => e = .returned (.bool true) ∧ ∃ q, w' = w.drewN q := by
  obtain rfl : n = n' := by rw [← h.len, ← h'.len]
  have H := Lib.hid h
  have H' := Lib.hid h'
  have hk := h.cap_ge
  have hk' := h'.cap_ge
  have HN := Lib.hid h.len
  have hnb : n ≤ 100000 := by rw [← h.len]; exact hL
  clear h h' hL
  go_enter Try.func9, Try.ntmps9
  go_wp2_with fail
  go_loopw [5] (fun iv wr => ∃ m q : Nat, m ≤ n ∧ iv = .int .i64 m ∧ wr = w.drewN q) (fun i _ => n - (intOf i).toNat)
  case atStart => exact ⟨0, 0, by omega, rfl, rfl⟩
  case round =>
    obtain ⟨m, q, hm, rfl, rfl⟩ := hrel
    by_cases hlt : m < n
    · have hml : m < l.length := by rw [HN.out]; exact hlt
      obtain ⟨b, off, rfl, hb, x0, x1, x2, x3, x4, x5, x6, x7⟩ := H.out.at_ m hml
      obtain ⟨b', off', rfl, hb', y0, y1, y2, y3, y4, y5, y6, y7⟩ := H'.out.at_ m hml
      generalize l[m]'hml = s at *
      obtain ⟨s0, s1, s2, s3, s4, s5, s6, s7⟩ := s
      simp only at x0 x1 x2 x3 x4 x5 x6 x7 y0 y1 y2 y3 y4 y5 y6 y7
      go_wp2_with fail
      go_quiet (fail)
      go_wp2_with fail
      go_roundw
      case rel => exact ⟨m + 1, _, by omega, by go_num, rfl⟩
      case measure => simp [intOf]; omega
    · obtain rfl : n = m := by omega
      go_wp2_with fail
      go_ret
      exact ⟨rfl, _, rfl⟩
end Go.Proofs.Yteokepnkgdhkkaa
