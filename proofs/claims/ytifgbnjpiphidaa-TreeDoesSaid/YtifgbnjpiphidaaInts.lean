/- Lists of ints in memory; that two are the same. -/
import Derived.Test.YtifgbnjpiphidaaRows
import Derived.WalkKit
import Derived.ProofKit
import Derived.Handy
import Derived.Test.YtifgbnjpiphidaaMem
import Derived.Test.YtifgbnjpiphidaaLift
import Derived.Test.YtifgbnjpiphidaaApp
import Derived.Test.YtifgbnjpiphidaaReads
import Derived.Deep.QuietTactic
import Derived.BigQuiet
import Derived.Deep.RegionWith
import Derived.Deep.RegionHeld3
import Derived.WalkLawsBesides
import Derived.WalkSmall
namespace Go.Proofs.Ytifgbnjpiphidaa
open Go.RowKit
set_option linter.unusedVariables false
theorem info_INT : (Try.prog.info? 3).map (fun i => (i.zero, i.size, i.bytes)) = some (some (.int .i64 0), 1, 8) := by kernel_rfl
def nums (l : List Int) : List Value := l.map (Value.int .i64)
theorem nums_length (l : List Int) : (nums l).length = l.length * 1 := by simp [nums]
theorem nums_append (a b : List Int) : nums (a ++ b) = nums a ++ nums b := by simp [nums]
theorem nums_one (l : List Int) : ∀ u ∈ nums l, u.oneCell' = true := by
  intro u hu
  simp only [nums, List.mem_map] at hu
  obtain ⟨b, _, rfl⟩ := hu
  rfl
theorem reads_num (w : World) (x : Int) : Reads (w.alloc (.cells #[.int .i64 x] 3)) (w.heap.size + 1) 1 (some ⟨w.heap.size, 0, none⟩) 1 [.int .i64 x] :=
  ⟨rfl, fun _ => ⟨_, rfl, by simp, fun j u hu => World.news_of_block (cs := #[.int .i64 x]) (t := 3) (fr := (0, 0)) (heap_alloc_new w _) j u hu⟩⟩
theorem ints_eq (A A' : Option Addr) (n n' k k' : Nat) (l : List Int) (w : World) (hn : n = l.length) (hn' : n' = l.length) (h : Held w 3 1 A n k (nums l)) (h' : Held w 3 1 A' n' k' (nums l)) (hL : l.length ≤ 100000) :
    Calls Try.prog 21 #[.slice A n k, .slice A' n' k'] w fun e w' => e = .returned (.bool true) ∧ ∃ q, w' = w.drewN q := by
  obtain rfl : n = n' := by omega
  have H := Lib.hid h
  have H' := Lib.hid h'
  have hk := h.2.1
  have hk' := h'.2.1
  have HN := Lib.hid hn
  have hnb : n ≤ 100000 := by omega
  clear h h' hn hn' hL
  go_enter Try.func21, Try.ntmps21
  go_wp2_with fail
  go_loopw [5] (fun iv wr => ∃ m q : Nat, m ≤ n ∧ iv = .int .i64 m ∧ wr = w.drewN q) (fun i _ => n - (intOf i).toNat)
  case atStart => exact ⟨0, 0, by omega, rfl, rfl⟩
  case round =>
    obtain ⟨m, q, hm, rfl, rfl⟩ := hrel
    by_cases hlt : m < n
    · have hg : (nums l)[m]? = some (.int .i64 (l[m]'(by rw [← HN.out]; exact hlt))) := by simp [nums]
      obtain ⟨b, off, rfl, hb, x1⟩ := H.out.at_ hg
      obtain ⟨b', off', rfl, hb', x2⟩ := H'.out.at_ hg
      generalize l[m]'(by rw [← HN.out]; exact hlt) = s at *
      clear hg
      go_wp2_with fail
      go_quiet (fail)
      go_wp2_with fail
      go_roundw
      case rel => exact ⟨m + 1, _, by omega, by go_num, rfl⟩
      case measure => simp [intOf]; omega
    · obtain rfl : n = m := by omega
      go_wp2_with fail
      go_ret
      exact ⟨rfl, _, rfl⟩
end Go.Proofs.Ytifgbnjpiphidaa
