/- The walks of package queue, and of its answer. -/
import Derived.Test.YtlncapddimehiaaRows
import Derived.WalkKit
import Derived.ProofKit
import Derived.Handy
import Derived.Test.YtlncapddimehiaaMem
import Derived.Test.YtlncapddimehiaaLift
import Derived.Test.YtlncapddimehiaaApp
import Derived.Test.YtlncapddimehiaaReads
import Derived.Test.YtlncapddimehiaaOrd
import Derived.Deep.QuietTactic
import Derived.BigQuiet
import Derived.Deep.RegionWith
import Derived.Deep.RegionHeld3
import Derived.Deep.AppendLies
import Derived.WalkLawsBesides
import Derived.WalkSmall
namespace Go.Proofs.Ytlncapddimehiaa
open Go.RowKit
set_option linter.unusedVariables false

theorem info_S : (Try.prog.info? 9).map (fun i => (i.zero, i.size, i.bytes)) = some (some (.string ByteArray.empty), 1, 16) := by kernel_rfl

def strs (L : List ByteArray) : List Value := L.map Value.string
theorem strs_length (L : List ByteArray) : (strs L).length = L.length * 1 := by simp [strs]
theorem strs_one (L : List ByteArray) : ∀ u ∈ strs L, u.oneCell' = true := by
  intro u hu
  simp only [strs, List.mem_map] at hu
  obtain ⟨b, _, rfl⟩ := hu
  rfl

/-- A queue of type t: capacity, strategy, items, counts. -/
def QAt (t : TypeId) (w : World) (g : Nat) (cap st : Int) (L : List ByteArray) (a b c : Int) : Prop :=
  ∃ A k, Blk w g t #[.int .i64 cap, .int .i64 st, .slice A L.length k, .int .i64 a, .int .i64 b, .int .i64 c] ∧ Held w 9 1 A L.length k (strs L)

section
variable {t : TypeId} {w w' : World} {g : Nat} {cap st : Int} {L : List ByteArray} {a b c : Int}
theorem QAt.below (k : QAt t w g cap st L a b c) (hb : Below w.heap.size w w') : QAt t w' g cap st L a b c := by
  obtain ⟨A, n, h1, h2⟩ := k
  exact ⟨A, n, Blk.below h1 hb (Blk.lt h1), h2.below hb⟩
theorem QAt.lt (k : QAt t w g cap st L a b c) : g < w.heap.size := by
  obtain ⟨A, n, h1, h2⟩ := k
  exact Blk.lt h1
theorem QAt.alloc (k : QAt t w g cap st L a b c) (o : Obj) : QAt t (w.alloc o) g cap st L a b c := by
  obtain ⟨A, n, h1, h2⟩ := k
  exact ⟨A, n, Blk.alloc h1 o, h2.alloc o⟩
theorem QAt.drewN (k : QAt t w g cap st L a b c) (n : Nat) : QAt t (w.drewN n) g cap st L a b c := k
/-- A block of type t', another one, has turned. -/
theorem QAt.only {h : Nat} {t' : TypeId} {cs : Array Value} (k : QAt t w g cap st L a b c) (o : Only [h] w w') (hne : g ≠ h) (hb : Blk w h t' cs) (ht : t' ≠ 9) : QAt t w' g cap st L a b c := by
  obtain ⟨A, n, h1, h2⟩ := k
  exact ⟨A, n, h1.only o (by simpa using hne), h2.only o (fun i hi _ => by simp at hi; subst hi; exact ⟨_, _, _, hb, ht⟩)⟩
theorem QAt.blk (k : QAt t w g cap st L a b c) : ∃ cs, Blk w g t cs := by
  obtain ⟨A, n, h1, h2⟩ := k
  exact ⟨_, h1⟩
theorem QAt.other {t' : TypeId} {h : Nat} {cap' st' : Int} {L' : List ByteArray} {a' b' c' : Int} (k : QAt t w g cap st L a b c) (o : Only [h] w w') (hne : g ≠ h) (kh : QAt t' w h cap' st' L' a' b' c') (ht : t' ≠ 9) : QAt t w' g cap st L a b c := by
  obtain ⟨cs, hb⟩ := kh.blk
  exact k.only o hne hb ht
end

def Newed (w : World) (cap st : Int) (e : Ending) (w' : World) : Prop := e = .returned (.tuple #[.pointer (some ⟨w.heap.size, 0, none⟩), .int .i64 0]) ∧ QAt 50 w' w.heap.size cap st [] 0 0 0 ∧ Below w.heap.size w w'
theorem new_ok (cap st : Int) (w : World) (h0 : 0 ≤ cap) (h1 : cap ≤ 64) (h2 : 0 ≤ st) (h3 : st ≤ 2) : Calls Try.prog 6 #[.int .i64 cap, .int .i64 st] w (Newed w cap st) := by
  go_enter Try.func6, Try.ntmps6
  go_wp2_with fail
  go_ret2
  exact ⟨rfl, ⟨none, 0, Blk.new _ _ _, Held.nil_ _ _ _⟩, (Below.refl _ _).alloc (Nat.le_refl _) _⟩
theorem new_range (cap st : Int) (w : World) (h0 : cap < 0 ∨ 64 < cap) : Calls Try.prog 6 #[.int .i64 cap, .int .i64 st] w fun e w' => e = .returned (.tuple #[.pointer none, .int .i64 3]) ∧ w = w' := by
  rcases Int.lt_or_le cap 0 with h | h
  · clear h0
    go_enter Try.func6, Try.ntmps6
    go_wp2_with fail
    go_ret2
    exact ⟨rfl, rfl⟩
  · have h1 : 64 < cap := by omega
    clear h0
    go_enter Try.func6, Try.ntmps6
    go_wp2_with fail
    go_ret2
    exact ⟨rfl, rfl⟩
theorem new_arg (cap st : Int) (w : World) (h0 : 0 ≤ cap) (h1 : cap ≤ 64) (h2 : st < 0 ∨ 2 < st) : Calls Try.prog 6 #[.int .i64 cap, .int .i64 st] w fun e w' => e = .returned (.tuple #[.pointer none, .int .i64 2]) ∧ w = w' := by
  rcases Int.lt_or_le st 0 with h | h
  · clear h2
    go_enter Try.func6, Try.ntmps6
    go_wp2_with fail
    go_ret2
    exact ⟨rfl, rfl⟩
  · have h3 : 2 < st := by omega
    clear h2
    go_enter Try.func6, Try.ntmps6
    go_wp2_with fail
    go_ret2
    exact ⟨rfl, rfl⟩

theorem len_any (g : Nat) (cap st : Int) (L : List ByteArray) (a b c : Int) (w : World) (k : QAt 50 w g cap st L a b c) :
    Calls Try.prog 10 #[.pointer (some ⟨g, 0, none⟩)] w fun e w' => e = .returned (.int .i64 L.length) ∧ w = w' := by
  obtain ⟨A, n, h1, h2⟩ := k
  have c2 := Blk.cell h1 2
  simp at c2
  go_enter Try.func10, Try.ntmps10
  go_wp2_with fail
  go_ret
  exact ⟨rfl, rfl⟩
theorem len_nil (w : World) : Calls Try.prog 10 #[.pointer none] w fun e w' => e = .returned (.int .i64 0) ∧ w = w' := by
  go_enter Try.func10, Try.ntmps10
  go_wp2_with fail
  go_ret
  exact ⟨rfl, rfl⟩
theorem full_any (g : Nat) (cap st : Int) (L : List ByteArray) (a b c : Int) (w : World) (k : QAt 50 w g cap st L a b c) :
    Calls Try.prog 15 #[.pointer (some ⟨g, 0, none⟩)] w fun e w' => e = .returned (.bool (decide (cap ≤ L.length))) ∧ ∃ n, w' = w.drewN n := by
  obtain ⟨A, n, h1, h2⟩ := k
  have c2 := Blk.cell h1 2
  have c0 := Blk.cell h1 0
  simp at c2 c0
  go_enter Try.func15, Try.ntmps15
  go_wp2_with fail
  go_quiet (fail)
  go_wp2_with fail
  go_ret
  exact ⟨rfl, _, rfl⟩
theorem full_nil (w : World) : Calls Try.prog 15 #[.pointer none] w fun e w' => e = .returned (.bool false) ∧ ∃ n, w' = w.drewN n := by
  go_enter Try.func15, Try.ntmps15
  go_wp2_with fail
  go_quiet (fail)
  go_wp2_with fail
  go_ret
  exact ⟨rfl, _, rfl⟩
end Go.Proofs.Ytlncapddimehiaa
