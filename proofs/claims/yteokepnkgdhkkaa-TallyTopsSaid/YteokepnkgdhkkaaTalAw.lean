/- The walk of awake, chapter 35. -/
import Derived.Test.YteokepnkgdhkkaaRows
import Derived.WalkKit
import Derived.ProofKit
import Derived.Handy
import Derived.Deep.QuietTactic
import Derived.BigQuiet
import Derived.Deep.RegionWith
import Derived.Deep.RegionHeld3
import Derived.Deep.AppendLies
import Derived.WalkLawsBesides
import Derived.WalkSmall
import Derived.Deep.Cut
import Derived.Test.YteokepnkgdhkkaaTal14
import Derived.Test.YteokepnkgdhkkaaTal12
namespace Go.Proofs.Yteokepnkgdhkkaa
open Go.RowKit
set_option linter.unusedVariables false
def mA : Mv := ⟨1, 3, 2, ByteArray.empty, false⟩
def mB : Mv := ⟨1, 3, 5, ByteArray.empty, true⟩
def sA : Sm := ⟨3, 7, 0, 2, true, false, 0, 0⟩
theorem ofL_awake : ofL [mA, mB] = [sA] := by rfl
theorem held_one (w : World) (x : Int) : Held (w.alloc (.cells #[.int .i64 x] 3)) 3 1 (some ⟨w.heap.size, 0, none⟩) 1 1 (nums [x]) := by
  refine ⟨rfl, Nat.le_refl _, by omega, fun h => (by cases h), fun _ => ⟨w.heap.size, 0, #[.int .i64 x], rfl, heap_alloc_new w _, fun j u hu => ?_⟩⟩
  cases j with
  | zero => simpa [nums] using hu
  | succ j => simp [nums] at hu
theorem sms_new (w : World) (x : Sm) : Sms (w.alloc (.cells (sa x) 33)) (w.heap.size + 1) (some ⟨w.heap.size, 0, none⟩) 1 1 [x] := by
  refine ⟨?_, rfl, Nat.le_refl _, by omega⟩
  have := reads_sum w x
  rw [svs_cons, svs_nil, List.append_nil]
  exact this
theorem mvs_two (w : World) (x y : Mv) : Mvs (w.alloc (.cells (ma x ++ ma y) 45)) (w.heap.size + 1) (some ⟨w.heap.size, 0, none⟩) 2 2 [x, y] := by
  refine ⟨⟨rfl, fun _ => ⟨_, rfl, by simp, fun j u hu => World.news_of_block (cs := ma x ++ ma y) (t := 45) (fr := (0, 0)) (heap_alloc_new w _) j u ?_⟩⟩, rfl, Nat.le_refl _, by omega⟩
  exact hu
set_option maxHeartbeats 1000000 in
set_option maxRecDepth 10000 in
theorem awake_any (w : World) : Calls Try.prog 8 #[] w fun e w' => e = .returned (.bool true) ∧ Below w.heap.size w w' := by
  have ho := of_any (w.heap.size + 1) 2 2 (some ⟨w.heap.size, 0, none⟩) [mA, mB] (w.alloc (.cells (ma mA ++ ma mB) 45)) (mvs_two w mA mB) (by simp) (by omega) (fun m hm => by
    simp at hm
    rcases hm with rfl | rfl <;> rfl)
  rw [ofL_awake] at ho
  have HO := Lib.hid ho
  clear ho
  go_enter Try.func8, Try.ntmps8
  go_wp2_with fail
  refine HO.out.mono ?_
  rintro e w1 ⟨A, c, rfl, hs, b1⟩
  have b1' : Below w.heap.size w w1 := ((Below.refl _ _).alloc (Nat.le_refl _) _).trans (b1.mono (by simp))
  have H1 := Lib.hid (And.intro hs b1')
  have hc := hs.cap_ge
  have hc2 := hs.cap_le
  have hs1 := b1'.size
  clear hs b1 b1' HO
  have e1 : ([sA] : List Sm).length = 1 := rfl
  rw [e1] at H1 hc ⊢
  have hA0 : ∃ b off, A = some ⟨b, off, none⟩ ∧ b < w1.heap.size := by
    obtain ⟨b, off, h1, h2, _⟩ := H1.out.1.at_ 0 (by simp)
    exact ⟨b, off, h1, h2⟩
  obtain ⟨b, off, rfl, hb⟩ := hA0
  have HM : Hid (Calls Try.prog 9 #[.slice (some ⟨b, off, none⟩) 1 c, .slice (some ⟨w1.heap.size, 0, none⟩) 1 1] (w1.alloc (.cells #[.int .i64 3, .int .i64 7, .int .i64 0, .int .i64 2, .bool true, .bool false, .int .i64 0, .int .i64 0] 33)) fun e w' => e = .returned (.bool true) ∧ ∃ q, w' = (w1.alloc (.cells #[.int .i64 3, .int .i64 7, .int .i64 0, .int .i64 2, .bool true, .bool false, .int .i64 0, .int .i64 0] 33)).drewN q) :=
    same_any _ _ 1 1 c 1 _ _ [sA] _ (H1.out.1.alloc (Nat.le_refl _) _) (sms_new w1 sA) (by simp)
  go_wp2_with (first
    | (go_at_call 9
       refine HM.out.mono ?_
       rintro e w2 ⟨rfl, q, rfl⟩
       have H2 := Lib.hid (top_any w1.heap.size 1 c (some ⟨b, off, none⟩) [sA] 2 ((w1.alloc (.cells #[.int .i64 3, .int .i64 7, .int .i64 0, .int .i64 2, .bool true, .bool false, .int .i64 0, .int .i64 0] 33)).drewN q) ((H1.out.1.alloc (Nat.le_refl _) _).drewN q) (by show w1.heap.size ≤ (w1.alloc _).heap.size; simp) (by omega) (stable_few 1 (by omega)))
       have B2 : Hid (Below w.heap.size w ((w1.alloc (.cells #[.int .i64 3, .int .i64 7, .int .i64 0, .int .i64 2, .bool true, .bool false, .int .i64 0, .int .i64 0] 33)).drewN q)) := below_drewN (H1.out.2.alloc hs1 _) q
       generalize (w1.alloc (.cells #[.int .i64 3, .int .i64 7, .int .i64 0, .int .i64 2, .bool true, .bool false, .int .i64 0, .int .i64 0] 33)).drewN q = w2 at *)
    | (go_at_call 14
       refine H2.out.mono ?_
       rintro e w3 ⟨t, hp, _, A3, c3, rfl, h3, b3⟩
       obtain rfl : t = [sA] := List.perm_singleton.1 hp
       have H3 := Lib.hid (And.intro h3 (B2.out.trans (b3.mono B2.out.size)))
       clear h3 b3 hp)
    | (go_at_call 13
       refine (ints_eq A3 (some ⟨w3.heap.size, 0, none⟩) 1 1 c3 1 [3] _ rfl rfl (H3.out.1.alloc _) (held_one w3 3) (by simp)).mono ?_
       rintro e w4 ⟨rfl, q4, rfl⟩))
  go_ret
  exact ⟨rfl, below_drewN (H3.out.2.alloc H3.out.2.size _) q4⟩
end Go.Proofs.Yteokepnkgdhkkaa
