/- The walk of awake, chapter 14; the nil tree. -/
import Derived.Test.YtifgbnjpiphidaaRows
import Derived.WalkKit
import Derived.ProofKit
import Derived.Handy
import Derived.Deep.QuietTactic
import Derived.BigQuiet
import Derived.Deep.RegionWith
import Derived.Deep.RegionHeld3
import Derived.Deep.AppendLies
import Derived.WalkLawsBesides
import Derived.WalkSmall
import Derived.Deep.Cut
import Derived.Test.YtifgbnjpiphidaaTre7
namespace Go.Proofs.Ytifgbnjpiphidaa
open Go.RowKit
set_option linter.unusedVariables false
def aw1 : List Nd := [⟨1, 0, 16⟩]
def aw2 : List Nd := [⟨1, 0, 16⟩, ⟨3, 1, 4⟩]
def aw3 : List Nd := [⟨1, 3, 9⟩, ⟨3, 0, 4⟩]
theorem aw_1 : layL [] 1 (knownL [] ⟨0, 16, false⟩) = aw1 := by simp [layL, knownL, putN, getN, aw1]
theorem aw_2 : layL aw1 3 (knownL aw1 ⟨1, 4, false⟩) = aw2 := by simp [layL, knownL, putN, getN, aw1, aw2]
theorem aw_k : knownL aw2 ⟨3, 9, false⟩ = ⟨3, 9, false⟩ := by simp [knownL, getN, aw2]
theorem aw_3 : layL (hangN aw2 3 0) 1 ⟨3, 9, false⟩ = aw3 := by simp [layL, putN, hangN, getN, aw2, aw3]
theorem aw_abv : Abv aw2 1 3 := .here (p := ⟨3, 1, 4⟩) (by simp [getN, aw2]) rfl
def awr2 (x : Int) : Nat := if x = 1 then 1 else if x = 3 then 2 else 0
def awr3 (x : Int) : Nat := if x = 1 then 2 else if x = 3 then 1 else 0
theorem aw_rk2 : Rk aw2 awr2 := by
  intro p hp
  simp [aw2] at hp
  rcases hp with rfl | rfl <;> simp [awr2]
theorem aw_ok3 : TreeOk aw3 awr3 where
  uq := by simp [Uq, aw3]
  rk := by
    intro p hp
    simp [aw3] at hp
    rcases hp with rfl | rfl <;> simp [awr3]
  cl := by
    intro p hp
    simp [aw3] at hp
    rcases hp with rfl | rfl
    · exact .inr ⟨⟨3, 0, 4⟩, by simp [getN, aw3]⟩
    · exact .inl rfl
  root := by simp [getN, aw3]
theorem aw_dp3 : dp aw3 awr3 3 = 1 := by
  rw [dp_some aw_ok3.rk (p := ⟨3, 0, 4⟩) (by simp [getN, aw3]), dp_none aw_ok3.root]
theorem aw_dp1 : dp aw3 awr3 1 = 2 := by
  rw [dp_some aw_ok3.rk (p := ⟨1, 3, 9⟩) (by simp [getN, aw3])]
  show dp aw3 awr3 3 + 1 = 2
  rw [aw_dp3]
theorem aw_ord : ordL aw3 awr3 = [3, 1] := by
  have k1 : ∀ f : Nd → Bool, f ⟨1, 3, 9⟩ = false → f ⟨3, 0, 4⟩ = true → aw3.filter f = [⟨3, 0, 4⟩] := fun f h1 h2 => by simp [aw3, h1, h2]
  have k2 : ∀ f : Nd → Bool, f ⟨1, 3, 9⟩ = true → f ⟨3, 0, 4⟩ = false → aw3.filter f = [⟨1, 3, 9⟩] := fun f h1 h2 => by simp [aw3, h1, h2]
  have e1 : levL aw3 awr3 1 = [3] := by
    unfold levL
    rw [k1 _ (by simp [aw_dp1]) (by simp [aw_dp3])]
    exact sortI_is (List.Perm.refl _) (List.pairwise_singleton _ _)
  have e2 : levL aw3 awr3 2 = [1] := by
    unfold levL
    rw [k2 _ (by simp [aw_dp1]) (by simp [aw_dp3])]
    exact sortI_is (List.Perm.refl _) (List.pairwise_singleton _ _)
  show ordD aw3 awr3 2 = [3, 1]
  rw [ordD_succ, ordD_succ, ordD_zero, e1, e2]
  rfl
theorem held_two (w : World) (x y : Int) : Held (w.alloc (.cells #[.int .i64 x, .int .i64 y] 3)) 3 1 (some ⟨w.heap.size, 0, none⟩) 2 2 (nums [x, y]) := by
  refine ⟨rfl, Nat.le_refl _, by omega, fun h => (by cases h), fun _ => ⟨w.heap.size, 0, #[.int .i64 x, .int .i64 y], rfl, heap_alloc_new w _, fun j u hu => ?_⟩⟩
  match j, hu with
  | 0, hu => simpa [nums] using hu
  | 1, hu => simpa [nums] using hu
set_option maxHeartbeats 4000000 in
set_option maxRecDepth 10000 in
theorem awake_any (w : World) : Calls Try.prog 8 #[] w fun e w' => e = .returned (.bool true) ∧ Below w.heap.size w w' := by
  have HN := Lib.hid (new_any 5 (by omega) w)
  have H := Lib.hid (And.intro aw_1 (And.intro aw_2 (And.intro aw_k (And.intro aw_3 aw_ord))))
  go_enter Try.func8, Try.ntmps8
  go_wp2_with fail
  refine HN.out.mono ?_
  rintro e w1 ⟨g, b, rfl, hg, hb, k1, b1⟩
  have H1 := Lib.hid (And.intro k1 b1)
  clear k1 b1 HN
  go_wp2_with fail
  refine (insert_rest g b 5 [] w1 H1.out.1 1 ⟨0, 16, false⟩ (by omega) (by decide) (by decide)).mono ?_
  rintro e w2 hq
  obtain ⟨rfl, t2⟩ := hq.2.2 (getN_nil _) (by simp)
  rw [H.out.1] at t2
  have H2 := Lib.hid (And.intro t2.1 (bonly H1.out.2 t2.2 (by simp; exact hb)))
  clear hq t2
  go_wp2_with fail
  refine (insert_rest g b 5 aw1 w2 H2.out.1 3 ⟨1, 4, false⟩ (by omega) (by decide) (by decide)).mono ?_
  rintro e w3 hq
  obtain ⟨rfl, t3⟩ := hq.2.2 (by simp [getN, aw1]) (by simp [aw1])
  rw [H.out.2.1] at t3
  have H3 := Lib.hid (And.intro t3.1 (bonly H2.out.2 t3.2 (by simp; exact hb)))
  clear hq t3
  go_wp2_with fail
  refine (move_ok g b 5 aw2 w3 H3.out.1 1 ⟨3, 9, false⟩ (by decide) awr2 aw_rk2 ⟨1, 0, 16⟩ (by simp [getN, aw2]) (by decide) (by decide)).mono ?_
  rintro e w4 hq
  have h4 := hq.1
  rw [H.out.2.2.1] at h4
  obtain ⟨rfl, t4⟩ := h4 aw_abv
  have t5 := t4.1
  rw [H.out.2.2.2.1] at t5
  have H4 := Lib.hid (And.intro t5 (bonly H3.out.2 t4.2 (by simp; exact hb)))
  clear hq h4 t4 t5
  go_wp2_with fail
  refine (parent_any g b 5 aw3 w4 H4.out.1 3 (by decide)).mono ?_
  rintro e w5 ⟨rfl, b5⟩
  rw [show ((getN aw3 3).getD zN).on = 0 by simp [getN, aw3]]
  have H5 := Lib.hid (And.intro (H4.out.1.below b5) (H4.out.2.trans (b5.mono H4.out.2.size)))
  clear b5
  go_wp2_with fail
  refine (parent_any g b 5 aw3 w5 H5.out.1 1 (by decide)).mono ?_
  rintro e w6 ⟨rfl, b6⟩
  rw [show ((getN aw3 1).getD zN).on = 3 by simp [getN, aw3]]
  have H6 := Lib.hid (And.intro (H5.out.1.below b6) (H5.out.2.trans (b6.mono H5.out.2.size)))
  clear b6
  go_wp2_with fail
  refine (weight_any g b 5 aw3 w6 H6.out.1 1 (by decide)).mono ?_
  rintro e w7 ⟨rfl, b7⟩
  rw [show ((getN aw3 1).getD zN).wt = 9 by simp [getN, aw3]]
  have H7 := Lib.hid (And.intro (H6.out.1.below b7) (H6.out.2.trans (b7.mono H6.out.2.size)))
  clear b7
  go_wp2_with fail
  refine (weight_any g b 5 aw3 w7 H7.out.1 3 (by decide)).mono ?_
  rintro e w8 ⟨rfl, b8⟩
  rw [show ((getN aw3 3).getD zN).wt = 4 by simp [getN, aw3]]
  have H8 := Lib.hid (And.intro (H7.out.1.below b8) (H7.out.2.trans (b8.mono H7.out.2.size)))
  clear b8
  go_wp2_with fail
  refine (order_any g b 5 aw3 w8 H8.out.1 awr3 aw_ok3).mono ?_
  rw [H.out.2.2.2.2]
  rintro e w9 ⟨A, c, rfl, h9, b9⟩
  have H9 := Lib.hid (And.intro h9 (H8.out.2.trans (b9.mono H8.out.2.size)))
  have hc := h9.2.1
  have e2 : ([3, 1] : List Int).length = 2 := rfl
  rw [e2] at H9 hc ⊢
  clear h9 b9
  go_wp2_with fail
  refine (ints_eq A (some ⟨w9.heap.size, 0, none⟩) 2 2 c 2 [3, 1] _ rfl rfl (H9.out.1.alloc _) (held_two w9 3 1) (by simp)).mono ?_
  rintro e w10 ⟨rfl, q, rfl⟩
  have HZ := Lib.hid (below_drewN (H9.out.2.alloc H9.out.2.size (.cells #[.int .i64 3, .int .i64 1] 3)) q)
  go_wp2_with fail
  go_ret
  exact ⟨rfl, HZ.out⟩
end Go.Proofs.Ytifgbnjpiphidaa
