/- The walk of awake, chapter 39; the set list by a function. -/
import Derived.Test.YtjiodpbefimnlaaRows
import Derived.WalkKit
import Derived.ProofKit
import Derived.Handy
import Derived.Test.YtjiodpbefimnlaaTim5
import Derived.Test.YtjiodpbefimnlaaInts
import Derived.Deep.QuietTactic
import Derived.BigQuiet
import Derived.Deep.RegionWith
import Derived.Deep.RegionHeld3
import Derived.WalkLawsBesides
import Derived.WalkSmall
namespace Go.Proofs.Ytjiodpbefimnlaa
open Go.RowKit
set_option linter.unusedVariables false
def aheadN (l : List (Int × Int)) (p : Int × Int) : Nat := (l.takeWhile (fun q => decide (tmLt q p))).length
theorem aheadN_is (l : List (Int × Int)) (p : Int × Int) : AheadT l p (aheadN l p) := by
  induction l with
  | nil => exact ⟨Nat.le_refl _, fun j hj => by simp at hj, fun h => by simp [aheadN] at h⟩
  | cons q r ih =>
    obtain ⟨h1, h2, h3⟩ := ih
    by_cases h : tmLt q p
    · have e : aheadN (q :: r) p = aheadN r p + 1 := by unfold aheadN; rw [List.takeWhile_cons, if_pos (decide_eq_true h)]; rfl
      rw [e]
      refine ⟨by simpa using h1, fun j hj hjk => ?_, fun hl => by simpa using h3 (by simpa using hl)⟩
      cases j with
      | zero => exact h
      | succ j => simpa using h2 j (by simpa using hj) (by omega)
    · have e : aheadN (q :: r) p = 0 := by unfold aheadN; rw [List.takeWhile_cons, if_neg (by simpa using h)]; rfl
      rw [e]
      exact ⟨Nat.zero_le _, fun j _ hj => by omega, fun _ => h⟩
def setT (l : List (Int × Int)) (x a : Int) : List (Int × Int) := insT (stopT l x) (aheadN (stopT l x) (x, a)) (x, a)
theorem setT_is (l : List (Int × Int)) (x a : Int) : IsSet l x a (setT l x a) := ⟨_, aheadN_is _ _, rfl⟩
theorem isSet_one {l l' : List (Int × Int)} {x a : Int} (h : IsSet l x a l') : l' = setT l x a := by
  obtain ⟨k, hk, rfl⟩ := h
  rw [aheadT_one hk (aheadN_is _ _)]
  rfl
theorem held_one (w : World) (x : Int) : Held (w.alloc (.cells #[.int .i64 x] 3)) 3 1 (some ⟨w.heap.size, 0, none⟩) 1 1 (nums [x]) := by
  refine ⟨rfl, Nat.le_refl _, by omega, fun h => (by cases h), fun _ => ⟨w.heap.size, 0, #[.int .i64 x], rfl, heap_alloc_new w _, fun j u hu => ?_⟩⟩
  cases j with
  | zero => simpa [nums] using hu
  | succ j => simp [nums] at hu
theorem set_ok' (g b : Nat) (l : List (Int × Int)) (T0 : Int) (w : World) (k : Whl w g b l T0) (x a : Int) (hx : (Lit.int .i64 x).wf = true) (h1 : T0 ≤ a) (h2 : a ≤ 1099511627776) (hL : getT l x = none → l.length < 1024) :
    Calls Try.prog 17 #[.pointer (some ⟨g, 0, none⟩), .int .i64 x, .int .i64 a] w fun e w' => e = .returned (.int .i64 0) ∧ Whl w' g b (setT l x a) T0 ∧ w.grownBy w' (some b) :=
  (set_ok g b l T0 w k x a hx h1 h2 hL).mono fun _ _ h => ⟨h.1, h.2.1 _ (setT_is l x a), h.2.2⟩
theorem only_grown {S : List Nat} {w w' : World} {b : Nat} (h : w.grownBy w' (some b)) (hb : b ∈ S) : Only S w w' := (Only.refl S w).grown h (fun k hk => by injection hk with hk; subst hk; exact .inl hb)
set_option maxHeartbeats 1000000 in
set_option maxRecDepth 10000 in
theorem awake_any (w : World) : Calls Try.prog 8 #[] w fun e w' => e = .returned (.bool true) ∧ Below w.heap.size w w' := by
  go_enter Try.func8, Try.ntmps8
  go_wp2_with fail
  refine (new_any _).mono ?_
  rintro e w1 ⟨g, b, rfl, hg, hb, k1, b1⟩
  have H1 := Lib.hid (And.intro k1 b1)
  have hs : ∀ S : List Nat, (∀ i ∈ S, i = g ∨ i = b) → ∀ i ∈ S, w.heap.size ≤ i := fun S h i hi => by rcases h i hi with rfl | rfl <;> assumption
  have HS := Lib.hid hs
  clear k1 b1 hs
  go_wp2_with fail
  refine (set_ok' g b [] 0 w1 H1.out.1 1 9 (by decide) (by decide) (by decide) (fun _ => by decide)).mono ?_
  rintro e w2 ⟨rfl, k2, g2⟩
  rw [show setT [] 1 9 = [(1, 9)] by decide] at k2
  have H2 := Lib.hid (And.intro k2 (bonly H1.out.2 (only_grown (S := [b]) g2 (by simp)) (HS.out _ (by simp))))
  clear k2 g2
  go_wp2_with fail
  refine (set_ok' g b [(1, 9)] 0 w2 H2.out.1 2 4 (by decide) (by decide) (by decide) (fun _ => by decide)).mono ?_
  rintro e w3 ⟨rfl, k3, g3⟩
  rw [show setT [(1, 9)] 2 4 = [(2, 4), (1, 9)] by decide] at k3
  have H3 := Lib.hid (And.intro k3 (bonly H2.out.2 (only_grown (S := [b]) g3 (by simp)) (HS.out _ (by simp))))
  clear k3 g3
  go_wp2_with fail
  refine (advance_any g b [(2, 4), (1, 9)] 0 5 w3 H3.out.1).mono ?_
  rintro e w4 ⟨A, c, rfl, hh, k4, o4⟩
  rw [show (clk 0 5) = 5 by decide] at hh k4 ⊢
  rw [show (dueT [(2, 4), (1, 9)] 5) = [(2, 4)] by decide] at hh k4 ⊢
  have H4 := Lib.hid (And.intro hh (And.intro k4 (bonly H3.out.2 o4 (HS.out _ (by simp)))))
  have hc := hh.2.1
  clear hh k4 o4
  have HI := Lib.hid (ints_eq A (some ⟨w4.heap.size, 0, none⟩) 1 1 c 1 [2] _ rfl rfl (H4.out.1.alloc (.cells #[.int .i64 2] 3)) (held_one w4 2) (by decide))
  have H5 : Hid (Whl (w4.alloc (.cells #[.int .i64 2] 3)) g b [(1, 9)] 5 ∧ Below w.heap.size w (w4.alloc (.cells #[.int .i64 2] 3))) := ⟨H4.out.2.1.alloc _, H4.out.2.2.alloc H4.out.2.2.size _⟩
  simp only [List.length_cons, List.length_nil, Nat.zero_add]
  go_wp2_with fail
  generalize w4.alloc (.cells #[.int .i64 2] 3) = w5 at *
  refine HI.out.mono ?_
  rintro e w6 ⟨rfl, q, rfl⟩
  have H6 := Lib.hid (And.intro (H5.out.1.drewN q) (below_drewN H5.out.2 q))
  generalize w5.drewN q = w6 at *
  go_wp2_with fail
  refine (next_some g b [(1, 9)] 5 w6 H6.out.1 (1, 9) [] rfl).mono ?_
  rintro e w7 ⟨rfl, b7⟩
  have H7 := Lib.hid (And.intro (H6.out.1.below b7) (H6.out.2.trans (b7.mono H6.out.2.size)))
  clear b7
  go_wp2_with fail
  refine (now_any g b [(1, 9)] 5 w7 H7.out.1).mono ?_
  rintro e w8 ⟨rfl, rfl⟩
  go_wp2_with fail
  refine (len_any g b [(1, 9)] 5 w7 H7.out.1).mono ?_
  rintro e w8 ⟨rfl, rfl⟩
  go_wp2_with fail
  go_ret
  exact ⟨rfl, H7.out.2⟩
end Go.Proofs.Ytjiodpbefimnlaa
