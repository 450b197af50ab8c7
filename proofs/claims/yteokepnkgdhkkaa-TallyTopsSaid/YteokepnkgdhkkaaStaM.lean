/- Plain law of the stable sort: two merges joined. -/
import Derived.Sort.Lot0
import Derived.Test.YteokepnkgdhkkaaStaL
namespace Go.Proofs.Yteokepnkgdhkkaa
open Go.Sort
set_option linter.unusedVariables false
theorem so_two {α : Type} {lt : α → α → Bool} {f : Nat → α} {a s mid : Nat} (h1 : So lt f a s) (h2 : So lt f s mid) (hs : a ≤ s) (hm : s ≤ mid) (h : ¬ (a < s ∧ s < mid)) : So lt f a mid := by
  by_cases e : a = s
  · rw [e]; exact h2
  · have e2 : s = mid := by omega
    rw [← e2]; exact h1
section
variable {α : Type} [Inhabited α] {lt : α → α → Bool}
theorem so_same {d d' : Array α} {a b p q : Nat} (h : PermIn p q d d') (hab : b ≤ p ∨ q ≤ a) (hs : So lt (at' d) a b) : So lt (at' d') a b := by
  intro i j hi hij hj
  unfold at'
  rw [h.2.1 i (by omega), h.2.1 j (by omega)]
  exact hs i j hi hij hj
theorem merges_join {d1 d2 d3 : Array α} {a mid b : Nat} (hb : b ≤ d1.size) (ham : a ≤ mid) (hmb : mid ≤ b) (hc : ∀ x y, a ≤ x → x < mid → mid ≤ y → y < b → lt (at' d1 y) (at' d1 x) = false)
    (p2 : PermIn a mid d1 d2) (s2 : So lt (at' d2) a mid) (p3 : PermIn mid b d2 d3) (s3 : So lt (at' d3) mid b) : So lt (at' d3) a b ∧ PermIn a b d1 d3 := by
  have hb2 : b ≤ d2.size := by rw [p2.1]; exact hb
  have c2 : ∀ x y, a ≤ x → x < mid → mid ≤ y → y < b → lt (at' d2 y) (at' d2 x) = false := by
    intro x y hx hxm hy hyb
    have e : at' d2 y = at' d1 y := p2.2.1 y (by omega)
    rw [e]
    exact permIn_all d1 d2 a mid (fun v => lt (at' d1 y) v = false) (by omega) p2 (fun i hi him => hc i y hi him hy hyb) x hx hxm
  have c3 : ∀ x y, a ≤ x → x < mid → mid ≤ y → y < b → lt (at' d3 y) (at' d3 x) = false := by
    intro x y hx hxm hy hyb
    have e : at' d3 x = at' d2 x := p3.2.1 x (by omega)
    rw [e]
    exact permIn_all d2 d3 mid b (fun v => lt v (at' d2 x) = false) hb2 p3 (fun i hi hib => c2 x i hx hxm hi hib) y hy hyb
  exact ⟨so_join (so_same p3 (.inl (Nat.le_refl _)) s2) s3 c3, permIn_trans _ _ _ a b (permIn_mono _ _ a mid a b (Nat.le_refl _) hmb hb p2) (permIn_mono _ _ mid b a b ham (Nat.le_refl _) hb2 p3)⟩
end
end Go.Proofs.Yteokepnkgdhkkaa
