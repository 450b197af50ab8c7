/- Plain law: in steps as at once. -/
import Derived.Test.YtjiodpbefimnlaaTimW
namespace Go.Proofs.Ytjiodpbefimnlaa
open Go.RowKit
set_option linter.unusedVariables false
/-- What was due at k is due still, what stands behind is not. -/
theorem due_split {l : List (Int × Int)} {k : Nat} {now : Int} (h1 : ∀ p ∈ l.take k, p.2 ≤ now) (h2 : ∀ p ∈ l.drop k, now < p.2) : dueT l now = l.take k := by
  unfold dueT
  have e : l = l.take k ++ l.drop k := (List.take_append_drop k l).symm
  have ht : ∀ p ∈ l.take k, decide (p.2 ≤ now) = true := fun p hp => decide_eq_true (h1 p hp)
  have hd := due_none now h2
  unfold dueT at hd
  conv => lhs; rw [e]
  rw [List.takeWhile_append_of_pos ht, hd, List.append_nil]
theorem take_due {l : List (Int × Int)} {k : Nat} (now : Int) : l.take (k + (dueT (l.drop k) now).length) = l.take k ++ dueT (l.drop k) now := by
  conv => rhs; rw [due_prefix (l.drop k) now]
  rw [List.take_add]
theorem take_le {l : List (Int × Int)} {k : Nat} {T now : Int} (h : ∀ p ∈ l.take k, p.2 ≤ T) (hT : T ≤ now) : ∀ p ∈ l.take (k + (dueT (l.drop k) now).length), p.2 ≤ now := by
  intro p hp
  rw [take_due] at hp
  rcases List.mem_append.1 hp with hp | hp
  · have := h p hp; omega
  · unfold dueT at hp
    have h2 := List.all_eq_true.1 (List.all_takeWhile (p := fun p : Int × Int => decide (p.2 ≤ now)) (l := l.drop k)) _ hp
    simpa using h2
theorem ids_append (a b : List (Int × Int)) : ids (a ++ b) = ids a ++ ids b := by simp [ids]
theorem whl_grown {w w' : World} {g b r : Nat} {l : List (Int × Int)} {T : Int} (k : Whl w g b l T) (h : w.grownBy w' (some r)) (h1 : g ≠ r) (h2 : b ≠ r) : Whl w' g b l T :=
  k.same (h.block g k.lt.1 (by simp; exact h1)) (h.block b k.lt.2 (by simp; exact h2))
theorem whl_only {w w' : World} {S : List Nat} {g b : Nat} {l : List (Int × Int)} {T : Int} (k : Whl w g b l T) (h : Only S w w') (h1 : g ∉ S) (h2 : b ∉ S) : Whl w' g b l T :=
  k.same (h.block g k.lt.1 h1) (h.block b k.lt.2 h2)
end Go.Proofs.Ytjiodpbefimnlaa
