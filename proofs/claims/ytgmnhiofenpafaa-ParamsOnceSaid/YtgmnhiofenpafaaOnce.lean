/- Applying settings twice is as once: a plain law. -/
import Derived.Test.YtgmnhiofenpafaaParams
namespace Go.Proofs.Ytgmnhiofenpafaa

/-- Does a list set number j? -/
def Has (j : Int) (L : List (Int × Int)) : Prop := ∃ p ∈ L, p.1 = j

theorem app_cons (x y z i v : Int) (r : List (Int × Int)) : app x y z ((i, v) :: r) = if v < 0 ∨ 2147483647 < v then ((0, 0, 0), 4) else app (setP x y z i v).1 (setP x y z i v).2.1 (setP x y z i v).2.2 r := rfl
theorem setP_1 (x y z v : Int) {i : Int} (h : ¬ i = 1) : (setP x y z i v).1 = x := by
  unfold setP; rw [if_neg h]; split
  · rfl
  · split <;> rfl
theorem setP_2 (x y z v : Int) {i : Int} (h : ¬ i = 2) : (setP x y z i v).2.1 = y := by
  unfold setP; split
  · rfl
  · split <;> rfl
theorem setP_3 (x y z v : Int) {i : Int} (h : ¬ i = 3) : (setP x y z i v).2.2 = z := by
  unfold setP; split
  · rfl
  · split <;> rfl

theorem app_append (L M : List (Int × Int)) : ∀ x y z : Int, app x y z (L ++ M) = if (app x y z L).2 = 0 then app (app x y z L).1.1 (app x y z L).1.2.1 (app x y z L).1.2.2 M else app x y z L := by
  induction L with
  | nil => intro x y z; simp [app]
  | cons p r ih =>
    intro x y z
    obtain ⟨i, v⟩ := p
    rw [List.cons_append, app_cons, app_cons]
    by_cases hv : v < 0 ∨ 2147483647 < v
    · simp [hv]
    · simp only [if_neg hv]
      exact ih _ _ _

/-- Settings that part only where the list sets come to the same. -/
theorem app_same (L : List (Int × Int)) : ∀ x y z x' y' z' : Int, (x = x' ∨ Has 1 L) → (y = y' ∨ Has 2 L) → (z = z' ∨ Has 3 L) → app x y z L = app x' y' z' L := by
  induction L with
  | nil =>
    intro x y z x' y' z' h1 h2 h3
    have hn : ∀ j, ¬ Has j [] := fun j h => by obtain ⟨p, hp, _⟩ := h; cases hp
    rcases h1 with rfl | h1
    · rcases h2 with rfl | h2
      · rcases h3 with rfl | h3
        · rfl
        · exact absurd h3 (hn _)
      · exact absurd h2 (hn _)
    · exact absurd h1 (hn _)
  | cons p r ih =>
    intro x y z x' y' z' h1 h2 h3
    obtain ⟨i, v⟩ := p
    have hc : ∀ j, Has j ((i, v) :: r) → i = j ∨ Has j r := by
      rintro j ⟨q, hq, rfl⟩
      rcases List.mem_cons.1 hq with rfl | hq
      · exact .inl rfl
      · exact .inr ⟨q, hq, rfl⟩
    rw [app_cons, app_cons]
    by_cases hv : v < 0 ∨ 2147483647 < v
    · simp [hv]
    · simp only [if_neg hv]
      refine ih _ _ _ _ _ _ ?_ ?_ ?_
      · by_cases e1 : i = 1
        · left; simp [setP, e1]
        · rcases h1 with rfl | h1
          · left; rw [setP_1 _ _ _ _ e1, setP_1 _ _ _ _ e1]
          · rcases hc 1 h1 with h | h
            · exact absurd h e1
            · exact .inr h
      · by_cases e1 : i = 2
        · left; simp [setP, e1]
        · rcases h2 with rfl | h2
          · left; rw [setP_2 _ _ _ _ e1, setP_2 _ _ _ _ e1]
          · rcases hc 2 h2 with h | h
            · exact absurd h e1
            · exact .inr h
      · by_cases e1 : i = 3
        · left; simp [setP, e1]
        · rcases h3 with rfl | h3
          · left; rw [setP_3 _ _ _ _ e1, setP_3 _ _ _ _ e1]
          · rcases hc 3 h3 with h | h
            · exact absurd h e1
            · exact .inr h

/-- What a list does not set stays. -/
theorem app_keeps (L : List (Int × Int)) : ∀ x y z : Int, (app x y z L).2 = 0 → (x = (app x y z L).1.1 ∨ Has 1 L) ∧ (y = (app x y z L).1.2.1 ∨ Has 2 L) ∧ (z = (app x y z L).1.2.2 ∨ Has 3 L) := by
  induction L with
  | nil => intro x y z _; simp [app]
  | cons p r ih =>
    intro x y z h
    obtain ⟨i, v⟩ := p
    have hc : ∀ j, i = j ∨ Has j r → Has j ((i, v) :: r) := by
      rintro j (rfl | ⟨q, hq, rfl⟩)
      · exact ⟨(i, v), by simp, rfl⟩
      · exact ⟨q, by simp [hq], rfl⟩
    rw [app_cons] at h ⊢
    by_cases hv : v < 0 ∨ 2147483647 < v
    · simp [hv] at h
    · simp only [if_neg hv] at h ⊢
      obtain ⟨h1, h2, h3⟩ := ih _ _ _ h
      refine ⟨?_, ?_, ?_⟩
      · by_cases e1 : i = 1
        · exact .inr (hc 1 (.inl e1))
        · rcases h1 with h1 | h1
          · left; rw [← h1, setP_1 _ _ _ _ e1]
          · exact .inr (hc 1 (.inr h1))
      · by_cases e1 : i = 2
        · exact .inr (hc 2 (.inl e1))
        · rcases h2 with h1 | h1
          · left; rw [← h1, setP_2 _ _ _ _ e1]
          · exact .inr (hc 2 (.inr h1))
      · by_cases e1 : i = 3
        · exact .inr (hc 3 (.inl e1))
        · rcases h3 with h1 | h1
          · left; rw [← h1, setP_3 _ _ _ _ e1]
          · exact .inr (hc 3 (.inr h1))

theorem app_twice (x y z : Int) (L : List (Int × Int)) : app x y z (L ++ L) = app x y z L := by
  rw [app_append]
  split
  · next h =>
    obtain ⟨h1, h2, h3⟩ := app_keeps L x y z h
    exact app_same L _ _ _ _ _ _ (h1.imp Eq.symm id) (h2.imp Eq.symm id) (h3.imp Eq.symm id)
  · rfl
end Go.Proofs.Ytgmnhiofenpafaa
