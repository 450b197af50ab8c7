/- The plain law of sharing: what the rounds come to. No program in sight. -/
namespace Go.Proofs.Ytodkifkphhfnpaa.SH

def sumF (f : Nat → Int) : Nat → Int
  | 0 => 0
  | n + 1 => sumF f n + f n

theorem sumF_congr {f g : Nat → Int} : ∀ (n : Nat), (∀ j, j < n → f j = g j) → sumF f n = sumF g n
  | 0, _ => rfl
  | n + 1, h => by simp only [sumF]; rw [sumF_congr n (fun j hj => h j (by omega)), h n (by omega)]
theorem sumF_le {f g : Nat → Int} : ∀ (n : Nat), (∀ j, j < n → f j ≤ g j) → sumF f n ≤ sumF g n
  | 0, _ => Int.le_refl _
  | n + 1, h => by
    have h1 := sumF_le n (fun j hj => h j (by omega))
    have h2 := h n (by omega)
    simp only [sumF]; omega
theorem sumF_lt {f g : Nat → Int} : ∀ (n : Nat), (∀ j, j < n → f j ≤ g j) → (i : Nat) → i < n → f i < g i → sumF f n < sumF g n
  | 0, _, i, hi, _ => by omega
  | n + 1, h, i, hi, hlt => by
    simp only [sumF]
    have h2 := h n (by omega)
    by_cases hin : i = n
    · subst hin
      have h1 := sumF_le i (fun j hj => h j (by omega))
      omega
    · have h1 := sumF_lt n (fun j hj => h j (by omega)) i (by omega) hlt
      omega
theorem sumF_nonneg {f : Nat → Int} (n : Nat) (h : ∀ j, j < n → 0 ≤ f j) : 0 ≤ sumF f n := by
  have : ∀ m : Nat, sumF (fun _ => 0) m = 0 := fun m => by induction m with
    | zero => rfl
    | succ m ih => simp [sumF, ih]
  have h1 := sumF_le (f := fun _ => 0) (g := f) n h
  rw [this] at h1
  exact h1
theorem sumF_add (f g : Nat → Int) : ∀ n, sumF (fun j => f j + g j) n = sumF f n + sumF g n
  | 0 => rfl
  | n + 1 => by simp only [sumF]; rw [sumF_add f g n]; omega
theorem sumF_mul (c : Int) (f : Nat → Int) : ∀ n, sumF (fun j => c * f j) n = c * sumF f n
  | 0 => by simp [sumF]
  | n + 1 => by simp only [sumF]; rw [sumF_mul c f n, Int.mul_add]
theorem sumF_pre {f : Nat → Int} {i : Nat} : ∀ (n : Nat), (∀ j, j < n → 0 ≤ f j) → i ≤ n → sumF f i ≤ sumF f n
  | 0, _, hi => by
    have : i = 0 := by omega
    subst this; exact Int.le_refl _
  | n + 1, h, hi => by
    by_cases hin : i = n + 1
    · subst hin; exact Int.le_refl _
    · have h1 := sumF_pre (i := i) n (fun j hj => h j (by omega)) (by omega)
      have h2 := h n (by omega)
      simp only [sumF]; omega
theorem sumF_get_le {f : Nat → Int} {i : Nat} (n : Nat) (h : ∀ j, j < n → 0 ≤ f j) (hi : i < n) : f i ≤ sumF f n := by
  have h1 := sumF_pre (i := i + 1) n h (by omega)
  have h2 := sumF_nonneg (f := f) i (fun j hj => h j (by omega))
  simp only [sumF] at h1
  omega
theorem sumF_const_le {f : Nat → Int} {c : Int} : ∀ (n : Nat), (∀ j, j < n → f j ≤ c) → sumF f n ≤ c * n
  | 0, _ => by simp [sumF]
  | n + 1, h => by
    have h1 := sumF_const_le n (fun j hj => h j (by omega))
    have h2 := h n (by omega)
    simp only [sumF]
    rw [show ((n + 1 : Nat) : Int) = (n : Int) + 1 by omega, Int.mul_add]
    omega

/-- n claims on the whole W: wants, weights. -/
structure Deal where
  n : Nat
  W : Int
  want : Nat → Int
  wt : Nat → Int

namespace Deal
variable (D : Deal)
structure Ok : Prop where
  w0 : 0 ≤ D.W
  want0 : ∀ j, j < D.n → 0 ≤ D.want j
  wt0 : ∀ j, j < D.n → 1 ≤ D.wt j

def left (h : Nat → Int) : Int := D.W - sumF h D.n
def uw (h : Nat → Int) (j : Nat) : Int := if h j < D.want j then D.wt j else 0
def all (h : Nat → Int) : Int := sumF (D.uw h) D.n
def part (h : Nat → Int) (i : Nat) : Int := D.left h * D.wt i / D.all h
def got (h : Nat → Int) (i : Nat) : Int := if h i < D.want i then min (D.part h i) (D.want i - h i) else 0
def next (h : Nat → Int) (i : Nat) : Int := h i + D.got h i
/-- What is left ahead of i, as one each is given. -/
def ol (h : Nat → Int) : Nat → Int
  | 0 => D.left h
  | i + 1 => if 0 < ol h i ∧ h i < D.want i then ol h i - 1 else ol h i
def ones (h : Nat → Int) (i : Nat) : Int := if 0 < D.ol h i ∧ h i < D.want i then h i + 1 else h i
def step (h : Nat → Int) : Nat → Int := if sumF (D.next h) D.n = sumF h D.n then D.ones h else D.next h
def stop (h : Nat → Int) : Prop := D.left h = 0 ∨ D.all h = 0
instance (h : Nat → Int) : Decidable (D.stop h) := by unfold stop; infer_instance
structure Inv (h : Nat → Int) : Prop where
  lo : ∀ j, j < D.n → 0 ≤ h j
  hi : ∀ j, j < D.n → h j ≤ D.want j
  le : sumF h D.n ≤ D.W

variable {D} {h : Nat → Int}
theorem Inv.left0 (I : D.Inv h) : 0 ≤ D.left h := by have := I.le; unfold left; omega
theorem Ok.uw0 (O : D.Ok) : ∀ j, j < D.n → 0 ≤ D.uw h j := fun j hj => by
  have := O.wt0 j hj
  unfold uw; split <;> omega
theorem Ok.all0 (O : D.Ok) : 0 ≤ D.all h := sumF_nonneg _ O.uw0
theorem part_nonneg (O : D.Ok) (I : D.Inv h) {i : Nat} (hi : i < D.n) : 0 ≤ D.part h i := by
  unfold part
  exact Int.ediv_nonneg (Int.mul_nonneg I.left0 (by have := O.wt0 i hi; omega)) O.all0
theorem got_nonneg (O : D.Ok) (I : D.Inv h) {i : Nat} (hi : i < D.n) : 0 ≤ D.got h i := by
  have := part_nonneg O I hi
  unfold got; split <;> omega
theorem got_mul_le (O : D.Ok) (I : D.Inv h) {i : Nat} (hi : i < D.n) : D.all h * (if h i < D.want i then D.part h i else 0) ≤ D.left h * D.uw h i := by
  unfold uw
  split
  · unfold part
    have := Int.mul_ediv_self_le (x := D.left h * D.wt i) (k := D.all h)
    rcases Int.lt_or_le 0 (D.all h) with h0 | h0
    · exact this (by omega)
    · have : D.all h = 0 := Int.le_antisymm h0 O.all0
      rw [this, Int.zero_mul]
      exact Int.mul_nonneg I.left0 (by have := O.wt0 i hi; omega)
  · simp
theorem part_sum (O : D.Ok) (I : D.Inv h) (hA : D.all h ≠ 0) : sumF (fun i => if h i < D.want i then D.part h i else 0) D.n ≤ D.left h := by
  have h1 := sumF_le (f := fun i => D.all h * (if h i < D.want i then D.part h i else 0)) (g := fun i => D.left h * D.uw h i) D.n (fun i hi => got_mul_le O I hi)
  rw [sumF_mul, sumF_mul] at h1
  have h2 : D.left h * sumF (D.uw h) D.n = D.all h * D.left h := by rw [Int.mul_comm]; rfl
  have h3 : sumF (fun j => D.uw h j) D.n = sumF (D.uw h) D.n := rfl
  rw [h3, h2] at h1
  have hp : 0 < D.all h := by have := O.all0 (h := h); omega
  exact Int.le_of_mul_le_mul_left h1 hp
theorem next_sum : sumF (D.next h) D.n = sumF h D.n + sumF (D.got h) D.n := sumF_add h (D.got h) D.n
/-- What was given ahead of i, and i's own part, is no more than what was left. -/
theorem pre_part (O : D.Ok) (I : D.Inv h) (hA : D.all h ≠ 0) {i : Nat} (hi : i < D.n) (hu : h i < D.want i) : sumF (D.got h) i + D.part h i ≤ D.left h := by
  have h1 := part_sum O I hA
  have h2 := sumF_pre (f := fun i => if h i < D.want i then D.part h i else 0) (i := i + 1) D.n (fun j hj => by
    have := part_nonneg O I hj
    split <;> omega) (by omega)
  have h3 := sumF_le (f := D.got h) (g := fun i => if h i < D.want i then D.part h i else 0) i (fun j hj => by
    have := part_nonneg O I (show j < D.n by omega)
    unfold got; split <;> omega)
  simp only [sumF] at h2
  rw [if_pos hu] at h2
  omega
theorem got_sum_le (O : D.Ok) (I : D.Inv h) (hA : D.all h ≠ 0) : sumF (D.got h) D.n ≤ D.left h := by
  have h1 := part_sum O I hA
  have h3 := sumF_le (f := D.got h) (g := fun i => if h i < D.want i then D.part h i else 0) D.n (fun j hj => by
    have := part_nonneg O I hj
    unfold got; split <;> omega)
  omega
theorem next_inv (O : D.Ok) (I : D.Inv h) (hA : D.all h ≠ 0) : D.Inv (D.next h) := by
  refine ⟨fun j hj => ?_, fun j hj => ?_, ?_⟩
  · have := I.lo j hj; have := got_nonneg O I hj; unfold next; omega
  · have := I.hi j hj; have := part_nonneg O I hj; unfold next got; split <;> omega
  · have := got_sum_le O I hA; rw [next_sum]; unfold left at this; omega
theorem next_same (O : D.Ok) (I : D.Inv h) (he : sumF (D.next h) D.n = sumF h D.n) : ∀ j, j < D.n → D.next h j = h j := by
  intro j hj
  rcases Int.lt_or_le (h j) (D.next h j) with hlt | hle
  · have := sumF_lt (f := h) (g := D.next h) D.n (fun k hk => by have := got_nonneg O I hk; unfold next; omega) j hj hlt
    omega
  · have := got_nonneg O I hj
    unfold next at hle ⊢; omega
theorem ol_nonneg (I : D.Inv h) : ∀ i, 0 ≤ D.ol h i
  | 0 => I.left0
  | i + 1 => by
    have := ol_nonneg I i
    simp only [ol]; split <;> omega
theorem ones_sum : ∀ i, sumF (D.ones h) i + D.ol h i = sumF h i + D.left h
  | 0 => by simp [sumF, ol]
  | i + 1 => by
    have := ones_sum i
    simp only [sumF, ol, ones]
    split <;> omega
theorem ones_inv (I : D.Inv h) : D.Inv (D.ones h) := by
  refine ⟨fun j hj => ?_, fun j hj => ?_, ?_⟩
  · have := I.lo j hj; unfold ones; split <;> omega
  · have := I.hi j hj; unfold ones; split <;> omega
  · have h1 := ones_sum (D := D) (h := h) D.n
    have h2 := ol_nonneg I D.n
    unfold left at h1
    omega
theorem all_unsat (hA : D.all h ≠ 0) : ∃ i, i < D.n ∧ h i < D.want i := by
  have key : ∀ n, sumF (D.uw h) n ≠ 0 → ∃ i, i < n ∧ h i < D.want i := by
    intro n
    induction n with
    | zero => intro h0; exact absurd rfl h0
    | succ n ih =>
      intro h0
      by_cases hu : h n < D.want n
      · exact ⟨n, by omega, hu⟩
      · have : sumF (D.uw h) n ≠ 0 := by
          intro e; apply h0; simp only [sumF, e]; unfold uw; rw [if_neg hu]; rfl
        obtain ⟨i, hi, hh⟩ := ih this
        exact ⟨i, by omega, hh⟩
  exact key D.n hA
theorem ol_mono : ∀ {i k : Nat}, i ≤ k → D.ol h k ≤ D.ol h i := by
  intro i k
  induction k with
  | zero => intro hk; have : i = 0 := by omega
            subst this; exact Int.le_refl _
  | succ k ih =>
    intro hk
    by_cases he : i = k + 1
    · subst he; exact Int.le_refl _
    · have := ih (by omega)
      simp only [ol]; split <;> omega
theorem ones_more (I : D.Inv h) (hl : D.left h ≠ 0) (hA : D.all h ≠ 0) : sumF h D.n < sumF (D.ones h) D.n := by
  obtain ⟨i, hi, hu⟩ := all_unsat hA
  have h1 := ones_sum (D := D) (h := h) D.n
  -- what is left at the end is less than what was left
  have key : D.ol h D.n < D.left h := by
    rcases Int.lt_or_le (D.ol h i) (D.left h) with hlt | hle
    · have := ol_mono (D := D) (h := h) (show i ≤ D.n by omega); omega
    · have h0 := I.left0
      have h2 := ol_mono (D := D) (h := h) (show 0 ≤ i by omega)
      have h3 := ol_mono (D := D) (h := h) (show i + 1 ≤ D.n by omega)
      have h4 : D.ol h 0 = D.left h := rfl
      have h5 : D.ol h (i + 1) = D.ol h i - 1 := by simp only [ol]; rw [if_pos ⟨by omega, hu⟩]
      omega
  omega
theorem step_inv (O : D.Ok) (I : D.Inv h) (hs : ¬ D.stop h) : D.Inv (D.step h) := by
  unfold step
  split
  · exact ones_inv I
  · exact next_inv O I (fun e => hs (.inr e))
theorem step_more (O : D.Ok) (I : D.Inv h) (hs : ¬ D.stop h) : sumF h D.n < sumF (D.step h) D.n := by
  unfold step
  split
  · exact ones_more I (fun e => hs (.inl e)) (fun e => hs (.inr e))
  · next he =>
    have h1 := sumF_le (f := h) (g := D.next h) D.n (fun k hk => by have := got_nonneg O I hk; unfold next; omega)
    omega
theorem step_left (O : D.Ok) (I : D.Inv h) (hs : ¬ D.stop h) : D.left (D.step h) < D.left h := by
  have := step_more O I hs
  unfold left; omega

/-- The rounds. -/
def it (D : Deal) : Nat → (Nat → Int)
  | 0 => fun _ => 0
  | k + 1 => D.step (it D k)
def At (D : Deal) (k : Nat) : Prop := ∀ j, j < k → ¬ D.stop (D.it j)
theorem At.inv (O : D.Ok) : ∀ {k : Nat}, D.At k → D.Inv (D.it k)
  | 0, _ => by
    have hz : ∀ n, sumF (fun _ => 0) n = 0 := fun n => by induction n with
      | zero => rfl
      | succ m ih => simp [sumF, ih]
    refine ⟨fun j _ => by simp [it], fun j hj => by simpa [it] using O.want0 j hj, ?_⟩
    show sumF (fun _ => 0) D.n ≤ D.W
    rw [hz]; exact O.w0
  | k + 1, h => step_inv O (At.inv O (fun j hj => h j (by omega))) (h k (by omega))
theorem At.succ {k : Nat} (h : D.At k) (hs : ¬ D.stop (D.it k)) : D.At (k + 1) := fun j hj => by
  by_cases e : j = k
  · subst e; exact hs
  · exact h j (by omega)
/-- Where the rounds end: one place alone. -/
def End (D : Deal) (h : Nat → Int) : Prop := ∃ k, D.At k ∧ D.stop (D.it k) ∧ h = D.it k
theorem End.one {h h' : Nat → Int} (e : D.End h) (e' : D.End h') : h = h' := by
  obtain ⟨k, a, s, rfl⟩ := e
  obtain ⟨k', a', s', rfl⟩ := e'
  rcases Nat.lt_trichotomy k k' with hh | hh | hh
  · exact absurd s (a' k hh)
  · rw [hh]
  · exact absurd s' (a k' hh)

/-! What the end is like. -/
def Strong (D : Deal) (h : Nat → Int) : Prop := ∀ i, i < D.n → h i < D.want i → ∀ k, k < D.n → D.wt k ≤ D.wt i → h k ≤ h i
def Weak (D : Deal) (h : Nat → Int) : Prop := ∀ i, i < D.n → h i < D.want i → ∀ k, k < D.n → D.wt k ≤ D.wt i → h k - 1 ≤ h i
theorem part_mono (O : D.Ok) (I : D.Inv h) {i k : Nat} (hw : D.wt k ≤ D.wt i) : D.part h k ≤ D.part h i := by
  unfold part
  rcases Int.lt_or_le 0 (D.all h) with h0 | h0
  · exact Int.ediv_le_ediv h0 (Int.mul_le_mul_of_nonneg_left hw I.left0)
  · have : D.all h = 0 := Int.le_antisymm h0 O.all0
    rw [this]; simp
theorem next_strong (O : D.Ok) (I : D.Inv h) (S : D.Strong h) : D.Strong (D.next h) := by
  intro i hi hu k hk hw
  have hpi := part_nonneg O I hi
  have hm := part_mono O I hw
  have hpk := part_nonneg O I hk
  have hu0 : h i < D.want i := by
    have := got_nonneg O I hi
    unfold next at hu; omega
  have := S i hi hu0 k hk hw
  unfold next got at hu ⊢
  rw [if_pos hu0] at hu ⊢
  split <;> omega
theorem ones_ran (hl : D.ol h D.n ≠ 0) (I : D.Inv h) {i : Nat} (hi : i < D.n) : D.ones h i = if h i < D.want i then h i + 1 else h i := by
  have h1 := ol_mono (D := D) (h := h) (show i ≤ D.n by omega)
  have h2 := ol_nonneg I D.n
  unfold ones
  have : 0 < D.ol h i := by omega
  simp [this]
theorem ones_left : D.left (D.ones h) = D.ol h D.n := by
  have h1 := ones_sum (D := D) (h := h) D.n
  unfold left at h1 ⊢; omega
theorem ones_strong (I : D.Inv h) (S : D.Strong h) (hl : D.left (D.ones h) ≠ 0) : D.Strong (D.ones h) := by
  rw [ones_left] at hl
  intro i hi hu k hk hw
  rw [ones_ran hl I hi] at hu ⊢
  rw [ones_ran hl I hk]
  by_cases hu0 : h i < D.want i
  · have := S i hi hu0 k hk hw
    rw [if_pos hu0]
    split <;> omega
  · rw [if_neg hu0] at hu; omega
theorem ones_weak (S : D.Strong h) : D.Weak (D.ones h) := by
  intro i hi hu k hk hw
  have hu0 : h i < D.want i := by unfold ones at hu; split at hu <;> omega
  have := S i hi hu0 k hk hw
  unfold ones; split <;> split <;> omega
theorem it_fair (O : D.Ok) : ∀ {k : Nat}, D.At k → D.Weak (D.it k) ∧ (D.left (D.it k) ≠ 0 → D.Strong (D.it k))
  | 0, _ => ⟨fun i _ _ k _ _ => by simp [it], fun _ i _ _ k _ _ => by simp [it]⟩
  | k + 1, hA => by
    have hA' : D.At k := fun j hj => hA j (by omega)
    have hs := hA k (by omega)
    have I := At.inv O hA'
    obtain ⟨_, hS⟩ := it_fair O hA'
    have S := hS (fun e => hs (.inl e))
    simp only [it, step]
    split
    · exact ⟨ones_weak S, fun hl => ones_strong I S hl⟩
    · have := next_strong O I S
      exact ⟨fun i hi hu k hk hw => by have := this i hi hu k hk hw; omega, fun _ => this⟩
theorem End.inv (O : D.Ok) (e : D.End h) : D.Inv h := by obtain ⟨k, a, s, rfl⟩ := e; exact At.inv O a
theorem End.fair (O : D.Ok) (e : D.End h) : D.Weak h := by obtain ⟨k, a, s, rfl⟩ := e; exact (it_fair O a).1
theorem all_zero (O : D.Ok) (I : D.Inv h) (hz : D.all h = 0) : ∀ j, j < D.n → h j = D.want j := by
  intro j hj
  have h1 := I.hi j hj
  by_cases hu : h j < D.want j
  · have h2 := sumF_get_le (f := D.uw h) D.n O.uw0 hj
    have h3 : sumF (D.uw h) D.n = 0 := hz
    rw [h3] at h2
    have := O.wt0 j hj
    unfold uw at h2; rw [if_pos hu] at h2; omega
  · omega
theorem End.sum (O : D.Ok) (e : D.End h) : sumF h D.n = min D.W (sumF D.want D.n) := by
  have I := e.inv O
  have h1 := sumF_le (f := h) (g := D.want) D.n I.hi
  have h2 := I.le
  obtain ⟨k, a, s, rfl⟩ := e
  rcases s with s | s
  · unfold left at s; omega
  · have := sumF_congr (f := D.it k) (g := D.want) D.n (all_zero O I s)
    omega
/-- Of equal weights, and wants that are never met. -/
theorem End.alike (O : D.Ok) (e : D.End h) (c : Int) (hw : ∀ j, j < D.n → D.want j = c) (v : Int) (hv : ∀ j, j < D.n → D.wt j = v) : ∀ i k, i < D.n → k < D.n → h k - 1 ≤ h i := by
  have I := e.inv O
  have F := e.fair O
  intro i k hi hk
  by_cases hu : h i < D.want i
  · exact F i hi hu k hk (by rw [hv i hi, hv k hk]; exact Int.le_refl _)
  · have := I.hi k hk
    rw [hw k hk] at this
    rw [hw i hi] at hu
    omega
end Deal
end Go.Proofs.Ytodkifkphhfnpaa.SH
