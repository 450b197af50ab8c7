/- Plain law of the stable sort: ranges exchanged, blocks rotated, two sorted blocks merged by a rotation and two merges. -/
import Derived.Sort.LotA
namespace Go.Proofs.Yteokepnkgdhkkaa
open Go.Sort
set_option linter.unusedVariables false
variable {α : Type} {lt : α → α → Bool}
/-- What stands at x when n places from p are exchanged with n from q. -/
def swF (f : Nat → α) (p q n x : Nat) : α := if p ≤ x ∧ x < p + n then f (q + (x - p)) else if q ≤ x ∧ x < q + n then f (p + (x - q)) else f x
/-- What stands at x when the blocks [a, m) and [m, b) change places. -/
def rotF (f : Nat → α) (a m b x : Nat) : α := if a ≤ x ∧ x < b then (if x < a + (b - m) then f (m + (x - a)) else f (x - (b - m))) else f x
def at' [Inhabited α] (d : Array α) (i : Nat) : α := d[i]!
theorem sw_zero (f : Nat → α) (p q x : Nat) : swF f p q 0 x = f x := by
  unfold swF
  rw [if_neg (by omega), if_neg (by omega)]
theorem sw_step [Inhabited α] {d dk : Array α} {p q n : Nat} (h : ∀ x, at' dk x = swF (at' d) p q n x) (hpq : p + n < q) (hq : q + n < dk.size) (x : Nat) :
    at' (swp dk (p + n) (q + n)) x = swF (at' d) p q (n + 1) x := by
  unfold at' at *
  rw [swp_get dk (by omega) hq x]
  have h1 := h (q + n)
  have h2 := h (p + n)
  have h3 := h x
  unfold swF at *
  by_cases e1 : x = q + n
  · subst e1
    rw [if_neg (show ¬ (p ≤ q + n ∧ q + n < p + (n + 1)) by omega), if_pos (show q ≤ q + n ∧ q + n < q + (n + 1) by omega)]
    rw [if_neg (show ¬ (p ≤ p + n ∧ p + n < p + n) by omega), if_neg (show ¬ (q ≤ p + n ∧ p + n < q + n) by omega)] at h2
    rw [if_pos rfl, h2]
    exact congrArg (fun i => d[i]!) (by omega)
  · by_cases e2 : x = p + n
    · subst e2
      rw [if_pos (show p ≤ p + n ∧ p + n < p + (n + 1) by omega)]
      rw [if_neg (show ¬ (p ≤ q + n ∧ q + n < p + n) by omega), if_neg (show ¬ (q ≤ q + n ∧ q + n < q + n) by omega)] at h1
      rw [if_neg e1, if_pos rfl, h1]
      exact congrArg (fun i => d[i]!) (by omega)
    · rw [if_neg e1, if_neg e2, h3]
      by_cases c1 : p ≤ x ∧ x < p + n
      · rw [if_pos c1, if_pos (show p ≤ x ∧ x < p + (n + 1) by omega)]
      · rw [if_neg c1, if_neg (show ¬ (p ≤ x ∧ x < p + (n + 1)) by omega)]
        by_cases c2 : q ≤ x ∧ x < q + n
        · rw [if_pos c2, if_pos (show q ≤ x ∧ x < q + (n + 1) by omega)]
        · rw [if_neg c2, if_neg (show ¬ (q ≤ x ∧ x < q + (n + 1)) by omega)]
/-- The three rounds of a rotation. -/
theorem rot_more (f : Nat → α) (m i j x : Nat) (him : i ≤ m) (hij : j < i) : rotF (swF f (m - i) m j) (m - i + j) m (m + j) x = rotF f (m - i) m (m + j) x := by
  unfold rotF swF
  repeat' split
  all_goals first | (exfalso; omega) | exact congrArg f (by omega)
theorem rot_less (f : Nat → α) (m i j x : Nat) (him : i ≤ m) (hij : i < j) : rotF (swF f (m - i) (m + j - i) i) (m - i) m (m + (j - i)) x = rotF f (m - i) m (m + j) x := by
  unfold rotF swF
  repeat' split
  all_goals first | (exfalso; omega) | exact congrArg f (by omega)
theorem rot_same (f : Nat → α) (m i x : Nat) (him : i ≤ m) : swF f (m - i) m i x = rotF f (m - i) m (m + i) x := by
  unfold rotF swF
  repeat' split
  all_goals first | (exfalso; omega) | exact congrArg f (by omega)
theorem rot_none1 (f : Nat → α) (m b x : Nat) : rotF f m m b x = f x := by
  unfold rotF
  repeat' split
  all_goals first | (exfalso; omega) | exact congrArg f (by omega) | rfl
theorem rot_none2 (f : Nat → α) (a m x : Nat) : rotF f a m m x = f x := by
  unfold rotF
  repeat' split
  all_goals first | (exfalso; omega) | exact congrArg f (by omega) | rfl
/-- One element carried up, step by step. -/
theorem rot_up [Inhabited α] {d dk : Array α} {a k : Nat} (h : ∀ x, at' dk x = rotF (at' d) a (a + 1) (k + 1) x) (hak : a ≤ k) (hk : k + 1 < dk.size) (x : Nat) :
    at' (swp dk k (k + 1)) x = rotF (at' d) a (a + 1) (k + 2) x := by
  unfold at' at *
  rw [swp_get dk (by omega) hk x, h k, h (k + 1), h x]
  unfold rotF
  repeat' split
  all_goals first | (exfalso; omega) | exact congrArg (fun i => d[i]!) (by omega)
/-- One element carried down, step by step. -/
theorem rot_down [Inhabited α] {d dk : Array α} {m k : Nat} (h : ∀ x, at' dk x = rotF (at' d) (k + 1) m (m + 1) x) (hkm : k + 1 ≤ m) (hm : m < dk.size) (x : Nat) :
    at' (swp dk (k + 1) k) x = rotF (at' d) k m (m + 1) x := by
  unfold at' at *
  rw [swp_get dk (by omega) (by omega) x, h k, h (k + 1), h x]
  unfold rotF
  repeat' split
  all_goals first | (exfalso; omega) | exact congrArg (fun i => d[i]!) (by omega)
/-- Rising from a to b. -/
def So (lt : α → α → Bool) (f : Nat → α) (a b : Nat) : Prop := ∀ i j, a ≤ i → i < j → j < b → lt (f j) (f i) = false
theorem le_of_so (hO : SWO lt) {f : Nat → α} {a b : Nat} (h : So lt f a b) {i j : Nat} (hi : a ≤ i) (hij : i ≤ j) (hj : j < b) : lt (f j) (f i) = false := by
  rcases Nat.lt_or_ge i j with h1 | h1
  · exact h i j hi h1 hj
  · obtain rfl : i = j := by omega
    exact hO.irrefl _
/-- x before y, y before z. -/
theorem lf_trans (hO : SWO lt) {x y z : α} (h1 : lt y x = false) (h2 : lt z y = false) : lt z x = false := hO.ntrans z y x h2 h1
theorem lf_of_lt (hO : SWO lt) {x y : α} (h : lt x y = true) : lt y x = false := by
  cases h2 : lt y x with
  | false => rfl
  | true =>
    have := hO.trans x y x h h2
    rw [hO.irrefl] at this
    cases this
/-- One element laid into a sorted block behind it. -/
theorem insert_up (hO : SWO lt) {f : Nat → α} {a i b : Nat} (hai : a + 1 ≤ i) (hib : i ≤ b) (hs : So lt f (a + 1) b) (h1 : ∀ x, a + 1 ≤ x → x < i → lt (f x) (f a) = true) (h2 : ∀ x, i ≤ x → x < b → lt (f x) (f a) = false) :
    So lt (rotF f a (a + 1) i) a b := by
  intro x y hx hxy hy
  unfold rotF
  repeat' split
  all_goals first
    | (exfalso; omega)
    | exact hs _ _ (by omega) (by omega) (by omega)
    | (rw [show y - (i - (a + 1)) = a by omega]; exact lf_of_lt hO (h1 _ (by omega) (by omega)))
    | (rw [show x - (i - (a + 1)) = a by omega]; exact h2 _ (by omega) (by omega))
theorem insert_down (hO : SWO lt) {f : Nat → α} {a i m : Nat} (hai : a ≤ i) (him : i ≤ m) (hs : So lt f a m) (h1 : ∀ x, a ≤ x → x < i → lt (f m) (f x) = false) (h2 : ∀ x, i ≤ x → x < m → lt (f m) (f x) = true) :
    So lt (rotF f i m (m + 1)) a (m + 1) := by
  intro x y hx hxy hy
  unfold rotF
  repeat' split
  all_goals first
    | (exfalso; omega)
    | exact hs _ _ (by omega) (by omega) (by omega)
    | (rw [show m + (y - i) = m by omega]; exact h1 _ (by omega) (by omega))
    | (rw [show m + (x - i) = m by omega]; exact lf_of_lt hO (h2 _ (by omega) (by omega)))
theorem lo_step (hO : SWO lt) {f : Nat → α} {m b q : Nat} {v : α} (hs : So lt f m b) (hq : q < b) (hv : lt (f q) v = true) : ∀ x, m ≤ x → x ≤ q → lt (f x) v = true := by
  intro x hx hxq
  cases h : lt (f x) v with
  | true => rfl
  | false =>
    have := hO.ntrans (f q) (f x) v (le_of_so hO hs hx hxq hq) h
    rw [hv] at this
    cases this
theorem hi_step (hO : SWO lt) {f : Nat → α} {m b q : Nat} {v : α} (hs : So lt f m b) (hq : m ≤ q) (hv : lt (f q) v = false) : ∀ x, q ≤ x → x < b → lt (f x) v = false :=
  fun x hx hxb => hO.ntrans (f x) (f q) v (le_of_so hO hs hq hx hxb) hv
theorem lo_step2 (hO : SWO lt) {f : Nat → α} {a m q : Nat} {v : α} (hs : So lt f a m) (hq : q < m) (hv : lt v (f q) = false) : ∀ x, a ≤ x → x ≤ q → lt v (f x) = false :=
  fun x hx hxq => hO.ntrans v (f q) (f x) hv (le_of_so hO hs hx hxq hq)
theorem hi_step2 (hO : SWO lt) {f : Nat → α} {a m q : Nat} {v : α} (hs : So lt f a m) (hq : a ≤ q) (hv : lt v (f q) = true) : ∀ x, q ≤ x → x < m → lt v (f x) = true := by
  intro x hx hxm
  cases h : lt v (f x) with
  | true => rfl
  | false =>
    have := hO.ntrans v (f x) (f q) h (le_of_so hO hs hq hx hxm)
    rw [hv] at this
    cases this
/-- Behind a rotation about s and e: both halves are two sorted blocks each, and no element of the second half is less than one of the first. -/
theorem halves (hO : SWO lt) {f : Nat → α} {a m b s e mid : Nat} (ham : a ≤ s) (hsm : s ≤ m) (hme : m ≤ e) (heb : e ≤ b) (hmid : mid = s + (e - m)) (h1 : So lt f a m) (h2 : So lt f m b)
    (hP : ∀ x y, a ≤ x → x < s → e ≤ y → y < b → lt (f y) (f x) = false) (hQ : ∀ x y, m ≤ x → x < e → s ≤ y → y < m → lt (f y) (f x) = false) :
    So lt (rotF f s m e) a s ∧ So lt (rotF f s m e) s mid ∧ So lt (rotF f s m e) mid e ∧ So lt (rotF f s m e) e b ∧ ∀ x y, a ≤ x → x < mid → mid ≤ y → y < b → lt (rotF f s m e y) (rotF f s m e x) = false := by
  subst hmid
  have g1 : ∀ x, x < s → rotF f s m e x = f x := fun x hx => by unfold rotF; rw [if_neg (by omega)]
  have g2 : ∀ x, s ≤ x → x < s + (e - m) → rotF f s m e x = f (m + (x - s)) := fun x h1 h2 => by unfold rotF; rw [if_pos (by omega), if_pos h2]
  have g3 : ∀ x, s + (e - m) ≤ x → x < e → rotF f s m e x = f (x - (e - m)) := fun x h1 h2 => by unfold rotF; rw [if_pos (by omega), if_neg (by omega)]
  have g4 : ∀ x, e ≤ x → rotF f s m e x = f x := fun x hx => by unfold rotF; rw [if_neg (by omega)]
  refine ⟨fun i j hi hij hj => ?_, fun i j hi hij hj => ?_, fun i j hi hij hj => ?_, fun i j hi hij hj => ?_, fun x y hx hxm hy hyb => ?_⟩
  · rw [g1 i (by omega), g1 j hj]
    exact h1 i j hi hij (by omega)
  · rw [g2 i hi (by omega), g2 j (by omega) hj]
    exact h2 _ _ (by omega) (by omega) (by omega)
  · rw [g3 i hi (by omega), g3 j (by omega) hj]
    exact h1 _ _ (by omega) (by omega) (by omega)
  · rw [g4 i hi, g4 j (by omega)]
    exact h2 i j (by omega) hij hj
  · rcases Nat.lt_or_ge x s with hxs | hxs <;> rcases Nat.lt_or_ge y e with hye | hye
    · rw [g1 x hxs, g3 y hy hye]
      exact h1 _ _ hx (by omega) (by omega)
    · rw [g1 x hxs, g4 y hye]
      exact hP x y hx hxs hye hyb
    · rw [g2 x hxs hxm, g3 y hy hye]
      exact hQ _ _ (by omega) (by omega) (by omega) (by omega)
    · rw [g2 x hxs hxm, g4 y hye]
      exact h2 _ _ (by omega) (by omega) hyb
/-- What the search for the middle finds. -/
theorem search_P (hO : SWO lt) {f : Nat → α} {a m b s e p s0 : Nat} (h1 : So lt f a m) (h2 : So lt f m b) (has : a ≤ s0) (hss : s0 ≤ s) (hsm : s ≤ m) (hp : p + 1 = s + e) (hme : m ≤ e)
    (h0 : s = s0 → (a = s0 ∨ b ≤ e)) (hl : s0 < s → lt (f (p - (s - 1))) (f (s - 1)) = false) : ∀ x y, a ≤ x → x < s → e ≤ y → y < b → lt (f y) (f x) = false := by
  intro x y hx hxs hy hyb
  rcases Nat.lt_or_ge s0 s with hlt | hge
  · have h3 := hl hlt
    rw [show p - (s - 1) = e by omega] at h3
    have h4 := le_of_so hO h1 hx (show x ≤ s - 1 by omega) (by omega)
    have h5 := le_of_so hO h2 hme hy hyb
    exact lf_trans hO (lf_trans hO h4 h3) h5
  · rcases h0 (by omega) with h | h <;> omega
theorem search_Q (hO : SWO lt) {f : Nat → α} {a m b s e p r0 : Nat} (h1 : So lt f a m) (h2 : So lt f m b) (has : a ≤ s) (hsr : s ≤ r0) (hrm : r0 ≤ m) (hp : p + 1 = s + e) (heb : e ≤ b)
    (h0 : s = r0 → (s = m ∨ e ≤ m)) (hl : s < r0 → lt (f (p - s)) (f s) = true) : ∀ x y, m ≤ x → x < e → s ≤ y → y < m → lt (f y) (f x) = false := by
  intro x y hx hxe hy hym
  rcases Nat.lt_or_ge s r0 with hlt | hge
  · have h3 := lf_of_lt hO (hl hlt)
    rw [show p - s = e - 1 by omega] at h3
    have h4 := le_of_so hO h2 hx (show x ≤ e - 1 by omega) (by omega)
    have h5 := le_of_so hO h1 has hy hym
    exact lf_trans hO (lf_trans hO h4 h3) h5
  · rcases h0 (by omega) with h | h <;> omega
/-- Two sorted halves, none of the second less than one of the first. -/
theorem so_join {f : Nat → α} {a c b : Nat} (h1 : So lt f a c) (h2 : So lt f c b) (hc : ∀ x y, a ≤ x → x < c → c ≤ y → y < b → lt (f y) (f x) = false) : So lt f a b := by
  intro i j hi hij hj
  rcases Nat.lt_or_ge j c with h | h
  · exact h1 i j hi hij h
  · rcases Nat.lt_or_ge i c with h3 | h3
    · exact hc i j hi h3 h hj
    · exact h2 i j h3 hij hj
end Go.Proofs.Yteokepnkgdhkkaa
