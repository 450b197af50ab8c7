/- Plain law of timers: rows of (number, tick), sorted by tick, then by number. -/
import Derived.Test.YtjiodpbefimnlaaMaps
namespace Go.Proofs.Ytjiodpbefimnlaa
set_option linter.unusedVariables false
def tmLt (p q : Int × Int) : Prop := p.2 < q.2 ∨ (p.2 = q.2 ∧ p.1 < q.1)
instance (p q : Int × Int) : Decidable (tmLt p q) := by unfold tmLt; infer_instance
theorem tmLt_irrefl (p : Int × Int) : ¬ tmLt p p := by unfold tmLt; omega
theorem tmLt_trans {p q r : Int × Int} (h : tmLt p q) (k : tmLt q r) : tmLt p r := by unfold tmLt at *; omega
theorem tmLt_tri (p q : Int × Int) : tmLt p q ∨ p = q ∨ tmLt q p := by
  obtain ⟨a, b⟩ := p
  obtain ⟨c, d⟩ := q
  unfold tmLt
  simp only [Prod.mk.injEq]
  omega
/-- Sorted, each number once. -/
def Sd (l : List (Int × Int)) : Prop := l.Pairwise tmLt ∧ l.Pairwise (fun p q => p.1 ≠ q.1)
def getT (l : List (Int × Int)) (i : Int) : Option Int := (l.find? (fun p => decide (p.1 = i))).map (·.2)
def stopT (l : List (Int × Int)) (i : Int) : List (Int × Int) := l.filter (fun p => decide (p.1 ≠ i))
def dueT (l : List (Int × Int)) (now : Int) : List (Int × Int) := l.takeWhile (fun p => decide (p.2 ≤ now))
theorem Sd.nil : Sd [] := ⟨List.Pairwise.nil, List.Pairwise.nil⟩
theorem Sd.sub {l l' : List (Int × Int)} (h : Sd l) (s : l'.Sublist l) : Sd l' := ⟨h.1.sublist s, h.2.sublist s⟩
theorem Sd.stop {l : List (Int × Int)} (h : Sd l) (i : Int) : Sd (stopT l i) := h.sub List.filter_sublist
theorem Sd.drop {l : List (Int × Int)} (h : Sd l) (k : Nat) : Sd (l.drop k) := h.sub (List.drop_sublist k l)
theorem getT_nil (i : Int) : getT [] i = none := rfl
theorem getT_cons (p : Int × Int) (l : List (Int × Int)) (i : Int) : getT (p :: l) i = if p.1 = i then some p.2 else getT l i := by
  unfold getT
  by_cases h : p.1 = i <;> simp [h]
theorem getT_mem {l : List (Int × Int)} {i a : Int} (h : getT l i = some a) : (i, a) ∈ l := by
  induction l with
  | nil => cases h
  | cons p r ih =>
    rw [getT_cons] at h
    split at h
    · next e =>
      injection h with h
      obtain ⟨x, y⟩ := p
      simp only at e h
      rw [e, h]
      exact List.mem_cons_self
    · exact List.mem_cons_of_mem _ (ih h)
theorem getT_of_mem {l : List (Int × Int)} (hs : l.Pairwise (fun p q => p.1 ≠ q.1)) {i a : Int} (h : (i, a) ∈ l) : getT l i = some a := by
  induction l with
  | nil => cases h
  | cons p r ih =>
    rw [getT_cons]
    cases hs with
    | cons h1 h2 =>
      rcases List.mem_cons.1 h with e | hm
      · rw [← e, if_pos rfl]
      · rw [if_neg (h1 _ hm), ih h2 hm]
theorem getT_iff {l : List (Int × Int)} (hs : l.Pairwise (fun p q => p.1 ≠ q.1)) (i a : Int) : getT l i = some a ↔ (i, a) ∈ l := ⟨getT_mem, getT_of_mem hs⟩
theorem getT_none {l : List (Int × Int)} {i : Int} : getT l i = none ↔ ∀ p ∈ l, p.1 ≠ i := by
  unfold getT
  simp
theorem getT_ext {l l' : List (Int × Int)} (hs : l.Pairwise (fun p q => p.1 ≠ q.1)) (hs' : l'.Pairwise (fun p q => p.1 ≠ q.1)) (h : ∀ p, p ∈ l ↔ p ∈ l') (i : Int) : getT l i = getT l' i := by
  cases e : getT l i with
  | none =>
    symm
    rw [getT_none] at e ⊢
    intro p hp
    exact e p ((h p).2 hp)
  | some a =>
    rw [getT_iff hs] at e
    symm
    exact getT_of_mem hs' ((h _).1 e)
theorem getT_stop (l : List (Int × Int)) (i j : Int) : getT (stopT l i) j = upd (getT l) i none j := by
  unfold upd stopT
  induction l with
  | nil => simp [getT_nil]
  | cons p r ih =>
    rw [List.filter_cons]
    by_cases h : p.1 = i
    · rw [if_neg (by simp [h]), ih, getT_cons]
      by_cases hj : j = i
      · simp [hj]
      · rw [if_neg hj, if_neg hj, if_neg (by omega)]
    · rw [if_pos (by simp [h]), getT_cons, getT_cons, ih]
      by_cases hj : j = i
      · subst hj; simp [h]
      · rw [if_neg hj, if_neg hj]
theorem length_stop {l : List (Int × Int)} (hs : l.Pairwise (fun p q => p.1 ≠ q.1)) (i : Int) : (stopT l i).length = if (getT l i).isSome then l.length - 1 else l.length := by
  induction l with
  | nil => rfl
  | cons p r ih =>
    cases hs with
    | cons h1 h2 =>
      have ih := ih h2
      unfold stopT at *
      rw [List.filter_cons, getT_cons]
      by_cases h : p.1 = i
      · rw [if_neg (by simp [h]), if_pos h]
        have : r.filter (fun p => decide (p.1 ≠ i)) = r := List.filter_eq_self.2 fun q hq => by
          have := h1 q hq
          simp; omega
        rw [this]
        simp
      · rw [if_pos (by simp [h]), if_neg h, List.length_cons, ih]
        by_cases hg : (getT r i).isSome = true
        · rw [if_pos hg, if_pos hg, List.length_cons]
          have : 0 < r.length := by
            cases r with
            | nil => simp [getT_nil] at hg
            | cons q s => simp
          omega
        · rw [if_neg hg, if_neg hg, List.length_cons]
theorem stop_head {p : Int × Int} {r : List (Int × Int)} (hs : (p :: r).Pairwise (fun p q => p.1 ≠ q.1)) : stopT (p :: r) p.1 = r := by
  cases hs with
  | cons h1 h2 =>
    unfold stopT
    rw [List.filter_cons, if_neg (by simp)]
    exact List.filter_eq_self.2 fun q hq => by have := h1 q hq; simp; omega
theorem stop_none {l : List (Int × Int)} {i : Int} (h : getT l i = none) : stopT l i = l := by
  rw [getT_none] at h
  exact List.filter_eq_self.2 fun q hq => by have := h q hq; simp [this]
/-- How many stand ahead. -/
def AheadT (l : List (Int × Int)) (p : Int × Int) (k : Nat) : Prop := k ≤ l.length ∧ (∀ (j : Nat) (hj : j < l.length), j < k → tmLt l[j] p) ∧ (∀ (h : k < l.length), ¬ tmLt l[k] p)
def insT (l : List (Int × Int)) (k : Nat) (p : Int × Int) : List (Int × Int) := l.take k ++ p :: l.drop k
theorem insT_mem {l : List (Int × Int)} {k : Nat} {p q : Int × Int} : q ∈ insT l k p ↔ q = p ∨ q ∈ l := by
  unfold insT
  rw [List.mem_append, List.mem_cons]
  constructor
  · rintro (h | h | h)
    · exact .inr (List.mem_of_mem_take h)
    · exact .inl h
    · exact .inr (List.mem_of_mem_drop h)
  · rintro (h | h)
    · exact .inr (.inl h)
    · have : q ∈ l.take k ++ l.drop k := by rw [List.take_append_drop]; exact h
      rcases List.mem_append.1 this with h | h
      · exact .inl h
      · exact .inr (.inr h)
theorem insT_length {l : List (Int × Int)} {k : Nat} {p : Int × Int} (hk : k ≤ l.length) : (insT l k p).length = l.length + 1 := by
  unfold insT
  simp
  omega
theorem Sd.ins {l : List (Int × Int)} (h : Sd l) {i a : Int} (hn : getT l i = none) {k : Nat} (hk : AheadT l (i, a) k) : Sd (insT l k (i, a)) := by
  obtain ⟨h1, h2⟩ := h
  obtain ⟨k1, k2, k3⟩ := hk
  rw [getT_none] at hn
  have hl : l.take k ++ l.drop k = l := List.take_append_drop k l
  have hb : ∀ q ∈ l.take k, tmLt q (i, a) := by
    intro q hq
    obtain ⟨j, hj, rfl⟩ := List.mem_iff_getElem.1 hq
    rw [List.length_take] at hj
    rw [List.getElem_take]
    exact k2 j (by omega) (by omega)
  have ha : ∀ q ∈ l.drop k, tmLt (i, a) q := by
    intro q hq
    obtain ⟨j, hj, rfl⟩ := List.mem_iff_getElem.1 hq
    rw [List.length_drop] at hj
    rw [List.getElem_drop]
    have hkl : k < l.length := by omega
    have hx : tmLt (i, a) l[k] := by
      rcases tmLt_tri (i, a) l[k] with h | h | h
      · exact h
      · exact absurd (by rw [← h]) (hn l[k] (List.getElem_mem _))
      · exact absurd h (k3 hkl)
    rcases Nat.eq_zero_or_pos j with h0 | h0
    · subst h0; exact hx
    · exact tmLt_trans hx (List.pairwise_iff_getElem.1 h1 k (k + j) hkl (by omega) (by omega))
  refine ⟨?_, ?_⟩
  · unfold insT
    rw [List.pairwise_append, List.pairwise_cons]
    rw [← hl, List.pairwise_append] at h1
    refine ⟨h1.1, ⟨ha, h1.2.1⟩, fun x hx y hy => ?_⟩
    rcases List.mem_cons.1 hy with rfl | hy
    · exact hb x hx
    · exact h1.2.2 x hx y hy
  · unfold insT
    rw [List.pairwise_append, List.pairwise_cons]
    have h2' := h2
    rw [← hl, List.pairwise_append] at h2'
    refine ⟨h2'.1, ⟨fun q hq => Ne.symm (hn q (List.mem_of_mem_drop hq)), h2'.2.1⟩, fun x hx y hy => ?_⟩
    rcases List.mem_cons.1 hy with rfl | hy
    · exact hn x (List.mem_of_mem_take hx)
    · exact h2'.2.2 x hx y hy
theorem getT_ins {l : List (Int × Int)} (h : Sd l) {i a : Int} (hn : getT l i = none) {k : Nat} (hk : AheadT l (i, a) k) (j : Int) : getT (insT l k (i, a)) j = upd (getT l) i (some a) j := by
  have hs := h.ins hn hk
  unfold upd
  split
  · next e => subst e; exact getT_of_mem hs.2 (insT_mem.2 (.inl rfl))
  · next e =>
    cases g : getT l j with
    | none =>
      rw [getT_none] at g ⊢
      intro p hp
      rcases insT_mem.1 hp with rfl | hp
      · exact Ne.symm e
      · exact g p hp
    | some b => exact getT_of_mem hs.2 (insT_mem.2 (.inr (getT_mem g)))
theorem aheadT_ex (l : List (Int × Int)) (p : Int × Int) : ∃ k, AheadT l p k := by
  induction l with
  | nil => exact ⟨0, Nat.le_refl _, fun j hj => by simp at hj, fun h => by simp at h⟩
  | cons q r ih =>
    by_cases h : tmLt q p
    · obtain ⟨k, h1, h2, h3⟩ := ih
      refine ⟨k + 1, by simpa using h1, fun j hj hjk => ?_, fun hl => by simpa using h3 (by simpa using hl)⟩
      cases j with
      | zero => exact h
      | succ j => simpa using h2 j (by simpa using hj) (by omega)
    · exact ⟨0, Nat.zero_le _, fun j _ hj => by omega, fun _ => h⟩
theorem aheadT_one {l : List (Int × Int)} {p : Int × Int} {a b : Nat} (h : AheadT l p a) (k : AheadT l p b) : a = b := by
  obtain ⟨h1, h2, h3⟩ := h
  obtain ⟨k1, k2, k3⟩ := k
  rcases Nat.lt_trichotomy a b with e | e | e
  · exact absurd (k2 a (by omega) e) (h3 (by omega))
  · exact e
  · exact absurd (h2 b (by omega) e) (k3 (by omega))
/-- Set. -/
def IsSet (l : List (Int × Int)) (i a : Int) (l' : List (Int × Int)) : Prop := ∃ k, AheadT (stopT l i) (i, a) k ∧ l' = insT (stopT l i) k (i, a)
theorem getT_stop_same (l : List (Int × Int)) (i : Int) : getT (stopT l i) i = none := by rw [getT_stop, upd_same]
theorem Sd.set {l l' : List (Int × Int)} {i a : Int} (h : Sd l) (hs : IsSet l i a l') : Sd l' ∧ (∀ j, getT l' j = upd (getT l) i (some a) j) ∧ l'.length = if (getT l i).isSome then l.length else l.length + 1 := by
  obtain ⟨k, hk, rfl⟩ := hs
  refine ⟨(h.stop i).ins (getT_stop_same l i) hk, fun j => ?_, ?_⟩
  · rw [getT_ins (h.stop i) (getT_stop_same l i) hk]
    unfold upd
    split
    · rfl
    · next e => rw [getT_stop, upd_other _ _ e]
  · rw [insT_length hk.1, length_stop h.2]
    split
    · next e =>
      have : 0 < l.length := by
        cases l with
        | nil => simp [getT_nil] at e
        | cons q s => simp
      omega
    · rfl
/-- What is due comes first. -/
theorem mem_due {l : List (Int × Int)} (h : Sd l) (now : Int) (p : Int × Int) : p ∈ dueT l now ↔ p ∈ l ∧ p.2 ≤ now := by
  have h1 := h.1
  clear h
  unfold dueT
  induction l with
  | nil => simp
  | cons q r ih =>
    cases h1 with
    | cons a b =>
      rw [List.takeWhile_cons]
      split
      · next e =>
        simp only [decide_eq_true_eq] at e
        have hi : p ∈ r.takeWhile (fun p => decide (p.2 ≤ now)) ↔ p ∈ r ∧ p.2 ≤ now := ih b
        rw [List.mem_cons, List.mem_cons]
        constructor
        · rintro (rfl | hx)
          · exact ⟨.inl rfl, e⟩
          · exact ⟨.inr (hi.1 hx).1, (hi.1 hx).2⟩
        · rintro ⟨rfl | x, y⟩
          · exact .inl rfl
          · exact .inr (hi.2 ⟨x, y⟩)
      · next e =>
        simp only [decide_eq_true_eq] at e
        constructor
        · intro hx; cases hx
        · rintro ⟨hx, hy⟩
          rcases List.mem_cons.1 hx with rfl | hx
          · exact absurd hy e
          · have := a p hx
            unfold tmLt at this
            omega
theorem due_prefix (l : List (Int × Int)) (now : Int) : dueT l now = l.take (dueT l now).length := (List.prefix_iff_eq_take.1 (List.takeWhile_prefix _))
theorem due_le (l : List (Int × Int)) (now : Int) : (dueT l now).length ≤ l.length := (List.takeWhile_prefix (fun p : Int × Int => decide (p.2 ≤ now))).length_le
theorem Sd.due {l : List (Int × Int)} (h : Sd l) (now : Int) : Sd (dueT l now) := h.sub (List.takeWhile_sublist _)
def ids (l : List (Int × Int)) : List Int := l.map (·.1)
/-- What two Compares, the first that is not 0, say. -/
def cmpI (a b : Int) : Int := if a < b then -1 else if b < a then 1 else 0
def orI (a b : Int) : Int := if a ≠ 0 then a else b
def cmpT (f : Int → Option Int) (a b : Int) : Int := orI (cmpI ((f a).getD 0) ((f b).getD 0)) (cmpI a b)
theorem cmpT_lt (f : Int → Option Int) (a b : Int) : cmpT f a b < 0 ↔ tmLt (a, (f a).getD 0) (b, (f b).getD 0) := by
  unfold cmpT orI cmpI tmLt
  simp only
  repeat' split
  all_goals omega
theorem mergeSort_is {α : Type} (le : α → α → Bool) (trans : ∀ a b c, le a b = true → le b c = true → le a c = true) (total : ∀ a b, (le a b || le b a) = true) (anti : ∀ a b, le a b = true → le b a = true → a = b) {d t : List α} (hp : d.Perm t) (hs : t.Pairwise (fun a b => le a b = true)) : d.mergeSort le = t :=
  List.Perm.eq_of_pairwise (le := fun a b => le a b = true) (fun a b _ _ => anti a b) (List.pairwise_mergeSort trans total d) hs ((List.mergeSort_perm d le).trans hp)
end Go.Proofs.Ytjiodpbefimnlaa
