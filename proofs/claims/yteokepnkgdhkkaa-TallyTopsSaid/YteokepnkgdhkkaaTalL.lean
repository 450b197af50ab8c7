/- Plain law of sums: rows sorted by stream, each stream once; a sum added is a place in the row. -/
import Derived.Test.YteokepnkgdhkkaaMaps
namespace Go.Proofs.Yteokepnkgdhkkaa
set_option linter.unusedVariables false
structure Sm where
  st : Int
  se : Int
  ca : Int
  mo : Int
  ou : Bool
  inn : Bool
  op : Int
  dn : Int
theorem Sm.ext' {a b : Sm} (h1 : a.st = b.st) (h2 : a.se = b.se) (h3 : a.ca = b.ca) (h4 : a.mo = b.mo) (h5 : a.ou = b.ou) (h6 : a.inn = b.inn) (h7 : a.op = b.op) (h8 : a.dn = b.dn) : a = b := by
  cases a; cases b; simp_all
/-- Each number within K. -/
def Sm.bd (a : Sm) (K : Int) : Prop := (-K ≤ a.se ∧ a.se ≤ K) ∧ (-K ≤ a.ca ∧ a.ca ≤ K) ∧ (-K ≤ a.mo ∧ a.mo ≤ K) ∧ (-K ≤ a.op ∧ a.op ≤ K) ∧ (-K ≤ a.dn ∧ a.dn ≤ K)
def Sm.zero (s : Int) : Sm := ⟨s, 0, 0, 0, false, false, 0, 0⟩
def Sm.add (a b : Sm) : Sm := ⟨a.st, a.se + b.se, a.ca + b.ca, a.mo + b.mo, a.ou || b.ou, a.inn || b.inn, a.op + b.op, a.dn + b.dn⟩
theorem Sm.add_zero (x : Sm) : Sm.add (Sm.zero x.st) x = x := by
  cases x; simp [Sm.add, Sm.zero]
theorem Sm.add_comm {a b : Sm} (h : a.st = b.st) : Sm.add a b = Sm.add b a := by
  cases a; cases b
  simp only at h
  simp only [Sm.add, Sm.mk.injEq]
  exact ⟨h, Int.add_comm _ _, Int.add_comm _ _, Int.add_comm _ _, Bool.or_comm _ _, Bool.or_comm _ _, Int.add_comm _ _, Int.add_comm _ _⟩
theorem Sm.add_assoc (a b c : Sm) : Sm.add (Sm.add a b) c = Sm.add a (Sm.add b c) := by
  simp only [Sm.add, Sm.mk.injEq]
  exact ⟨trivial, Int.add_assoc _ _ _, Int.add_assoc _ _ _, Int.add_assoc _ _ _, Bool.or_assoc _ _ _, Bool.or_assoc _ _ _, Int.add_assoc _ _ _, Int.add_assoc _ _ _⟩
theorem Sm.bd_add {a b : Sm} {K M : Int} (h : a.bd K) (k : b.bd M) : (Sm.add a b).bd (K + M) := by
  unfold Sm.bd Sm.add at *
  simp only
  omega
theorem Sm.bd_mono {a : Sm} {K M : Int} (h : a.bd K) (k : K ≤ M) : a.bd M := by
  unfold Sm.bd at *
  omega
/-- Sorted by stream, each once. -/
def SS (l : List Sm) : Prop := l.Pairwise (fun p q => p.st < q.st)
def getS (l : List Sm) (i : Int) : Option Sm := l.find? (fun p => decide (p.st = i))
theorem getS_nil (i : Int) : getS [] i = none := rfl
theorem getS_cons (p : Sm) (l : List Sm) (i : Int) : getS (p :: l) i = if p.st = i then some p else getS l i := by
  unfold getS
  by_cases h : p.st = i <;> simp [h]
theorem getS_mem {l : List Sm} {i : Int} {a : Sm} (h : getS l i = some a) : a ∈ l ∧ a.st = i := by
  unfold getS at h
  exact ⟨List.mem_of_find?_eq_some h, by have := List.find?_some h; simpa using this⟩
theorem getS_none {l : List Sm} {i : Int} : getS l i = none ↔ ∀ p ∈ l, p.st ≠ i := by
  unfold getS
  simp
theorem getS_of_mem {l : List Sm} (hs : SS l) {a : Sm} (h : a ∈ l) : getS l a.st = some a := by
  induction l with
  | nil => cases h
  | cons p r ih =>
    cases hs with
    | cons h1 h2 =>
      rw [getS_cons]
      rcases List.mem_cons.1 h with e | hm
      · rw [← e, if_pos rfl]
      · have := h1 a hm
        rw [if_neg (by omega), ih h2 hm]
/-- Two sorted rows with the same sums are one. -/
theorem SS.one {l l' : List Sm} (h : SS l) (h' : SS l') (hg : ∀ i, getS l i = getS l' i) : l = l' := by
  have hm : ∀ a, a ∈ l ↔ a ∈ l' := fun a => by
    constructor
    · intro ha
      exact (getS_mem ((hg a.st) ▸ getS_of_mem h ha)).1
    · intro ha
      exact (getS_mem ((hg a.st).symm ▸ getS_of_mem h' ha)).1
  clear hg
  induction l generalizing l' with
  | nil =>
    cases l' with
    | nil => rfl
    | cons q s => exact absurd ((hm q).2 (by simp)) (by simp)
  | cons p r ih =>
    cases l' with
    | nil => exact absurd ((hm p).1 (by simp)) (by simp)
    | cons q s =>
      cases h with
      | cons h1 h2 =>
        cases h' with
        | cons g1 g2 =>
          have hpq : p = q := by
            rcases List.mem_cons.1 ((hm p).1 (by simp)) with e | e
            · exact e
            · rcases List.mem_cons.1 ((hm q).2 (by simp)) with e2 | e2
              · exact e2.symm
              · have := g1 p e
                have := h1 q e2
                omega
          subst hpq
          congr 1
          refine ih h2 g2 fun a => ?_
          constructor
          · intro ha
            rcases List.mem_cons.1 ((hm a).1 (by simp [ha])) with e | e
            · subst e
              have := h1 a ha
              omega
            · exact e
          · intro ha
            rcases List.mem_cons.1 ((hm a).2 (by simp [ha])) with e | e
            · subst e
              have := g1 a ha
              omega
            · exact e
/-- A sum added. -/
def plusL : List Sm → Sm → List Sm
  | [], x => [x]
  | p :: r, x => if p.st < x.st then p :: plusL r x else if p.st = x.st then Sm.add x p :: r else x :: p :: r
theorem plusL_mem {l : List Sm} {x a : Sm} (h : a ∈ plusL l x) : a ∈ l ∨ a.st = x.st := by
  induction l with
  | nil => simp [plusL] at h; exact .inr (by rw [h])
  | cons p r ih =>
    unfold plusL at h
    split at h
    · rcases List.mem_cons.1 h with e | e
      · exact .inl (by rw [e]; simp)
      · rcases ih e with e | e
        · exact .inl (by simp [e])
        · exact .inr e
    · split at h
      · rcases List.mem_cons.1 h with e | e
        · exact .inr (by rw [e]; rfl)
        · exact .inl (by simp [e])
      · rcases List.mem_cons.1 h with e | e
        · exact .inr (by rw [e])
        · exact .inl e
theorem SS.plus {l : List Sm} (h : SS l) (x : Sm) : SS (plusL l x) := by
  induction l with
  | nil => exact List.pairwise_singleton _ _
  | cons p r ih =>
    cases h with
    | cons h1 h2 =>
      unfold plusL
      split
      · next e =>
        refine List.Pairwise.cons (fun a ha => ?_) (ih h2)
        rcases plusL_mem ha with h | h
        · exact h1 a h
        · omega
      · split
        · next e1 e2 =>
          refine List.Pairwise.cons (fun a ha => ?_) h2
          have := h1 a ha
          show x.st < a.st
          omega
        · next e1 e2 =>
          refine List.Pairwise.cons (fun a ha => ?_) (List.Pairwise.cons h1 h2)
          rcases List.mem_cons.1 ha with e | e
          · subst e; omega
          · have := h1 a e
            omega
def putS (o : Option Sm) (x : Sm) : Sm := match o with
  | none => x
  | some y => Sm.add x y
theorem getS_plus {l : List Sm} (h : SS l) (x : Sm) (i : Int) : getS (plusL l x) i = if i = x.st then some (putS (getS l i) x) else getS l i := by
  induction l with
  | nil =>
    unfold plusL
    rw [getS_cons, getS_nil]
    by_cases e : x.st = i
    · rw [if_pos e, if_pos e.symm]; rfl
    · rw [if_neg e, if_neg (Ne.symm e)]
  | cons p r ih =>
    cases h with
    | cons h1 h2 =>
      unfold plusL
      split
      · next e =>
        rw [getS_cons, getS_cons, ih h2]
        by_cases hp : p.st = i
        · rw [if_pos hp, if_pos hp, if_neg (by omega)]
        · rw [if_neg hp, if_neg hp]
      · split
        · next e1 e2 =>
          rw [getS_cons, getS_cons]
          show (if x.st = i then _ else _) = _
          by_cases hx : x.st = i
          · rw [if_pos hx, if_pos hx.symm, if_pos (by omega)]; rfl
          · rw [if_neg hx, if_neg (Ne.symm hx), if_neg (by omega)]
        · next e1 e2 =>
          rw [getS_cons]
          by_cases hx : x.st = i
          · have hn : getS (p :: r) i = none := getS_none.2 fun q hq => by
              rcases List.mem_cons.1 hq with e | e
              · subst e; omega
              · have := h1 q e; omega
            rw [if_pos hx, if_pos hx.symm, hn]; rfl
          · rw [if_neg hx, if_neg (Ne.symm hx)]
theorem length_plus {l : List Sm} (x : Sm) : (plusL l x).length ≤ l.length + 1 := by
  induction l with
  | nil => simp [plusL]
  | cons p r ih =>
    unfold plusL
    split
    · simp only [List.length_cons]; omega
    · split <;> simp
def gatherL (l : List Sm) : List Sm := l.foldl plusL []
theorem foldl_SS {l : List Sm} : ∀ {a : List Sm}, SS a → SS (l.foldl plusL a) := by
  induction l with
  | nil => intro a h; exact h
  | cons x r ih => intro a h; exact ih (h.plus x)
theorem gatherL_SS (l : List Sm) : SS (gatherL l) := foldl_SS List.Pairwise.nil
theorem gatherL_snoc (l : List Sm) (x : Sm) : gatherL (l ++ [x]) = plusL (gatherL l) x := by simp [gatherL]
end Go.Proofs.Yteokepnkgdhkkaa
