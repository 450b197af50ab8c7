/- Plain law of trees: nodes in the order in which they came; what hangs on what. -/
import Derived.Test.YtifgbnjpiphidaaMaps
namespace Go.Proofs.Ytifgbnjpiphidaa
set_option linter.unusedVariables false
structure Nd where
  id : Int
  on : Int
  wt : Int
def sortI (l : List Int) : List Int := l.mergeSort (fun x y => decide (x ≤ y))
theorem sortI_perm (l : List Int) : (sortI l).Perm l := List.mergeSort_perm _ _
theorem sortI_sorted (l : List Int) : (sortI l).Pairwise (fun x y => x ≤ y) := by
  have h := List.pairwise_mergeSort (le := fun x y : Int => decide (x ≤ y)) (fun a b c h1 h2 => by simp at *; omega) (fun a b => by simp; omega) l
  exact h.imp fun h => by simpa using h
theorem sorted_one {a b : List Int} (hp : a.Perm b) (ha : a.Pairwise (fun x y => x ≤ y)) (hb : b.Pairwise (fun x y => x ≤ y)) : a = b := by
  induction a generalizing b with
  | nil => exact (List.nil_perm.1 hp).symm
  | cons x r ih =>
    cases b with
    | nil => exact absurd hp.length_eq (by simp)
    | cons y s =>
      cases ha with
      | cons a1 a2 =>
        cases hb with
        | cons b1 b2 =>
          have hxy : x = y := by
            have h1 := hp.mem_iff (a := x)
            have h2 := hp.mem_iff (a := y)
            rcases List.mem_cons.1 (h1.1 (by simp)) with e | e
            · exact e
            · rcases List.mem_cons.1 (h2.2 (by simp)) with e2 | e2
              · exact e2.symm
              · have := a1 y e2
                have := b1 x e
                omega
          subst hxy
          rw [ih (List.perm_cons _ |>.1 hp) a2 b2]
theorem sortI_is {a t : List Int} (hp : a.Perm t) (hs : t.Pairwise (fun x y => x ≤ y)) : sortI a = t := sorted_one ((sortI_perm a).trans hp) (sortI_sorted a) hs
theorem sortI_congr {a b : List Int} (hp : a.Perm b) : sortI a = sortI b := sortI_is (hp.trans (sortI_perm b).symm) (sortI_sorted b)
theorem sortI_length (l : List Int) : (sortI l).length = l.length := (sortI_perm l).length_eq
/-- The node of a number. -/
def getN (l : List Nd) (i : Int) : Option Nd := l.find? (fun p => decide (p.id = i))
theorem getN_nil (i : Int) : getN [] i = none := rfl
theorem getN_cons (p : Nd) (l : List Nd) (i : Int) : getN (p :: l) i = if p.id = i then some p else getN l i := by
  unfold getN
  by_cases h : p.id = i <;> simp [h]
theorem getN_mem {l : List Nd} {i : Int} {a : Nd} (h : getN l i = some a) : a ∈ l ∧ a.id = i := by
  unfold getN at h
  exact ⟨List.mem_of_find?_eq_some h, by have := List.find?_some h; simpa using this⟩
theorem getN_none {l : List Nd} {i : Int} : getN l i = none ↔ ∀ p ∈ l, p.id ≠ i := by
  unfold getN
  simp
/-- Each number once. -/
def Uq (l : List Nd) : Prop := l.Pairwise (fun p q => p.id ≠ q.id)
theorem getN_of_mem {l : List Nd} (hs : Uq l) {a : Nd} (h : a ∈ l) : getN l a.id = some a := by
  induction l with
  | nil => cases h
  | cons p r ih =>
    cases hs with
    | cons h1 h2 =>
      rw [getN_cons]
      rcases List.mem_cons.1 h with e | hm
      · rw [← e, if_pos rfl]
      · have := h1 a hm
        rw [if_neg this, ih h2 hm]
theorem getN_append (a b : List Nd) (i : Int) : getN (a ++ b) i = (getN a i).or (getN b i) := by
  unfold getN
  rw [List.find?_append]
/-- A node's parent and weight turned; numbers stay. -/
theorem getN_map (l : List Nd) (f : Nd → Nd) (hf : ∀ p, (f p).id = p.id) (i : Int) : getN (l.map f) i = (getN l i).map f := by
  induction l with
  | nil => rfl
  | cons p r ih =>
    rw [List.map_cons, getN_cons, getN_cons, hf, ih]
    split <;> rfl
theorem Uq.map {l : List Nd} (h : Uq l) (f : Nd → Nd) (hf : ∀ p, (f p).id = p.id) : Uq (l.map f) := by
  unfold Uq at *
  rw [List.pairwise_map]
  exact h.imp fun h => by rw [hf, hf]; exact h
theorem Uq.snoc {l : List Nd} (h : Uq l) (p : Nd) (hp : getN l p.id = none) : Uq (l ++ [p]) := by
  unfold Uq at *
  rw [List.pairwise_append]
  refine ⟨h, List.pairwise_singleton _ _, fun a ha b hb => ?_⟩
  simp at hb
  subst hb
  exact getN_none.1 hp a ha
/-- A node laid: turned where it is there, else set behind all. -/
def putN (l : List Nd) (x : Nd) : List Nd := if (getN l x.id).isSome then l.map (fun p => if p.id = x.id then x else p) else l ++ [x]
theorem getN_put (l : List Nd) (x : Nd) (i : Int) : getN (putN l x) i = if i = x.id then some x else getN l i := by
  unfold putN
  split
  · next h =>
    rw [getN_map l _ (fun p => by by_cases h : p.id = x.id <;> simp [h])]
    by_cases hi : i = x.id
    · rw [if_pos hi, hi]
      cases hg : getN l x.id with
      | none => rw [hg] at h; cases h
      | some a => simp [(getN_mem hg).2]
    · rw [if_neg hi]
      cases hg : getN l i with
      | none => rfl
      | some a =>
        have := (getN_mem hg).2
        simp [this, hi]
  · next h =>
    rw [getN_append, getN_cons, getN_nil]
    have h0 : getN l x.id = none := by
      cases hg : getN l x.id with
      | none => rfl
      | some a => rw [hg] at h; exact absurd rfl h
    by_cases hi : i = x.id
    · rw [if_pos hi, hi, h0, if_pos rfl]; rfl
    · rw [if_neg hi, if_neg (Ne.symm hi)]
      cases getN l i <;> rfl
theorem length_put (l : List Nd) (x : Nd) : (putN l x).length = if (getN l x.id).isSome then l.length else l.length + 1 := by
  unfold putN
  split
  · rw [List.length_map]
  · rw [List.length_append]; rfl
theorem Uq.put {l : List Nd} (h : Uq l) (x : Nd) : Uq (putN l x) := by
  unfold putN
  split
  · exact h.map _ (fun p => by by_cases h : p.id = x.id <;> simp [h])
  · next hn => exact h.snoc x (by cases hg : getN l x.id with
      | none => rfl
      | some a => rw [hg] at hn; exact absurd rfl hn)
/-- A node hung elsewhere, with its weight. -/
def hangN (l : List Nd) (i o : Int) : List Nd := l.map (fun p => if p.id = i then ⟨p.id, o, p.wt⟩ else p)
theorem getN_hang (l : List Nd) (i o j : Int) : getN (hangN l i o) j = if j = i then (getN l i).map (fun p => ⟨i, o, p.wt⟩) else getN l j := by
  unfold hangN
  rw [getN_map l _ (fun p => by by_cases h : p.id = i <;> simp [h])]
  by_cases hj : j = i
  · rw [if_pos hj, hj]
    cases hg : getN l i with
    | none => rfl
    | some a => simp [(getN_mem hg).2]
  · rw [if_neg hj]
    cases hg : getN l j with
    | none => rfl
    | some a =>
      have := (getN_mem hg).2
      simp [this, hj]
theorem length_hang (l : List Nd) (i o : Int) : (hangN l i o).length = l.length := List.length_map _
theorem Uq.hang {l : List Nd} (h : Uq l) (i o : Int) : Uq (hangN l i o) := h.map _ (fun p => by by_cases h : p.id = i <;> simp [h])
/-- What hangs on i, rising. -/
def kidsL (l : List Nd) (i : Int) : List Int := sortI ((l.filter (fun p => decide (p.on = i))).map (·.id))
theorem mem_kids {l : List Nd} {i k : Int} : k ∈ kidsL l i ↔ ∃ p ∈ l, p.on = i ∧ p.id = k := by
  unfold kidsL
  rw [(sortI_perm _).mem_iff, List.mem_map]
  constructor
  · rintro ⟨p, hp, rfl⟩
    rw [List.mem_filter] at hp
    exact ⟨p, hp.1, by simpa using hp.2, rfl⟩
  · rintro ⟨p, hp, h1, rfl⟩
    exact ⟨p, List.mem_filter.2 ⟨hp, by simpa using h1⟩, rfl⟩
theorem kids_length (l : List Nd) (i : Int) : (kidsL l i).length ≤ l.length := by
  unfold kidsL
  rw [sortI_length, List.length_map]
  exact List.length_filter_le _ _
theorem kids_nodup {l : List Nd} (h : Uq l) (i : Int) : (kidsL l i).Nodup := by
  unfold kidsL
  refine (sortI_perm _).nodup_iff.2 ?_
  unfold List.Nodup
  rw [List.pairwise_map]
  exact List.Pairwise.filter _ h
/-- All that hangs on o, but for i, hung on i. -/
def takeN (l : List Nd) (i o : Int) : List Nd := l.map (fun p => if p.on = o ∧ p.id ≠ i then ⟨p.id, i, p.wt⟩ else p)
theorem length_take (l : List Nd) (i o : Int) : (takeN l i o).length = l.length := List.length_map _
theorem takeN_id (i o : Int) (p : Nd) : (if p.on = o ∧ p.id ≠ i then (⟨p.id, i, p.wt⟩ : Nd) else p).id = p.id := by split <;> rfl
theorem Uq.take {l : List Nd} (h : Uq l) (i o : Int) : Uq (takeN l i o) := h.map _ (takeN_id i o)
theorem getN_take (l : List Nd) (i o j : Int) : getN (takeN l i o) j = (getN l j).map (fun p => if p.on = o ∧ p.id ≠ i then ⟨p.id, i, p.wt⟩ else p) := getN_map l _ (takeN_id i o) j
/-- The first k of a row, but for i, hung on i. -/
def hangAll (l : List Nd) (ks : List Int) (i : Int) : List Nd := l.map (fun p => if p.id ∈ ks ∧ p.id ≠ i then ⟨p.id, i, p.wt⟩ else p)
theorem hangAll_id (ks : List Int) (i : Int) (p : Nd) : (if p.id ∈ ks ∧ p.id ≠ i then (⟨p.id, i, p.wt⟩ : Nd) else p).id = p.id := by split <;> rfl
theorem hangAll_nil (l : List Nd) (i : Int) : hangAll l [] i = l := by
  unfold hangAll
  simp
theorem hangAll_skip (l : List Nd) (ks : List Int) (i : Int) : hangAll l (ks ++ [i]) i = hangAll l ks i := by
  unfold hangAll
  refine List.map_congr_left fun p _ => ?_
  by_cases h : p.id = i
  · simp [h]
  · simp [h]
theorem hangAll_snoc (l : List Nd) (ks : List Int) (i k : Int) (hk : k ≠ i) : hangAll l (ks ++ [k]) i = hangN (hangAll l ks i) k i := by
  unfold hangAll hangN
  rw [List.map_map]
  refine List.map_congr_left fun p _ => ?_
  simp only [Function.comp, List.mem_append, List.mem_singleton]
  by_cases h : p.id = k
  · subst h
    by_cases h2 : p.id ∈ ks <;> simp [h2, hk]
  · by_cases h2 : p.id ∈ ks ∧ p.id ≠ i
    · simp [h2, h]
    · by_cases h3 : p.id ∈ ks
      · have : p.id = i := by simpa [h3] using h2
        simp [this]
        intro h4
        rw [this] at h
        exact absurd h4 h
      · simp [h3, h]
theorem hangAll_kids {l : List Nd} (h : Uq l) (i o : Int) : hangAll l (kidsL l o) i = takeN l i o := by
  unfold hangAll takeN
  refine List.map_congr_left fun p hp => ?_
  have e : p.id ∈ kidsL l o ↔ p.on = o := by
    rw [mem_kids]
    constructor
    · rintro ⟨q, hq, h1, h2⟩
      have e1 := getN_of_mem h hq
      rw [h2, getN_of_mem h hp] at e1
      injection e1 with e1
      rw [e1]; exact h1
    · intro h1
      exact ⟨p, hp, h1, rfl⟩
  simp only [e]
structure Dp where
  on : Int
  wt : Int
  ex : Bool
def layL (l : List Nd) (i : Int) (d : Dp) : List Nd := putN (if d.ex then takeN l i d.on else l) ⟨i, d.on, d.wt⟩
def knownL (l : List Nd) (d : Dp) : Dp := if d.on ≠ 0 ∧ getN l d.on = none then ⟨0, d.wt, false⟩ else d
end Go.Proofs.Ytifgbnjpiphidaa
