/- Plain law: the calls of a tree as functions; the order of its nodes. -/
import Derived.Test.YtifgbnjpiphidaaTreP
namespace Go.Proofs.Ytifgbnjpiphidaa
set_option linter.unusedVariables false
open Classical in
noncomputable def moveS (l : List Nd) (i : Int) (d : Dp) : Int × List Nd :=
  match getN l i with
  | none => (7, l)
  | some p => if mayB d = false then (2, l) else if d.on = i then (12, l) else if Abv l i (knownL l d).on then (0, layL (hangN l (knownL l d).on p.on) i (knownL l d)) else (0, layL l i (knownL l d))
def insertS (l : List Nd) (most i : Int) (d : Dp) : Int × List Nd :=
  if ¬ (1 ≤ i ∧ i ≤ 2147483647) then (2, l) else if mayB d = false then (2, l) else if d.on = i then (12, l) else if (getN l i).isSome then (8, l) else if most ≤ l.length then (16, l) else (0, layL l i (knownL l d))
def removeS (l : List Nd) (i : Int) : Int × List Nd :=
  match getN l i with
  | none => (7, l)
  | some x => (0, remL l i x)
theorem some_lay (l : List Nd) (i : Int) (d : Dp) (x : Int) : (getN (layL l i d) x).isSome = (decide (x = i) || (getN l x).isSome) := by
  unfold layL
  rw [getN_put]
  by_cases h : x = i
  · simp [h]
  · simp only [h, if_false, decide_false, Bool.false_or]
    split
    · rw [getN_take]; cases getN l x <;> rfl
    · rfl
theorem some_hang (l : List Nd) (i o x : Int) : (getN (hangN l i o) x).isSome = (getN l x).isSome := by
  rw [getN_hang]
  by_cases h : x = i
  · rw [if_pos h, h]; cases getN l i <;> rfl
  · rw [if_neg h]
theorem some_move (l : List Nd) (i : Int) (d : Dp) (x : Int) : (getN (moveS l i d).2 x).isSome = (getN l x).isSome := by
  unfold moveS
  cases hg : getN l i with
  | none => rfl
  | some p =>
    simp only
    repeat' split
    all_goals try rfl
    · rw [some_lay, some_hang]
      by_cases h : x = i
      · simp [h, hg]
      · simp [h]
    · rw [some_lay]
      by_cases h : x = i
      · simp [h, hg]
      · simp [h]
theorem ok_moveS {l : List Nd} (h : OkT l) (i : Int) (d : Dp) : OkT (moveS l i d).2 := by
  unfold moveS
  cases hg : getN l i with
  | none => exact h
  | some p =>
    simp only
    repeat' split
    all_goals try exact h
    · next ha => exact ok_move2 h i d hg ha
    · next h1 h2 ha => exact ok_move1 h i d hg h2 ha
theorem ok_insertS {l : List Nd} (h : OkT l) (most i : Int) (d : Dp) : OkT (insertS l most i d).2 := by
  unfold insertS
  repeat' split
  all_goals try exact h
  next h1 h2 h3 h4 h5 => exact ok_insert h i d (by omega) (by cases hg : getN l i with
    | none => rfl
    | some p => rw [hg] at h4; exact absurd rfl h4) h3
theorem some_insert (l : List Nd) (most i : Int) (d : Dp) (x : Int) : (getN (insertS l most i d).2 x).isSome = (((insertS l most i d).1 == 0 && decide (x = i)) || (getN l x).isSome) := by
  unfold insertS
  repeat' split
  all_goals try rfl
  rw [some_lay]
  rfl
theorem insert_id {l : List Nd} {most i : Int} {d : Dp} (h : (insertS l most i d).1 = 0) : 1 ≤ i ∧ i ≤ 2147483647 := by
  unfold insertS at h
  split at h
  · simp at h
  · next h1 => omega
theorem ok_removeS {l : List Nd} (h : OkT l) (i : Int) : OkT (removeS l i).2 := by
  unfold removeS
  cases hg : getN l i with
  | none => exact h
  | some x => exact ok_rem h i hg
theorem some_rem (l : List Nd) (i : Int) (p : Nd) (x : Int) : (getN (remL l i p) x).isSome = (!decide (x = i) && (getN l x).isSome) := by
  unfold remL
  rw [getN_drop]
  by_cases h : x = i
  · simp [h]
  · simp only [h, if_false, decide_false, Bool.not_false, Bool.true_and]
    rw [getN_share]; cases getN l x <;> rfl
theorem some_remove (l : List Nd) (i x : Int) : (getN (removeS l i).2 x).isSome = (!((removeS l i).1 == 0 && decide (x = i)) && (getN l x).isSome) := by
  unfold removeS
  cases hg : getN l i with
  | none => simp
  | some p =>
    rw [some_rem]
    rfl
theorem remove_there {l : List Nd} {i : Int} (h : (removeS l i).1 = 0) : ∃ p, getN l i = some p := by
  unfold removeS at h
  cases hg : getN l i with
  | none => rw [hg] at h; simp at h
  | some p => exact ⟨p, rfl⟩
theorem mem_ordD {l : List Nd} {r : Int → Nat} (h : TreeOk l r) (d : Nat) {x : Int} : x ∈ ordD l r d ↔ (∃ p, getN l x = some p) ∧ dp l r x ≤ d := by
  unfold ordD
  rw [List.mem_flatMap]
  constructor
  · rintro ⟨k, hk, hx⟩
    have := List.mem_range.1 hk
    have h2 := (mem_lev h.uq).1 hx
    exact ⟨h2.1, by omega⟩
  · rintro ⟨⟨p, hp⟩, hd⟩
    have h1 := dp_some h.rk hp
    exact ⟨dp l r x - 1, List.mem_range.2 (by omega), (mem_lev h.uq).2 ⟨⟨p, hp⟩, by omega⟩⟩
theorem mem_ord {l : List Nd} {r : Int → Nat} (h : TreeOk l r) {x : Int} : x ∈ ordL l r ↔ ∃ p, getN l x = some p := by
  unfold ordL
  rw [mem_ordD h]
  exact ⟨fun h => h.1, fun h2 => ⟨h2, dp_le h x⟩⟩
theorem ord_nodup {l : List Nd} {r : Int → Nat} (h : TreeOk l r) : (ordL l r).Nodup := by
  unfold ordL ordD List.Nodup
  rw [List.pairwise_flatMap]
  refine ⟨fun a _ => lev_nodup h.uq _, List.pairwise_lt_range.imp fun {a b} hab x hx y hy e => ?_⟩
  have h1 := ((mem_lev h.uq).1 hx).2
  have h2 := ((mem_lev h.uq).1 hy).2
  rw [e] at h1
  omega
theorem ord_sorted {l : List Nd} {r : Int → Nat} (h : TreeOk l r) : (ordL l r).Pairwise (fun x y => dp l r x ≤ dp l r y) := by
  unfold ordL ordD
  rw [List.pairwise_flatMap]
  refine ⟨fun a _ => List.pairwise_iff_forall_sublist.2 fun {x y} hs => ?_, List.pairwise_lt_range.imp fun {a b} hab x hx y hy => ?_⟩
  · have hx := hs.subset (List.mem_cons_self)
    have hy := hs.subset (List.mem_cons_of_mem _ List.mem_cons_self)
    have h1 := ((mem_lev h.uq).1 hx).2
    have h2 := ((mem_lev h.uq).1 hy).2
    omega
  · have h1 := ((mem_lev h.uq).1 hx).2
    have h2 := ((mem_lev h.uq).1 hy).2
    omega
theorem ord_length {l : List Nd} {r : Int → Nat} (h : TreeOk l r) : (ordL l r).length = l.length := by
  have hp : (ordL l r).Perm (l.map (·.id)) := (List.perm_ext_iff_of_nodup (ord_nodup h) (nodup_ids h.uq)).2 fun x => by
    rw [mem_ord h, List.mem_map]
    constructor
    · rintro ⟨p, hp⟩
      exact ⟨p, (getN_mem hp).1, (getN_mem hp).2⟩
    · rintro ⟨p, hp, rfl⟩
      exact ⟨p, getN_of_mem h.uq hp⟩
  rw [hp.length_eq, List.length_map]
/-- The node at place k: it was not there before, its parent was. -/
theorem ord_at {l : List Nd} {r : Int → Nat} (h : TreeOk l r) (k : Nat) (hk : k < (ordL l r).length) : (ordL l r)[k] ∉ (ordL l r).take k ∧ (ordL l r)[k] ≠ 0 ∧ ∃ p, getN l (ordL l r)[k] = some p ∧ (p.on = 0 ∨ p.on ∈ (ordL l r).take k) ∧ dp l r (ordL l r)[k] = dp l r p.on + 1 := by
  obtain ⟨p, hp⟩ := (mem_ord h).1 (List.getElem_mem hk)
  have hd := dp_some h.rk hp
  have htd := List.take_append_drop k (ordL l r)
  rw [List.drop_eq_getElem_cons hk] at htd
  refine ⟨fun hm => ?_, fun e => ?_, p, hp, ?_, hd⟩
  · have hn := ord_nodup h
    rw [← htd, List.nodup_append] at hn
    exact hn.2.2 _ hm _ List.mem_cons_self rfl
  · rw [e, h.root] at hp
    cases hp
  · rcases h.cl p (getN_mem hp).1 with h1 | h1
    · exact .inl h1
    · right
      have hm := (mem_ord h).2 h1
      rw [← htd] at hm
      rcases List.mem_append.1 hm with h2 | h2
      · exact h2
      · exfalso
        have hs := ord_sorted h
        rw [← htd, List.pairwise_append] at hs
        rcases List.mem_cons.1 h2 with h3 | h3
        · rw [h3] at hd; omega
        · have := (List.pairwise_cons.1 hs.2.1).1 _ h3
          omega
end Go.Proofs.Ytifgbnjpiphidaa
