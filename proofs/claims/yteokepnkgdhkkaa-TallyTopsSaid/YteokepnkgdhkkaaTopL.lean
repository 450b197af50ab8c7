/- Plain law of Top: what is picked one by one is the sorted row's beginning. -/
import Derived.Test.YteokepnkgdhkkaaTal13
namespace Go.Proofs.Yteokepnkgdhkkaa
open Go.Sort
set_option linter.unusedVariables false
def keyT (x : Sm) : Int × Int := (big x, x.st)
theorem keyT_eq {x y : Sm} : keyT x = keyT y ↔ big x = big y ∧ x.st = y.st := by
  unfold keyT
  rw [Prod.mk.injEq]
theorem keys_one {t s : List Sm} (hp : (t.map keyT).Perm (s.map keyT)) (ht : t.Pairwise (fun x y => ltOf cfT y x = false)) (hs : s.Pairwise (fun x y => ltOf cfT y x = false)) : t.map keyT = s.map keyT := by
  induction t generalizing s with
  | nil => exact (List.nil_perm.1 hp).symm
  | cons x r ih =>
    cases s with
    | nil => exact absurd hp.length_eq (by simp)
    | cons y q =>
      cases ht with
      | cons a1 a2 =>
        cases hs with
        | cons b1 b2 =>
          have hxy : keyT x = keyT y := by
            have h1 : keyT x ∈ (y :: q).map keyT := hp.mem_iff.1 (by simp)
            have h2 : keyT y ∈ (x :: r).map keyT := hp.mem_iff.2 (by simp)
            obtain ⟨z, hz, ez⟩ := List.mem_map.1 h1
            obtain ⟨v, hv, ev⟩ := List.mem_map.1 h2
            rw [keyT_eq] at ez ev ⊢
            rcases List.mem_cons.1 hz with rfl | hz
            · omega
            · rcases List.mem_cons.1 hv with rfl | hv
              · omega
              · have c1 := b1 z hz
                have c2 := a1 v hv
                rw [ltT_no] at c1 c2
                omega
          simp only [List.map_cons] at hp ⊢
          rw [hxy] at hp ⊢
          rw [ih (List.perm_cons _ |>.1 hp) a2 b2]
theorem sorted_ex (l : List Sm) : ∃ t : List Sm, t.Perm l ∧ t.Pairwise (fun x y => ltOf cfT y x = false) := by
  refine ⟨l.mergeSort (fun x y => !ltOf cfT y x), List.mergeSort_perm _ _, ?_⟩
  have h := List.pairwise_mergeSort (le := fun x y : Sm => !ltOf cfT y x) (fun a b c h1 h2 => by
    simp only [Bool.not_eq_true'] at h1 h2 ⊢
    rw [ltT_no] at *
    omega) (fun a b => by
    simp only [Bool.or_eq_true, Bool.not_eq_true']
    rw [ltT_no, ltT_no]
    omega) l
  exact h.imp fun h => by simpa using h
theorem tops_one {l t sel rest : List Sm} (ht : t.Perm l) (hs : t.Pairwise (fun x y => ltOf cfT y x = false)) (hp : (sel ++ rest).Perm l) (h1 : sel.Pairwise (fun x y => ltOf cfT y x = false)) (h2 : ∀ x ∈ sel, ∀ y ∈ rest, ltOf cfT y x = false) : (t.take sel.length).map (·.st) = sel.map (·.st) := by
  obtain ⟨q, hq, hqs⟩ := sorted_ex rest
  have e := keys_one (t := t) (s := sel ++ q) ((ht.trans (hp.symm.trans (List.Perm.append_left sel hq.symm))).map _) hs (List.pairwise_append.2 ⟨h1, hqs, fun x hx y hy => h2 x hx y (hq.mem_iff.1 hy)⟩)
  have e2 : (t.take sel.length).map keyT = sel.map keyT := by
    rw [List.map_take, e, List.map_append, List.take_left' (by simp)]
  have e3 := congrArg (List.map Prod.snd) e2
  rw [List.map_map, List.map_map] at e3
  exact e3
/-- What is not used. -/
def restL (l : List Sm) (u : List Bool) : List Sm := ((l.zip u).filter (fun p => !p.2)).map (·.1)
theorem rest_take (l : List Sm) (u : List Bool) (b : Nat) (hb : b < l.length) (hu : u[b]? = some false) : (l[b] :: restL l (u.set b true)).Perm (restL l u) := by
  induction l generalizing u b with
  | nil => simp at hb
  | cons x r ih =>
    cases u with
    | nil => simp at hu
    | cons v s =>
      cases b with
      | zero =>
        simp at hu
        subst hu
        simp [restL]
      | succ b =>
        have h := ih s b (by simpa using hb) (by simpa using hu)
        unfold restL at h ⊢
        simp only [List.set_cons_succ, List.zip_cons_cons, List.getElem_cons_succ]
        rw [List.filter_cons, List.filter_cons]
        cases v with
        | true => exact h
        | false =>
          simp only [Bool.not_false, if_true, List.map_cons]
          exact (List.Perm.swap _ _ _).trans (h.cons x)
theorem mem_rest {l : List Sm} {u : List Bool} {x : Sm} (h : x ∈ restL l u) : ∃ i : Nat, l[i]? = some x ∧ u[i]? = some false := by
  unfold restL at h
  obtain ⟨p, hp, rfl⟩ := List.mem_map.1 h
  obtain ⟨h1, h2⟩ := List.mem_filter.1 hp
  obtain ⟨i, hi⟩ := List.getElem?_of_mem h1
  rw [List.getElem?_zip_eq_some] at hi
  exact ⟨i, hi.1, by rw [hi.2]; simpa using h2⟩
theorem rest_all (l : List Sm) : restL l (List.replicate l.length false) = l := by
  unfold restL
  induction l with
  | nil => rfl
  | cons x r ih =>
    simp only [List.length_cons, List.replicate_succ, List.zip_cons_cons]
    rw [List.filter_cons]
    simp only [Bool.not_false, if_true, List.map_cons]
    rw [ih]
/-- The state of picking: so many are picked, the rest not. -/
structure Pick (l : List Sm) (u : List Bool) (sel : List Sm) : Prop where
  len : u.length = l.length
  perm : (sel ++ restL l u).Perm l
  sorted : sel.Pairwise (fun x y => ltOf cfT y x = false)
  low : ∀ x ∈ sel, ∀ y ∈ restL l u, ltOf cfT y x = false
theorem Pick.start (l : List Sm) : Pick l (List.replicate l.length false) [] :=
  ⟨by simp, by rw [rest_all]; exact List.Perm.refl _, List.Pairwise.nil, fun x hx => by cases hx⟩
/-- Among the first i: none is open, or b is open and none before it. -/
def BestI (l : List Sm) (u : List Bool) (i : Nat) (b : Int) : Prop :=
  (b = -1 ∧ ∀ j, j < i → u[j]? ≠ some false) ∨ (∃ (k : Nat) (x : Sm), b = k ∧ k < i ∧ u[k]? = some false ∧ l[k]? = some x ∧ ∀ j y, j < i → u[j]? = some false → l[j]? = some y → ltOf cfT y x = false)
theorem BestI.start (l : List Sm) (u : List Bool) : BestI l u 0 (-1) := .inl ⟨rfl, fun j h => by omega⟩
theorem BestI.skip {l : List Sm} {u : List Bool} {i : Nat} {b : Int} (h : BestI l u i b) (hu : u[i]? ≠ some false) : BestI l u (i + 1) b := by
  rcases h with ⟨h1, h2⟩ | ⟨k, x, h1, h2, h3, h4, h5⟩
  · exact .inl ⟨h1, fun j hj => by
      rcases Nat.lt_or_ge j i with h | h
      · exact h2 j h
      · rw [show j = i by omega]; exact hu⟩
  · exact .inr ⟨k, x, h1, by omega, h3, h4, fun j y hj h6 h7 => by
      rcases Nat.lt_or_ge j i with h | h
      · exact h5 j y h h6 h7
      · rw [show j = i by omega] at h6; exact absurd h6 hu⟩
theorem BestI.first {l : List Sm} {u : List Bool} {i : Nat} {x : Sm} (h : BestI l u i (-1)) (hu : u[i]? = some false) (hx : l[i]? = some x) : BestI l u (i + 1) i := by
  rcases h with ⟨h1, h2⟩ | ⟨k, x, h1, _⟩
  · exact .inr ⟨i, x, rfl, by omega, hu, hx, fun j y hj h6 h7 => by
      rcases Nat.lt_or_ge j i with h | h
      · exact absurd h6 (h2 j h)
      · rw [show j = i by omega, hx] at h7
        injection h7 with h7
        rw [← h7]
        exact swoT.irrefl _⟩
  · omega
theorem BestI.better {l : List Sm} {u : List Bool} {i k : Nat} {x z : Sm} (h : BestI l u i k) (hk : l[k]? = some z) (hu : u[i]? = some false) (hx : l[i]? = some x) (hl : ltOf cfT x z = true) : BestI l u (i + 1) i := by
  rcases h with ⟨h1, h2⟩ | ⟨k', x', h1, h2, h3, h4, h5⟩
  · omega
  · obtain rfl : k = k' := by omega
    rw [hk] at h4
    injection h4 with h4
    subst h4
    exact .inr ⟨i, x, rfl, by omega, hu, hx, fun j y hj h6 h7 => by
      rcases Nat.lt_or_ge j i with h | h
      · have := h5 j y h h6 h7
        rw [ltT_no] at this ⊢
        rw [ltT] at hl
        omega
      · rw [show j = i by omega, hx] at h7
        injection h7 with h7
        rw [← h7]
        exact swoT.irrefl _⟩
theorem BestI.keep {l : List Sm} {u : List Bool} {i k : Nat} {x z : Sm} (h : BestI l u i k) (hk : l[k]? = some z) (hx : l[i]? = some x) (hl : ltOf cfT x z = false) : BestI l u (i + 1) k := by
  rcases h with ⟨h1, h2⟩ | ⟨k', x', h1, h2, h3, h4, h5⟩
  · omega
  · obtain rfl : k = k' := by omega
    rw [hk] at h4
    injection h4 with h4
    subst h4
    exact .inr ⟨k, z, rfl, by omega, h3, hk, fun j y hj h6 h7 => by
      rcases Nat.lt_or_ge j i with h | h
      · exact h5 j y h h6 h7
      · rw [show j = i by omega, hx] at h7
        injection h7 with h7
        rw [← h7]
        exact hl⟩
theorem BestI.at_ {l : List Sm} {u : List Bool} {i k : Nat} (h : BestI l u i k) : k < i ∧ u[k]? = some false ∧ ∃ x, l[k]? = some x := by
  rcases h with ⟨h1, h2⟩ | ⟨k', x', h1, h2, h3, h4, h5⟩
  · omega
  · obtain rfl : k = k' := by omega
    exact ⟨h2, h3, x', h4⟩
/-- One more is picked. -/
theorem Pick.more {l : List Sm} {u : List Bool} {sel : List Sm} (h : Pick l u sel) {b : Int} (hb : BestI l u l.length b) (hn : sel.length < l.length) : ∃ (k : Nat) (hk : k < l.length), b = k ∧ Pick l (u.set k true) (sel ++ [l[k]]) := by
  rcases hb with ⟨h1, h2⟩ | ⟨k, x, h1, h2, h3, h4, h5⟩
  · exfalso
    have hl := h.perm.length_eq
    rw [List.length_append] at hl
    have hpos : 0 < (restL l u).length := by omega
    obtain ⟨x, hx⟩ := List.exists_mem_of_length_pos hpos
    obtain ⟨i, hi, hui⟩ := mem_rest hx
    have hil : i < l.length := by
      rcases Nat.lt_or_ge i l.length with h | h
      · exact h
      · rw [List.getElem?_eq_none h] at hi; cases hi
    exact h2 i hil hui
  · have hx : l[k] = x := by
      have := List.getElem?_eq_getElem h2
      rw [h4] at this
      injection this with this
      exact this.symm
    have hp := rest_take l u k h2 h3
    have hin : l[k] ∈ restL l u := hp.mem_iff.1 (by simp)
    refine ⟨k, h2, h1, ⟨by rw [List.length_set]; exact h.len, ?_, ?_, ?_⟩⟩
    · rw [List.append_assoc]
      exact (List.Perm.append_left sel hp).trans h.perm
    · exact List.pairwise_append.2 ⟨h.sorted, List.pairwise_singleton _ _, fun a ha c hc => by
        simp at hc
        rw [hc]
        exact h.low a ha _ hin⟩
    · intro a ha y hy
      have hy2 : y ∈ restL l u := hp.mem_iff.1 (List.mem_cons_of_mem _ hy)
      rcases List.mem_append.1 ha with ha | ha
      · exact h.low a ha y hy2
      · simp at ha
        rw [ha, hx]
        obtain ⟨i, hi, hui⟩ := mem_rest hy2
        have hil : i < l.length := by
          rcases Nat.lt_or_ge i l.length with h | h
          · exact h
          · rw [List.getElem?_eq_none h] at hi; cases hi
        exact h5 i y hil hui hi
end Go.Proofs.Yteokepnkgdhkkaa
