/- Plain law: how deep a node is; the levels. -/
import Derived.Test.YtifgbnjpiphidaaTre6
namespace Go.Proofs.Ytifgbnjpiphidaa
set_option linter.unusedVariables false
def dpF (l : List Nd) : Nat → Int → Nat
  | 0, _ => 0
  | n + 1, x => match getN l x with
    | none => 0
    | some p => dpF l n p.on + 1
theorem dpF_none {l : List Nd} {x : Int} (h : getN l x = none) (n : Nat) : dpF l n x = 0 := by
  cases n with
  | zero => rfl
  | succ n => simp [dpF, h]
theorem dpF_some {l : List Nd} {x : Int} {p : Nd} (h : getN l x = some p) (n : Nat) : dpF l (n + 1) x = dpF l n p.on + 1 := by
  simp [dpF, h]
theorem dpF_enough {l : List Nd} {r : Int → Nat} (hr : Rk l r) : ∀ (n : Nat) (x : Int), r x < n → dpF l n x = dpF l (r x + 1) x := by
  have : ∀ (k : Nat) (x : Int), r x ≤ k → ∀ n, r x < n → dpF l n x = dpF l (r x + 1) x := by
    intro k
    induction k with
    | zero =>
      intro x hx n hn
      cases hg : getN l x with
      | none => rw [dpF_none hg, dpF_none hg]
      | some p =>
        have := rk_get hr hg
        omega
    | succ k ih =>
      intro x hx n hn
      cases hg : getN l x with
      | none => rw [dpF_none hg, dpF_none hg]
      | some p =>
        have h1 := rk_get hr hg
        obtain ⟨m, rfl⟩ : ∃ m, n = m + 1 := ⟨n - 1, by omega⟩
        rw [dpF_some hg, dpF_some hg, ih p.on (by omega) m (by omega), ih p.on (by omega) (r x) (by omega)]
  exact fun n x h => this (r x) x (Nat.le_refl _) n h
/-- How deep x is. -/
def dp (l : List Nd) (r : Int → Nat) (x : Int) : Nat := dpF l (r x + 1) x
theorem dp_none {l : List Nd} {r : Int → Nat} {x : Int} (h : getN l x = none) : dp l r x = 0 := dpF_none h _
theorem dp_some {l : List Nd} {r : Int → Nat} (hr : Rk l r) {x : Int} {p : Nd} (h : getN l x = some p) : dp l r x = dp l r p.on + 1 := by
  unfold dp
  rw [dpF_some h, dpF_enough hr _ _ (rk_get hr h)]
theorem dp_zero {l : List Nd} {r : Int → Nat} (hr : Rk l r) {x : Int} : dp l r x = 0 ↔ getN l x = none := by
  constructor
  · intro h
    cases hg : getN l x with
    | none => rfl
    | some p => rw [dp_some hr hg] at h; omega
  · exact dp_none
/-- A tree: each number once, what a node hangs on is the root or there, and ranks. -/
structure TreeOk (l : List Nd) (r : Int → Nat) : Prop where
  uq : Uq l
  rk : Rk l r
  cl : ∀ p ∈ l, p.on = 0 ∨ ∃ q, getN l p.on = some q
  root : getN l 0 = none
theorem dp_one {l : List Nd} {r : Int → Nat} (h : TreeOk l r) {x : Int} {p : Nd} (hp : getN l x = some p) : dp l r x = 1 ↔ p.on = 0 := by
  rw [dp_some h.rk hp]
  constructor
  · intro h1
    have h2 : getN l p.on = none := (dp_zero h.rk).1 (by omega)
    rcases h.cl p (getN_mem hp).1 with h3 | ⟨q, h3⟩
    · exact h3
    · rw [h2] at h3; cases h3
  · intro h1
    rw [h1, dp_none h.root]
/-- The nodes of a depth, rising. -/
def levL (l : List Nd) (r : Int → Nat) (d : Nat) : List Int := sortI ((l.filter (fun p => decide (dp l r p.id = d))).map (·.id))
theorem mem_lev {l : List Nd} {r : Int → Nat} (h : Uq l) {d : Nat} {x : Int} : x ∈ levL l r d ↔ (∃ p, getN l x = some p) ∧ dp l r x = d := by
  unfold levL
  rw [(sortI_perm _).mem_iff, List.mem_map]
  constructor
  · rintro ⟨p, hp, rfl⟩
    rw [List.mem_filter] at hp
    exact ⟨⟨p, getN_of_mem h hp.1⟩, by simpa using hp.2⟩
  · rintro ⟨⟨p, hp⟩, hd⟩
    have := getN_mem hp
    exact ⟨p, List.mem_filter.2 ⟨this.1, by rw [this.2]; simpa using hd⟩, this.2⟩
theorem nodup_ids {l : List Nd} (h : Uq l) : (l.map (·.id)).Nodup := by
  unfold List.Nodup
  rw [List.pairwise_map]
  exact h
theorem lev_nodup {l : List Nd} {r : Int → Nat} (h : Uq l) (d : Nat) : (levL l r d).Nodup := by
  unfold levL
  exact (sortI_perm _).nodup_iff.2 (nodup_ids (List.Pairwise.filter _ h))
theorem lev_kids0 {l : List Nd} {r : Int → Nat} (h : TreeOk l r) : kidsL l 0 = levL l r 1 := by
  refine sorted_one ((List.perm_ext_iff_of_nodup (kids_nodup h.uq 0) (lev_nodup h.uq 1)).2 fun x => ?_) (sortI_sorted _) (sortI_sorted _)
  rw [mem_kids, mem_lev h.uq]
  constructor
  · rintro ⟨p, hp, h1, rfl⟩
    have e := getN_of_mem h.uq hp
    exact ⟨⟨p, e⟩, (dp_one h e).2 h1⟩
  · rintro ⟨⟨p, hp⟩, hd⟩
    exact ⟨p, (getN_mem hp).1, (dp_one h hp).1 hd, (getN_mem hp).2⟩
theorem lev_next {l : List Nd} {r : Int → Nat} (h : TreeOk l r) (d : Nat) (hd : 1 ≤ d) : sortI ((levL l r d).flatMap (kidsL l)) = levL l r (d + 1) := by
  refine sortI_is ((List.perm_ext_iff_of_nodup ?_ (lev_nodup h.uq (d + 1))).2 fun x => ?_) (sortI_sorted _)
  · unfold List.Nodup
    rw [List.pairwise_flatMap]
    refine ⟨fun a _ => kids_nodup h.uq a, ?_⟩
    refine (lev_nodup h.uq d).imp fun {a b} hab x hx y hy e => ?_
    subst e
    obtain ⟨p, hp, h1, h2⟩ := mem_kids.1 hx
    obtain ⟨q, hq, h3, h4⟩ := mem_kids.1 hy
    have e1 := getN_of_mem h.uq hp
    have e2 := getN_of_mem h.uq hq
    rw [h2] at e1
    rw [h4, e1] at e2
    injection e2 with e2
    subst e2
    exact hab (h1.symm.trans h3)
  · rw [List.mem_flatMap, mem_lev h.uq]
    constructor
    · rintro ⟨y, hy, hx⟩
      obtain ⟨p, hp, h1, rfl⟩ := mem_kids.1 hx
      have e := getN_of_mem h.uq hp
      refine ⟨⟨p, e⟩, ?_⟩
      rw [dp_some h.rk e, h1, ((mem_lev h.uq).1 hy).2]
    · rintro ⟨⟨p, hp⟩, hx⟩
      rw [dp_some h.rk hp] at hx
      have hpm := getN_mem hp
      refine ⟨p.on, (mem_lev h.uq).2 ⟨?_, by omega⟩, mem_kids.2 ⟨p, hpm.1, rfl, hpm.2⟩⟩
      cases hg : getN l p.on with
      | none => rw [dp_none hg] at hx; omega
      | some q => exact ⟨q, rfl⟩
/-- A level without nodes: none is deeper. -/
theorem lev_empty {l : List Nd} {r : Int → Nat} (h : TreeOk l r) {d : Nat} (hd : 1 ≤ d) (he : levL l r d = []) : ∀ e, d ≤ e → levL l r e = [] := by
  intro e hde
  induction e with
  | zero => omega
  | succ e ih =>
    rcases Nat.lt_or_ge d (e + 1) with h1 | h1
    · rw [← lev_next h e (by omega), ih (by omega)]
      simp [sortI]
    · obtain rfl : d = e + 1 := by omega
      exact he
/-- The levels below d, one behind the other. -/
def ordD (l : List Nd) (r : Int → Nat) (d : Nat) : List Int := (List.range d).flatMap (fun k => levL l r (k + 1))
theorem ordD_zero (l : List Nd) (r : Int → Nat) : ordD l r 0 = [] := rfl
theorem ordD_succ (l : List Nd) (r : Int → Nat) (d : Nat) : ordD l r (d + 1) = ordD l r d ++ levL l r (d + 1) := by
  unfold ordD
  rw [List.range_succ, List.flatMap_append]
  simp
theorem count_le (l : List Nd) (f : Nd → Nat) (d : Nat) : ((List.range d).map (fun k => (l.filter (fun p => decide (f p = k + 1))).length)).sum + (l.filter (fun p => decide (d < f p))).length ≤ l.length := by
  induction d with
  | zero => simp; exact List.length_filter_le _ _
  | succ d ih =>
    rw [List.range_succ, List.map_append, List.sum_append]
    have e : (l.filter (fun p => decide (f p = d + 1))).length + (l.filter (fun p => decide (d + 1 < f p))).length ≤ (l.filter (fun p => decide (d < f p))).length := by
      clear ih
      induction l with
      | nil => simp
      | cons p t ih2 =>
        simp only [List.filter_cons]
        by_cases h1 : f p = d + 1
        · simp [h1]; omega
        · by_cases h2 : d + 1 < f p
          · have h3 : d < f p := by omega
            simp [h1, h2, h3]; omega
          · have h3 : ¬ d < f p := by omega
            simp [h1, h2, h3]; omega
    simp only [List.map_cons, List.map_nil, List.sum_cons, List.sum_nil]
    omega
theorem ordD_length (l : List Nd) (r : Int → Nat) (d : Nat) : (ordD l r d).length ≤ l.length := by
  have h := count_le l (fun p => dp l r p.id) d
  have e : (ordD l r d).length = ((List.range d).map (fun k => (l.filter (fun p => decide (dp l r p.id = k + 1))).length)).sum := by
    unfold ordD
    rw [List.length_flatMap]
    congr 1
    refine List.map_congr_left fun k _ => ?_
    unfold levL
    rw [sortI_length, List.length_map]
  omega
theorem lev_length (l : List Nd) (r : Int → Nat) (d : Nat) : (levL l r d).length ≤ l.length := by
  unfold levL
  rw [sortI_length, List.length_map]
  exact List.length_filter_le _ _
/-- No node is deeper than there are nodes. -/
theorem dp_le {l : List Nd} {r : Int → Nat} (h : TreeOk l r) (x : Int) : dp l r x ≤ l.length := by
  have hx : ∀ n, ∀ x, dp l r x = n → n ≤ (ordD l r n).length := by
    intro n
    induction n with
    | zero => intro x _; omega
    | succ n ih =>
      intro x hx
      cases hg : getN l x with
      | none => rw [dp_none hg] at hx; omega
      | some p =>
        have h1 := dp_some h.rk hg
        have h2 := ih p.on (by omega)
        rw [ordD_succ, List.length_append]
        have h3 : x ∈ levL l r (n + 1) := (mem_lev h.uq).2 ⟨⟨p, hg⟩, hx⟩
        have h4 : 0 < (levL l r (n + 1)).length := List.length_pos_of_mem h3
        omega
  exact Nat.le_trans (hx _ x rfl) (ordD_length l r _)
/-- All nodes, by depth. -/
def ordL (l : List Nd) (r : Int → Nat) : List Int := ordD l r l.length
theorem ordD_done {l : List Nd} {r : Int → Nat} (h : TreeOk l r) {d : Nat} (he : levL l r (d + 1) = []) : ordD l r d = ordL l r := by
  unfold ordL
  have up : ∀ e, d ≤ e → ordD l r e = ordD l r d := by
    intro e
    induction e with
    | zero => intro h; have : d = 0 := by omega
              rw [this]
    | succ e ih =>
      intro h1
      rcases Nat.lt_or_ge e d with h2 | h2
      · have : d = e + 1 := by omega
        rw [this]
      · rw [ordD_succ, ih h2, lev_empty h (by omega) he (e + 1) (by omega), List.append_nil]
  rcases Nat.lt_or_ge l.length d with h1 | h1
  · have down : ∀ e, l.length ≤ e → ordD l r e = ordD l r l.length := by
      intro e
      induction e with
      | zero => intro h2; have : l.length = 0 := by omega
                rw [this]
      | succ e ih =>
        intro h2
        rcases Nat.lt_or_ge e l.length with h3 | h3
        · have : l.length = e + 1 := by omega
          rw [this]
        · rw [ordD_succ, ih h3]
          have : levL l r (e + 1) = [] := by
            refine List.eq_nil_iff_forall_not_mem.2 fun x hx => ?_
            have h4 := ((mem_lev h.uq).1 hx).2
            have h5 := dp_le h x
            omega
          rw [this, List.append_nil]
    exact down d (by omega)
  · exact (up _ h1).symm
end Go.Proofs.Ytifgbnjpiphidaa
