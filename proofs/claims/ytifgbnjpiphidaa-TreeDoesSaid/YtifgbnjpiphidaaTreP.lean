/- Plain law: what is called keeps a tree a tree. -/
import Derived.Test.YtifgbnjpiphidaaTreD
namespace Go.Proofs.Ytifgbnjpiphidaa
set_option linter.unusedVariables false
def OkT (l : List Nd) : Prop := ∃ r, TreeOk l r
theorem dp_any {l : List Nd} {r r' : Int → Nat} (h : Rk l r) (h' : Rk l r') (x : Int) : dp l r x = dp l r' x := by
  unfold dp
  rw [← dpF_enough h (r x + r' x + 1) x (by omega), ← dpF_enough h' (r x + r' x + 1) x (by omega)]
theorem abv_rk {l : List Nd} {r : Int → Nat} (h : Rk l r) {i x : Int} (ha : Abv l i x) : r i < r x := by
  induction ha with
  | here h1 h2 => subst h2; exact rk_get h h1
  | up h1 _ ih => have := rk_get h h1; omega
/-- A subtree is moved below o, that is no part of it. -/
theorem rk_move {l : List Nd} {r : Int → Nat} (hr : Rk l r) (S : Int → Prop) (o : Int) (f : Nd → Nd) (hS : ∀ p ∈ l, S p.on → S p.id) (ho : ¬ S o) (hf : ∀ p ∈ l, (f p).id = p.id ∧ ((f p).on = p.on ∨ ((f p).on = o ∧ S p.id))) : ∃ r', Rk (l.map f) r' := by
  classical
  refine ⟨fun x => if S x then r x + (r o + 1) else r x, fun q hq => ?_⟩
  obtain ⟨p, hp, rfl⟩ := List.mem_map.1 hq
  obtain ⟨h1, h2⟩ := hf p hp
  have h3 := hr p hp
  show (if S (f p).on then r (f p).on + (r o + 1) else r (f p).on) < (if S (f p).id then r (f p).id + (r o + 1) else r (f p).id)
  rw [h1]
  rcases h2 with h2 | ⟨h2, h4⟩
  · rw [h2]
    by_cases c1 : S p.on
    · rw [if_pos c1, if_pos (hS p hp c1)]; omega
    · rw [if_neg c1]; split <;> omega
  · rw [h2, if_neg ho, if_pos h4]; omega
/-- Below i, or i itself. -/
def Sub (l : List Nd) (i x : Int) : Prop := x = i ∨ Abv l i x
theorem sub_up {l : List Nd} (hu : Uq l) {i : Int} {p : Nd} (hp : p ∈ l) (h : Sub l i p.on) : Sub l i p.id := by
  have hg := getN_of_mem hu hp
  rcases h with h | h
  · exact .inr (.here hg h)
  · exact .inr (.up hg h)
theorem sub_rk {l : List Nd} {r : Int → Nat} (h : Rk l r) {i x : Int} (hs : Sub l i x) : r i ≤ r x := by
  rcases hs with h1 | h1
  · rw [h1]; exact Nat.le_refl _
  · exact Nat.le_of_lt (abv_rk h h1)
theorem getN_some_map {l : List Nd} {f : Nd → Nd} (hf : ∀ p, (f p).id = p.id) {j : Int} : (∃ q, getN (l.map f) j = some q) ↔ ∃ q, getN l j = some q := by
  rw [getN_map l f hf]
  cases getN l j <;> simp
theorem getN_none_map {l : List Nd} {f : Nd → Nd} (hf : ∀ p, (f p).id = p.id) {j : Int} : getN (l.map f) j = none ↔ getN l j = none := by
  rw [getN_map l f hf]
  cases getN l j <;> simp
/-- A tree of which parents turn; what they turn to is the root or there. -/
theorem treeOk_map {l : List Nd} {r r' : Int → Nat} (h : TreeOk l r) (f : Nd → Nd) (hf : ∀ p, (f p).id = p.id) (hr : Rk (l.map f) r') (hc : ∀ p ∈ l, (f p).on = p.on ∨ (f p).on = 0 ∨ ∃ q, getN l (f p).on = some q) : TreeOk (l.map f) r' where
  uq := h.uq.map f hf
  rk := hr
  cl := by
    intro q hq
    obtain ⟨p, hp, rfl⟩ := List.mem_map.1 hq
    rcases hc p hp with h1 | h1 | h1
    · rw [h1]
      rcases h.cl p hp with h2 | h2
      · exact .inl h2
      · exact .inr ((getN_some_map hf).2 h2)
    · exact .inl h1
    · exact .inr ((getN_some_map hf).2 h1)
  root := (getN_none_map hf).2 h.root
theorem hangN_id (i o : Int) (p : Nd) : (if p.id = i then (⟨p.id, o, p.wt⟩ : Nd) else p).id = p.id := by split <;> rfl
/-- i hung on o, with whatever weight; o is not below i. -/
theorem ok_hang {l : List Nd} (h : OkT l) (i o : Int) (g : Nd → Int) (hs : ¬ Sub l i o) (ho : o = 0 ∨ ∃ q, getN l o = some q) : OkT (l.map (fun p => if p.id = i then ⟨p.id, o, g p⟩ else p)) := by
  obtain ⟨r, h⟩ := h
  have hf : ∀ p : Nd, (if p.id = i then (⟨p.id, o, g p⟩ : Nd) else p).id = p.id := fun p => by split <;> rfl
  obtain ⟨r', hr'⟩ := rk_move h.rk (Sub l i) o (fun p => if p.id = i then ⟨p.id, o, g p⟩ else p) (fun p hp => sub_up h.uq hp) hs (fun p hp => ⟨hf p, by
    by_cases c : p.id = i
    · right; rw [if_pos c]; exact ⟨rfl, .inl c⟩
    · left; rw [if_neg c]⟩)
  refine ⟨r', treeOk_map h _ hf hr' fun p hp => ?_⟩
  by_cases c : p.id = i
  · right; rw [if_pos c]; exact ho
  · left; rw [if_neg c]
/-- All that hangs on o, but for i (which hangs on o as well), hung on i. -/
theorem ok_take {l : List Nd} (h : OkT l) (i o : Int) {p : Nd} (hp : getN l i = some p) (hpo : p.on = o) : OkT (takeN l i o) := by
  obtain ⟨r, h⟩ := h
  have hio := rk_get h.rk hp
  rw [hpo] at hio
  obtain ⟨r', hr'⟩ := rk_move h.rk (fun x => ∃ q ∈ l, q.on = o ∧ q.id ≠ i ∧ Sub l q.id x) i (fun p => if p.on = o ∧ p.id ≠ i then ⟨p.id, i, p.wt⟩ else p) (fun q hq ⟨s, hs, h1, h2, h3⟩ => ⟨s, hs, h1, h2, sub_up h.uq hq h3⟩) (fun ⟨s, hs, h1, h2, h3⟩ => by
    rcases h3 with h3 | h3
    · exact h2 h3.symm
    · have e := h.rk s hs
      rw [h1] at e
      cases h3 with
      | here h4 h5 => rw [hp] at h4; injection h4 with h4; subst h4; rw [hpo] at h5; rw [h5] at e; omega
      | up h4 h5 =>
        rw [hp] at h4; injection h4 with h4; subst h4
        rw [hpo] at h5
        have := abv_rk h.rk h5
        omega) (fun q hq => ⟨takeN_id i o q, by
    by_cases c : q.on = o ∧ q.id ≠ i
    · right; rw [if_pos c]; exact ⟨rfl, q, hq, c.1, c.2, .inl rfl⟩
    · left; rw [if_neg c]⟩)
  refine ⟨r', treeOk_map h _ (takeN_id i o) hr' fun q hq => ?_⟩
  by_cases c : q.on = o ∧ q.id ≠ i
  · right; rw [if_pos c]; exact .inr ⟨p, hp⟩
  · left; rw [if_neg c]
theorem put_take (l : List Nd) (i o t : Int) : putN (takeN l i o) ⟨i, o, t⟩ = takeN (putN l ⟨i, o, t⟩) i o := by
  have e : (getN (takeN l i o) i).isSome = (getN l i).isSome := by rw [getN_take]; cases getN l i <;> rfl
  unfold putN
  simp only [e]
  split
  · unfold takeN
    rw [List.map_map, List.map_map]
    refine List.map_congr_left fun p _ => ?_
    simp only [Function.comp]
    by_cases h : p.id = i
    · simp [h]
    · by_cases h2 : p.on = o <;> simp [h, h2]
  · unfold takeN
    rw [List.map_append]
    simp
theorem getN_put_same (l : List Nd) (x : Nd) : getN (putN l x) x.id = some x := by rw [getN_put, if_pos rfl]
theorem ok_lay {l : List Nd} (i : Int) (d : Dp) (h : OkT (putN l ⟨i, d.on, d.wt⟩)) : OkT (layL l i d) := by
  unfold layL
  cases d.ex with
  | false => exact h
  | true =>
    simp only [if_true]
    rw [put_take]
    exact ok_take h i d.on (getN_put_same l ⟨i, d.on, d.wt⟩) rfl
theorem known_on (l : List Nd) (d : Dp) : (knownL l d).on = 0 ∨ ∃ q, getN l (knownL l d).on = some q := by
  unfold knownL
  split
  · exact .inl rfl
  · next h =>
    by_cases h0 : d.on = 0
    · exact .inl h0
    · right
      cases hg : getN l d.on with
      | none => exact absurd ⟨h0, hg⟩ h
      | some q => exact ⟨q, rfl⟩
theorem known_ne {l : List Nd} {d : Dp} {i : Int} (hi : i ≠ 0) (h : d.on ≠ i) : (knownL l d).on ≠ i := by
  unfold knownL
  split
  · exact fun e => hi e.symm
  · exact h
theorem ok_insert {l : List Nd} (h : OkT l) (i : Int) (d : Dp) (hi : i ≠ 0) (hn : getN l i = none) (hd : d.on ≠ i) : OkT (layL l i (knownL l d)) := by
  have h1 := known_on l d
  have h2 := known_ne (l := l) hi hd
  refine ok_lay i _ ?_
  generalize knownL l d = k at *
  obtain ⟨r, h⟩ := h
  have e : putN l ⟨i, k.on, k.wt⟩ = l ++ [⟨i, k.on, k.wt⟩] := by unfold putN; simp [hn]
  rw [e]
  have hne : ∀ p ∈ l, p.on ≠ i := fun p hp hh => by
    rcases h.cl p hp with h3 | ⟨q, h3⟩
    · rw [hh] at h3; exact hi h3
    · rw [hh, hn] at h3; cases h3
  refine ⟨fun x => if x = i then r k.on + 1 else r x, h.uq.snoc _ hn, fun p hp => ?_, fun p hp => ?_, ?_⟩
  · rcases List.mem_append.1 hp with hp | hp
    · have h4 := getN_none.1 hn p hp
      show (if p.on = i then r k.on + 1 else r p.on) < (if p.id = i then r k.on + 1 else r p.id)
      rw [if_neg (hne p hp), if_neg h4]
      exact h.rk p hp
    · simp at hp
      subst hp
      show (if k.on = i then r k.on + 1 else r k.on) < (if i = i then r k.on + 1 else r i)
      rw [if_neg h2, if_pos rfl]
      omega
  · have hs : ∀ j, (∃ q, getN l j = some q) → ∃ q, getN (l ++ [⟨i, k.on, k.wt⟩]) j = some q := fun j ⟨q, hq⟩ => ⟨q, by rw [getN_append, hq]; rfl⟩
    rcases List.mem_append.1 hp with hp | hp
    · rcases h.cl p hp with h3 | h3
      · exact .inl h3
      · exact .inr (hs _ h3)
    · simp at hp
      subst hp
      rcases h1 with h3 | h3
      · exact .inl h3
      · exact .inr (hs _ h3)
  · rw [getN_append, h.root, getN_cons, if_neg hi]
    rfl
theorem put_is_hang {l : List Nd} {i o t : Int} {p : Nd} (h : getN l i = some p) : putN l ⟨i, o, t⟩ = l.map (fun p => if p.id = i then ⟨p.id, o, t⟩ else p) := by
  unfold putN
  simp only [h, Option.isSome_some, if_true]
  refine List.map_congr_left fun q _ => ?_
  by_cases c : q.id = i <;> simp [c]
theorem ok_move1 {l : List Nd} (h : OkT l) (i : Int) (d : Dp) {p : Nd} (hp : getN l i = some p) (hd : d.on ≠ i) (ha : ¬ Abv l i (knownL l d).on) : OkT (layL l i (knownL l d)) := by
  have hi : i ≠ 0 := fun e => by
    obtain ⟨r, h⟩ := h
    rw [e, h.root] at hp
    cases hp
  have h1 := known_on l d
  have h2 := known_ne (l := l) hi hd
  refine ok_lay i _ ?_
  generalize knownL l d = k at *
  rw [put_is_hang hp]
  exact ok_hang h i k.on (fun _ => k.wt) (fun hs => by
    rcases hs with hs | hs
    · exact h2 hs
    · exact ha hs) h1
theorem abv_hang {l : List Nd} (hu : Uq l) {r : Int → Nat} (hr : Rk l r) {i o j x : Int} (ho : r x < r i) (h : Abv (hangN l i o) j x) : Abv l j x := by
  have key : ∀ n x, r x = n → r x < r i → Abv (hangN l i o) j x → Abv l j x := by
    intro n
    induction n using Nat.strongRecOn with
    | _ n ih =>
      intro x hx hlt ha
      have hxi : x ≠ i := fun e => by rw [e] at hlt; omega
      have e : getN (hangN l i o) x = getN l x := by rw [getN_hang, if_neg hxi]
      cases ha with
      | here h1 h2 => rw [e] at h1; exact .here h1 h2
      | up h1 h2 =>
        rw [e] at h1
        have h3 := rk_get hr h1
        exact .up h1 (ih _ (by omega) _ rfl (by omega) h2)
  exact key _ x rfl ho h
theorem known_hang (l : List Nd) (d : Dp) (o : Int) (hk : (knownL l d).on ≠ 0) : knownL l d = d := by
  unfold knownL at hk ⊢
  split
  · next h => rw [if_pos h] at hk; exact absurd rfl hk
  · rfl
theorem ok_move2 {l : List Nd} (h : OkT l) (i : Int) (d : Dp) {p : Nd} (hp : getN l i = some p) (ha : Abv l i (knownL l d).on) : OkT (layL (hangN l (knownL l d).on p.on) i (knownL l d)) := by
  generalize knownL l d = k at *
  obtain ⟨r, h⟩ := h
  have hpr := rk_get h.rk hp
  have hkr := abv_rk h.rk ha
  have hki : k.on ≠ i := fun e => by rw [e] at hkr; omega
  have hkq : ∃ q, getN l k.on = some q := by
    cases ha with
    | here h1 _ => exact ⟨_, h1⟩
    | up h1 _ => exact ⟨_, h1⟩
  have hpo : p.on = 0 ∨ ∃ q, getN l p.on = some q := h.cl p (getN_mem hp).1
  have h1 : OkT (hangN l k.on p.on) := ok_hang ⟨r, h⟩ k.on p.on (fun q => q.wt) (fun hs => by have := sub_rk h.rk hs; omega) hpo
  refine ok_lay i k ?_
  have hgi : getN (hangN l k.on p.on) i = some p := by rw [getN_hang, if_neg (fun e => hki e.symm)]; exact hp
  rw [put_is_hang hgi]
  refine ok_hang h1 i k.on (fun _ => k.wt) (fun hs => ?_) (.inr ?_)
  · rcases hs with hs | hs
    · exact hki hs
    · obtain ⟨q, hq⟩ := hkq
      have e : getN (hangN l k.on p.on) k.on = some ⟨k.on, p.on, q.wt⟩ := by rw [getN_hang, if_pos rfl, hq]; rfl
      have hx : p.on = i ∨ Abv (hangN l k.on p.on) i p.on := by
        cases hs with
        | here h2 h3 => rw [e] at h2; injection h2 with h2; rw [← h2] at h3; exact .inl h3
        | up h2 h3 => rw [e] at h2; injection h2 with h2; rw [← h2] at h3; exact .inr h3
      rcases hx with hx | hx
      · rw [hx] at hpr; omega
      · have := abv_rk h.rk (abv_hang h.uq h.rk (show r p.on < r k.on by omega) hx)
        omega
  · obtain ⟨q, hq⟩ := hkq
    rw [getN_hang, if_pos rfl, hq]
    exact ⟨_, rfl⟩
/-- What a kid of a removed node gets. -/
def shareI (t xw a : Int) : Int := max 1 (t * xw / a)
def shareN (l : List Nd) (ks : List Int) (x : Nd) (a : Int) : List Nd := l.map (fun p => if p.id ∈ ks then ⟨p.id, x.on, shareI p.wt x.wt a⟩ else p)
theorem shareN_id (ks : List Int) (x : Nd) (a : Int) (p : Nd) : (if p.id ∈ ks then (⟨p.id, x.on, shareI p.wt x.wt a⟩ : Nd) else p).id = p.id := by split <;> rfl
theorem shareN_nil (l : List Nd) (x : Nd) (a : Int) : shareN l [] x a = l := by unfold shareN; simp
theorem length_share (l : List Nd) (ks : List Int) (x : Nd) (a : Int) : (shareN l ks x a).length = l.length := List.length_map _
theorem getN_share (l : List Nd) (ks : List Int) (x : Nd) (a : Int) (j : Int) : getN (shareN l ks x a) j = (getN l j).map (fun p => if p.id ∈ ks then ⟨p.id, x.on, shareI p.wt x.wt a⟩ else p) := getN_map l _ (shareN_id ks x a) j
theorem shareN_snoc {l : List Nd} (hu : Uq l) (ks : List Int) (x : Nd) (a : Int) (k : Int) (p : Nd) (hp : getN l k = some p) (hk : k ∉ ks) : shareN l (ks ++ [k]) x a = putN (shareN l ks x a) ⟨k, x.on, shareI p.wt x.wt a⟩ := by
  have e : getN (shareN l ks x a) k = some (if p.id ∈ ks then ⟨p.id, x.on, shareI p.wt x.wt a⟩ else p) := by rw [getN_share, hp]; rfl
  rw [put_is_hang e]
  unfold shareN
  rw [List.map_map]
  refine List.map_congr_left fun q hq => ?_
  simp only [Function.comp, List.mem_append, List.mem_singleton]
  by_cases h : q.id = k
  · have hg := getN_of_mem hu hq
    rw [h, hp] at hg
    injection hg with hg
    subst hg
    rw [h]
    simp [hk, h]
  · by_cases h2 : q.id ∈ ks <;> simp [h, h2]
def dropN (l : List Nd) (i : Int) : List Nd := l.filter (fun p => decide (p.id ≠ i))
theorem getN_drop (l : List Nd) (i j : Int) : getN (dropN l i) j = if j = i then none else getN l j := by
  unfold dropN
  induction l with
  | nil => simp [getN]
  | cons p t ih =>
    rw [List.filter_cons]
    by_cases h : p.id = i
    · simp only [h, ne_eq, not_true, decide_false, Bool.false_eq_true, if_false, ih, getN_cons]
      by_cases h2 : j = i
      · simp [h2]
      · rw [if_neg h2, if_neg h2, if_neg (fun e => h2 e.symm)]
    · simp only [h, ne_eq, not_false_eq_true, decide_true, if_true, getN_cons, ih]
      by_cases h2 : j = i
      · subst h2; simp [h]
      · simp [h2]
theorem Uq.drop {l : List Nd} (h : Uq l) (i : Int) : Uq (dropN l i) := List.Pairwise.filter _ h
theorem length_drop {l : List Nd} (h : Uq l) {i : Int} {p : Nd} (hp : getN l i = some p) : (dropN l i).length = l.length - 1 := by
  unfold dropN
  induction l with
  | nil => cases hp
  | cons q t ih =>
    cases h with
    | cons h1 h2 =>
      rw [getN_cons] at hp
      rw [List.filter_cons]
      by_cases c : q.id = i
      · have e : t.filter (fun p => decide (p.id ≠ i)) = t := List.filter_eq_self.2 fun s hs => by
          have := h1 s hs
          simp
          rw [← c]
          exact fun e => this e.symm
        simp only [c, ne_eq, not_true, decide_false, Bool.false_eq_true, if_false]
        simp only [ne_eq] at e
        rw [e]
        simp
      · rw [if_neg c] at hp
        have e := ih h2 hp
        have hpos : 0 < t.length := List.length_pos_of_mem (getN_mem hp).1
        simp only [c, ne_eq, not_false_eq_true, decide_true, if_true, List.length_cons]
        simp only [ne_eq] at e
        omega
/-- The sum of the weights of some nodes. -/
def sumW (l : List Nd) (ks : List Int) : Int := (ks.map (fun k => ((getN l k).getD ⟨0, 0, 0⟩).wt)).sum
theorem sumW_nil (l : List Nd) : sumW l [] = 0 := rfl
theorem sumW_snoc (l : List Nd) (ks : List Int) (k : Int) : sumW l (ks ++ [k]) = sumW l ks + ((getN l k).getD ⟨0, 0, 0⟩).wt := by
  unfold sumW
  rw [List.map_append, List.sum_append]
  simp
def allW (l : List Nd) (i : Int) : Int := ((l.filter (fun p => decide (p.on = i))).map (·.wt)).sum
theorem sum_perm {a b : List Int} (h : a.Perm b) : a.sum = b.sum := by
  induction h with
  | nil => rfl
  | cons x _ ih => simp [ih]
  | swap x y l => simp; omega
  | trans _ _ ih1 ih2 => rw [ih1, ih2]
theorem sumW_kids {l : List Nd} (h : Uq l) (i : Int) : sumW l (kidsL l i) = allW l i := by
  unfold sumW allW kidsL
  rw [sum_perm ((sortI_perm _).map _), List.map_map]
  congr 1
  refine List.map_congr_left fun p hp => ?_
  have := getN_of_mem h (List.mem_filter.1 hp).1
  simp [this]
def remL (l : List Nd) (i : Int) (x : Nd) : List Nd := dropN (shareN l (kidsL l i) x (allW l i)) i
theorem mem_kids_of {l : List Nd} (h : Uq l) {i : Int} {p : Nd} (hp : p ∈ l) : p.id ∈ kidsL l i ↔ p.on = i := by
  rw [mem_kids]
  constructor
  · rintro ⟨q, hq, h1, h2⟩
    have e1 := getN_of_mem h hq
    rw [h2, getN_of_mem h hp] at e1
    injection e1 with e1
    rw [e1]; exact h1
  · intro h1
    exact ⟨p, hp, h1, rfl⟩
theorem ok_rem {l : List Nd} (h : OkT l) (i : Int) {x : Nd} (hx : getN l i = some x) : OkT (remL l i x) := by
  obtain ⟨r, h⟩ := h
  have hxr := rk_get h.rk hx
  have hxi : i ≠ 0 := fun e => by rw [e, h.root] at hx; cases hx
  obtain ⟨r', hr'⟩ := rk_move h.rk (Abv l i) x.on (fun p => if p.id ∈ kidsL l i then ⟨p.id, x.on, shareI p.wt x.wt (allW l i)⟩ else p) (fun p hp hs => .up (getN_of_mem h.uq hp) hs) (fun hs => by have := abv_rk h.rk hs; omega) (fun p hp => ⟨shareN_id _ _ _ p, by
    by_cases c : p.id ∈ kidsL l i
    · right; rw [if_pos c]; exact ⟨rfl, .here (getN_of_mem h.uq hp) ((mem_kids_of h.uq hp).1 c)⟩
    · left; rw [if_neg c]⟩)
  have ok : TreeOk (shareN l (kidsL l i) x (allW l i)) r' := treeOk_map h _ (shareN_id _ _ _) hr' fun p hp => by
    by_cases c : p.id ∈ kidsL l i
    · right; rw [if_pos c]; exact h.cl x (getN_mem hx).1
    · left; rw [if_neg c]
  refine ⟨r', ok.uq.drop i, fun p hp => ok.rk p (List.mem_filter.1 hp).1, fun p hp => ?_, ?_⟩
  · have hp1 := (List.mem_filter.1 hp).1
    rcases ok.cl p hp1 with h1 | ⟨q, h1⟩
    · exact .inl h1
    · right
      show ∃ q, getN (dropN _ i) p.on = some q
      rw [getN_drop]
      have hne : p.on ≠ i := by
        obtain ⟨s, hs, e⟩ := List.mem_map.1 hp1
        rw [← e]
        by_cases c : s.id ∈ kidsL l i
        · rw [if_pos c]
          show x.on ≠ i
          intro e2
          rw [e2] at hxr
          omega
        · rw [if_neg c]
          exact fun e2 => c ((mem_kids_of h.uq hs).2 e2)
      rw [if_neg hne]
      exact ⟨q, h1⟩
  · show getN (dropN _ i) 0 = none
    rw [getN_drop, if_neg (fun e => hxi e.symm)]
    exact ok.root
theorem share_bd {t xw a : Int} (ht : 1 ≤ t) (hta : t ≤ a) (hx : 1 ≤ xw ∧ xw ≤ 256) : 1 ≤ shareI t xw a ∧ shareI t xw a ≤ 256 := by
  have h : t * xw / a ≤ xw := Int.ediv_le_of_le_mul (by omega) (by rw [Int.mul_comm t xw]; exact Int.mul_le_mul_of_nonneg_left hta (by omega))
  unfold shareI
  omega
theorem wt_le_sum {l : List Nd} {ks : List Int} (h : ∀ k ∈ ks, 0 ≤ ((getN l k).getD ⟨0, 0, 0⟩).wt) {k : Int} (hk : k ∈ ks) : ((getN l k).getD ⟨0, 0, 0⟩).wt ≤ sumW l ks := by
  have pos : ∀ ks : List Int, (∀ k ∈ ks, 0 ≤ ((getN l k).getD ⟨0, 0, 0⟩).wt) → 0 ≤ sumW l ks := by
    intro ks
    induction ks with
    | nil => intro _; exact Int.le_refl _
    | cons x r ih =>
      intro h
      have h1 := h x (by simp)
      have h2 := ih fun k hk => h k (List.mem_cons_of_mem _ hk)
      unfold sumW at *
      simp only [List.map_cons, List.sum_cons]
      omega
  induction ks with
  | nil => cases hk
  | cons x r ih =>
    have h1 := h x (by simp)
    have h2 := pos r fun k hk => h k (List.mem_cons_of_mem _ hk)
    rcases List.mem_cons.1 hk with rfl | hk
    · unfold sumW at *
      simp only [List.map_cons, List.sum_cons]
      omega
    · have h3 := ih (fun k hk => h k (List.mem_cons_of_mem _ hk)) hk
      unfold sumW at *
      simp only [List.map_cons, List.sum_cons]
      omega
end Go.Proofs.Ytifgbnjpiphidaa
