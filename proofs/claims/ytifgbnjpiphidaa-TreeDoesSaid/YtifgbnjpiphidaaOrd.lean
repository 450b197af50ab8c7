/- A region that draws its order and ends in a store that waits for all else: one order serves, and the loads' cells need not stand behind that store. -/
import Derived.Deep.RegionHeld3
import Derived.RegionTactic
namespace Go.Proofs.Ytifgbnjpiphidaa
open Go
set_option linter.unusedVariables false

/-- The exit of what stands ahead of operation m: m itself, then the true exit. -/
def tillLast (P : Program) (ops : Array Oper) (m : Nat) (Q : Exit → Act → World → Prop) : Exit → Act → World → Prop
  | .normal, a, w => wpOp P ops Q m (fun a' w' => Q .normal a' w') a w
  | e, a, w => Q e a w

/-- Each operation waits for earlier ones alone; for each but the last there is a later one that waits for it. -/
def lastB (ops : Array Oper) (m : Nat) : Bool :=
  decide (ops.size = m + 1) && ((List.range (m + 1)).all fun i => match ops[i]? with
    | some o => o.after.all fun e => !Region.binds .any e || decide (e.on < i)
    | none => false) && ((List.range m).all fun i => (List.range (m + 1)).any fun j => decide (i < j) && match ops[j]? with
    | some o => o.after.any fun e => Region.binds .any e && e.on == i
    | none => false)

section
variable {P : Program} {ops : Array Oper} {Q : Exit → Act → World → Prop} {S : World → Prop}

theorem lastB_size {m : Nat} (h : lastB ops m = true) : ops.size = m + 1 := by
  simp only [lastB, Bool.and_eq_true, decide_eq_true_eq] at h
  exact h.1.1
theorem lastB_early {m i : Nat} {o : Oper} (h : lastB ops m = true) (ho : ops[i]? = some o) : ∀ e ∈ o.after, Region.binds .any e = true → e.on < i := by
  have hs := lastB_size h
  simp only [lastB, Bool.and_eq_true] at h
  have hi : i < m + 1 := by rw [← hs]; exact (Array.getElem?_eq_some_iff.1 ho).1
  have h1 := List.all_eq_true.1 h.1.2 i (List.mem_range.2 hi)
  simp only [ho] at h1
  intro e he hb
  have h2 := Array.all_eq_true_iff_forall_mem.1 h1 e he
  simpa [hb] using h2
theorem lastB_waits {m i : Nat} (h : lastB ops m = true) (hi : i < m) : ∃ (j : Nat) (o : Oper), i < j ∧ j ≤ m ∧ ops[j]? = some o ∧ ∃ e ∈ o.after, Region.binds .any e = true ∧ e.on = i := by
  simp only [lastB, Bool.and_eq_true] at h
  have h1 := List.all_eq_true.1 h.2 i (List.mem_range.2 hi)
  obtain ⟨j, hj, hj2⟩ := List.any_eq_true.1 h1
  simp only [Bool.and_eq_true, decide_eq_true_eq] at hj2
  obtain ⟨hij, hj3⟩ := hj2
  cases ho : ops[j]? with
  | none => rw [ho] at hj3; cases hj3
  | some o =>
    rw [ho] at hj3
    obtain ⟨e, he, hb⟩ := Array.any_eq_true'.1 hj3
    simp only [Bool.and_eq_true, beq_iff_eq] at hb
    exact ⟨j, o, hij, by have := List.mem_range.1 hj; omega, ho, e, he, hb.1, hb.2⟩

/-- What has come up has had all come up that it waits for. -/
def Shutd (ops : Array Oper) (listed : Array Bool) : Prop := ∀ j oj, ops[j]? = some oj → listed.getD j false = true → ∀ e ∈ oj.after, Region.binds .any e = true → listed.getD e.on false = true
theorem Shutd.set {listed : Array Bool} {i : Nat} (h : Shutd ops listed) (hi : i ∈ Region.ready .any ops listed) : Shutd ops (listed.setIfInBounds i true) := by
  intro j oj hj hl e he hb
  by_cases hij : i = j
  · subst hij
    obtain ⟨_, oi, hoi, hall⟩ := mem_ready.1 hi
    have : oj = oi := Option.some.inj (hj.symm.trans hoi)
    subst this
    exact getD_set_true (hall e he hb)
  · rw [getD_set_ne false hij] at hl
    exact getD_set_true (h j oj hj hl e he hb)

theorem all_up {m : Nat} {listed : Array Bool} (hB : lastB ops m = true) (hc : Shutd ops listed) (hr : m ∈ Region.ready .any ops listed) : ∀ (d i : Nat), m - i = d → i < m → listed.getD i false = true := by
  intro d
  induction d using Nat.strongRecOn with
  | _ d ih =>
    intro i hd hi
    obtain ⟨j, o, hij, hjm, ho, e, he, hb, hon⟩ := lastB_waits hB hi
    obtain ⟨_, om, hom, hall⟩ := mem_ready.1 hr
    by_cases hj : j = m
    · subst hj
      have : o = om := Option.some.inj (ho.symm.trans hom)
      subst this
      have := hall e he hb
      rw [hon] at this
      exact this
    · have hl := ih (m - j) (by omega) j rfl (by omega)
      have := hc j o ho hl e he hb
      rw [hon] at this
      exact this

theorem wpOp_tillLast {m i : Nat} {K K' : Act → World → Prop} {a : Act} {w : World} (hK : ∀ a w, K a w → K' a w) (h : wpOp P ops (tillLast P ops m Q) i K a w) : wpOp P ops Q i K' a w := by
  have h := wpOp_mono hK h
  unfold wpOp at *
  cases ho : ops[i]? with
  | none => rw [ho] at h; exact h
  | some o =>
    rw [ho] at h
    simp only at h ⊢
    split
    · rename_i hw
      rw [if_pos hw] at h
      rcases h with h | ⟨hasks, a₀, w₀, hq⟩
      · left
        unfold Oper.wp at *
        generalize (execOp a.eval o).run P w = r at *
        cases r with
        | ok n w' =>
          cases n <;> simp only [Oper.upon] at h ⊢ <;> first
            | exact h
            | (refine Calls.mono h fun e w'' he => ?_
               cases e with
               | returned u => exact he
               | panicked c => exact he
               | outgrown => exact he)
        | halt x w' => cases x <;> exact h
      · exact .inr ⟨hasks, a₀, w₀, hq⟩
    · rename_i hw
      rw [if_neg hw] at h
      exact h

theorem getD_set_m {listed : Array Bool} {m : Nat} (hm : m < listed.size) : (listed.setIfInBounds m true).getD m false = true := by
  simp [hm]

theorem ready_but {m i : Nat} {listed : Array Bool} (hs : listed.size = ops.size) (hB : lastB ops m = true) (hne : i ≠ m) :
    i ∈ Region.ready .any ops (listed.setIfInBounds m true) ↔ i ∈ Region.ready .any ops listed := by
  constructor
  · intro h
    obtain ⟨h0, o, ho, hall⟩ := mem_ready.1 h
    refine mem_ready.2 ⟨by rw [getD_set_ne true (Ne.symm hne)] at h0; exact h0, o, ho, fun e he hb => ?_⟩
    have h1 := hall e he hb
    have hlt := lastB_early hB ho e he hb
    have hi : i < m + 1 := by rw [← lastB_size hB]; exact (Array.getElem?_eq_some_iff.1 ho).1
    rw [getD_set_ne false (by omega)] at h1
    exact h1
  · intro h
    exact ready_mono h hne

theorem set_size' {listed : Array Bool} {i : Nat} (h : listed.size = ops.size) : (listed.setIfInBounds i true).size = ops.size := by simp [h]

theorem first_ready {m : Nat} {listed : Array Bool} (hs : listed.size = ops.size) (hB : lastB ops m = true) (hmf : listed.getD m true = false) : Region.ready .any ops listed ≠ [] := by
  -- the least that has not come up
  have key : ∀ (n i : Nat), i ≤ n → listed.getD i true = false → ∃ j, j ≤ i ∧ listed.getD j true = false ∧ ∀ k, k < j → listed.getD k true = true := by
    intro n
    induction n with
    | zero => intro i hi hf; exact ⟨i, Nat.le_refl _, hf, fun k hk => by omega⟩
    | succ n ih =>
      intro i hi hf
      by_cases hex : ∃ k, k < i ∧ listed.getD k true = false
      · obtain ⟨k, hk, hkf⟩ := hex
        obtain ⟨j, hj, h1, h2⟩ := ih k (by omega) hkf
        exact ⟨j, by omega, h1, h2⟩
      · refine ⟨i, Nat.le_refl _, hf, fun k hk => ?_⟩
        cases hc : listed.getD k true with
        | true => rfl
        | false => exact absurd ⟨k, hk, hc⟩ hex
  obtain ⟨j, hj, h1, h2⟩ := key m m (Nat.le_refl _) hmf
  have hjs : j < ops.size := by rw [lastB_size hB]; omega
  have ho : ops[j]? = some ops[j] := by simp [hjs]
  have : j ∈ Region.ready .any ops listed := mem_ready.2 ⟨h1, _, ho, fun e he hb => by
    have hlt := lastB_early hB ho e he hb
    have h3 := h2 e.on hlt
    have hes : e.on < listed.size := by rw [hs]; omega
    simp [hes] at h3 ⊢
    exact h3⟩
  intro h0
  rw [h0] at this
  cases this

theorem wpAny_split {m : Nat} (hB : lastB ops m = true) : ∀ (fuel : Nat) (listed : Array Bool) (a : Act) (w : World), listed.size = ops.size → Shutd ops listed → listed.getD m true = false →
    wpAny P .any ops (tillLast P ops m Q) fuel (listed.setIfInBounds m true) a w → wpAny P .any ops Q (fuel + 1) listed a w := by
  intro fuel
  induction fuel with
  | zero =>
    intro listed a w hs hsh hmf h
    refine ⟨fun h0 => absurd h0 (first_ready hs hB hmf), fun i hi => ?_⟩
    by_cases him : i = m
    · subst him
      refine wpOp_mono (fun a' w' hq => ?_) h.2
      refine ⟨?_, hq⟩
      rw [h.1]
    · have := (ready_but hs hB him).2 hi
      rw [h.1] at this
      cases this
  | succ fuel ih =>
    intro listed a w hs hsh hmf h
    refine ⟨fun h0 => absurd h0 (first_ready hs hB hmf), fun i hi => ?_⟩
    by_cases him : i = m
    · subst him
      -- the last is ready: all others have come up
      have hnil : Region.ready .any ops (listed.setIfInBounds i true) = [] := by
        cases hr : Region.ready .any ops (listed.setIfInBounds i true) with
        | nil => rfl
        | cons j js =>
          exfalso
          have hj : j ∈ Region.ready .any ops (listed.setIfInBounds i true) := by rw [hr]; simp
          obtain ⟨h0, o, ho, hall⟩ := mem_ready.1 hj
          have hjs : j < i + 1 := by rw [← lastB_size hB]; exact (Array.getElem?_eq_some_iff.1 ho).1
          by_cases hji : j = i
          · subst hji
            have hlt : j < listed.size := by rw [hs, lastB_size hB]; omega
            simp [hlt] at h0
          · have h1 := all_up hB hsh hi _ j rfl (show j < i by omega)
            rw [getD_set_ne true (Ne.symm hji)] at h0
            have hlt : j < listed.size := by rw [hs, lastB_size hB]; omega
            simp [hlt] at h0 h1
            rw [h0] at h1
            cases h1
      have hq := h.1 hnil
      exact wpOp_mono (fun a' w' hq => wpAny_done hnil hq _) hq
    · have hi' := (ready_but hs hB him).2 hi
      refine wpOp_tillLast (fun a' w' hk => ?_) (h.2 i hi')
      refine ih (listed.setIfInBounds i true) a' w' (set_size' hs) (hsh.set hi) (by rw [getD_set_ne true him]; exact hmf) ?_
      rw [Array.setIfInBounds_comm _ _ him]
      exact hk

/-- The walk in one order: what yields in every world that meets S; and what is carried out, alone; then the last. -/
def heldL (P : Program) (l : Oper) (Q : Exit → Act → World → Prop) (S : World → Prop) : List (Bool × Oper) → Act → World → Prop
  | [], a, w => ∀ K : Act → World → Prop, (∀ a w, Q .normal a w → K a w) → Oper.wp P l a w K Q
  | (true, o) :: r, a, w => ∃ v, (∀ w, S w → (execOp a.eval o).run P w = .ok (.value v) w) ∧ heldL P l Q S r (a.put o.dst v) w
  | (false, o) :: r, a, w => ∀ K : Act → World → Prop, Shut (∀ a w, S w → (S w → heldL P l Q S r a w) → K a w) → Oper.wp P o a w K Q

/-- That this order may be taken. -/
def ordB (ops : Array Oper) : List (Bool × Nat) → Array Bool → Bool
  | [], listed => (Region.ready .any ops listed).isEmpty
  | (true, i) :: r, listed => (Region.ready .any ops listed).contains i && Region.free .any ops listed i && ordB ops r (listed.setIfInBounds i true)
  | (false, i) :: r, listed => decide (Region.ready .any ops listed = [i]) && ordB ops r (listed.setIfInBounds i true)

def freeB (xs : List Oper) : Bool := xs.all fun o => o.guard.isNone
theorem wanted_free {xs : List Oper} (h : freeB xs = true) {i : Nat} {o : Oper} (ho : xs[i]? = some o) (y : Nat → Option Bool) : Region.wanted o y = true := by
  have h1 := List.all_eq_true.1 h o (List.mem_of_getElem? ho)
  cases hg : o.guard with
  | none => simp [Region.wanted, hg]
  | some g => rw [hg] at h1; cases h1

theorem anyH_of_ord {xs : List Oper} {l : Oper} {m : Nat} (hfr : freeB xs = true) (hl : xs[m]? = some l) (hsel : Region.noSelect xs.toArray = true) (hQ : ∀ d v c a w, Q (.panic c) (a.put d v) w → Q (.panic c) a w) (d : Oper) : ∀ (ord : List (Bool × Nat)) (listed : Array Bool) (a : Act) (w : World),
    ordB xs.toArray ord listed = true → S w → heldL P l Q S (ord.map fun p => (p.1, xs.getD p.2 d)) a w → wpAnyH P .any xs.toArray (tillLast P xs.toArray m Q) S ord.length listed a w
  | [], listed, a, w, hB, hS, h => by
    simp only [ordB, List.isEmpty_iff] at hB
    refine wpAnyH_done hB ?_ _
    refine wpOp_step (o := l) (by simpa using hl) (fun K hK => ?_)
    rw [if_pos (wanted_free hfr hl _)]
    exact h K hK
  | (true, i) :: r, listed, a, w, hB, hS, h => by
    simp only [ordB, Bool.and_eq_true] at hB
    obtain ⟨⟨hr, hf⟩, hB'⟩ := hB
    have hr' : i ∈ Region.ready .any xs.toArray listed := by simpa using hr
    obtain ⟨_, o, ho, _⟩ := mem_ready.1 hr'
    have ho2 : xs[i]? = some o := by simpa using ho
    have ho' : xs.getD i d = o := by simp [List.getD, ho2]
    simp only [List.map_cons, heldL, ho'] at h
    obtain ⟨v, hy, h⟩ := h
    exact wpAnyH_take ho hsel hf hr (fun c a w hq => hQ _ _ c a w hq) (Or.inl ⟨wanted_free hfr ho2 _, hy⟩) hS (anyH_of_ord hfr hl hsel hQ d r _ _ _ hB' hS h)
  | (false, i) :: r, listed, a, w, hB, hS, h => by
    simp only [ordB, Bool.and_eq_true, decide_eq_true_eq] at hB
    obtain ⟨hr, hB'⟩ := hB
    have hr' : i ∈ Region.ready .any xs.toArray listed := by rw [hr]; simp
    obtain ⟨_, o, ho, _⟩ := mem_ready.1 hr'
    have ho2 : xs[i]? = some o := by simpa using ho
    have ho' : xs.getD i d = o := by simp [List.getD, ho2]
    simp only [List.map_cons, heldL, ho'] at h
    refine wpAnyH_ready hr (by simp) (AllReadyH.cons ho (fun K hK => ?_) AllReadyH.nil)
    rw [if_pos (wanted_free hfr ho2 _)]
    have H := h K (fun a' w' hS' hh => hK.out a' w' hS' (fun _ => anyH_of_ord hfr hl hsel hQ d r _ _ _ hB' hS' (hh hS')))
    -- the exit of a panic is the same
    unfold Oper.wp at *
    generalize (execOp a.eval o).run P w = r at *
    cases r with
    | ok n w' =>
      cases n <;> simp only [Oper.upon] at H ⊢ <;> first
        | exact H
        | (refine Calls.mono H fun e w'' he => ?_
           cases e with
           | returned u => exact he
           | panicked c => exact he
           | outgrown => exact he)
    | halt x w' => cases x <;> exact H

theorem heldL_take {o l : Oper} {r : List (Bool × Oper)} {a : Act} {w : World} (v : Value) (hy : ∀ w, S w → (execOp a.eval o).run P w = .ok (.value v) w) (h : heldL P l Q S r (a.put o.dst v) w) :
    heldL P l Q S ((true, o) :: r) a w := ⟨v, hy, h⟩
theorem heldL_move {o l : Oper} {r : List (Bool × Oper)} {a : Act} {w : World}
    (h : ∀ K : Act → World → Prop, Shut (∀ a w, S w → (S w → heldL P l Q S r a w) → K a w) → Oper.wp P o a w K Q) :
    heldL P l Q S ((false, o) :: r) a w := h
theorem heldL_last {l : Oper} {a : Act} {w : World} (h : ∀ K : Act → World → Prop, (∀ a w, Q .normal a w → K a w) → Oper.wp P l a w K Q) : heldL P l Q S [] a w := h

theorem getD_rep (n j : Nat) : (Array.replicate n false).getD j false = false := by
  rcases Nat.lt_or_ge j n with h | h
  · simp [h]
  · simp [h]
/-- **THE BEGINNING.** -/
theorem wp_region_ord {id : Nat} {a : Act} {w : World} {xs : List Oper} (S : World → Prop) (m : Nat) (ord : List (Bool × Nat)) (d : Oper) (hm : P.follows .mixedOrders = true)
    (hB : (lastB xs.toArray m && freeB xs && Region.noSelect xs.toArray && decide (ord.length = m) && ordB xs.toArray ord ((Array.replicate (m + 1) false).setIfInBounds m true)) = true)
    (hQ : ∀ d v c a w, Q (.panic c) (a.put d v) w → Q (.panic c) a w) (hS : S w.drew)
    (h : heldL P (xs.getD m d) Q S (ord.map fun p => (p.1, xs.getD p.2 d)) a w.drew) : (Code.region id xs.toArray true).wp P Q a w := by
  simp only [Bool.and_eq_true, decide_eq_true_eq] at hB
  obtain ⟨⟨⟨⟨h1, h0⟩, h2⟩, h3⟩, h4⟩ := hB
  have hs := lastB_size h1
  refine wp_region_any hm ?_
  rw [hs]
  refine wpAny_split h1 m (Array.replicate (m + 1) false) a _ (by simp [hs]) (fun j oj _ hl => by rw [getD_rep] at hl; cases hl) (by simp) ?_
  have hl : xs[m]? = some (xs.getD m d) := by
    have : m < xs.length := by simpa using (show m < xs.toArray.size by omega)
    simp [this]
  have H := anyH_of_ord (P := P) (Q := Q) (S := S) (m := m) h0 hl h2 hQ d ord _ a w.drew h4 hS h
  rw [h3] at H
  exact wpAny_of_held _ _ _ _ H
end
end Go.Proofs.Ytifgbnjpiphidaa
