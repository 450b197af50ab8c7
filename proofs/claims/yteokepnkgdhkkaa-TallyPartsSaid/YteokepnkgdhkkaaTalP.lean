/- Plain law: sums of parts, added, are the sums of all; how many moves. -/
import Derived.Test.YteokepnkgdhkkaaTalE
namespace Go.Proofs.Yteokepnkgdhkkaa
set_option linter.unusedVariables false
/-- Two of one stream together. -/
def mrg : Option Sm → Option Sm → Option Sm
  | none, o => o
  | some a, none => some a
  | some a, some b => some (Sm.add a b)
def ofSt (i : Int) : Option Sm → Prop
  | none => True
  | some a => a.st = i
theorem mrg_none (o : Option Sm) : mrg o none = o := by cases o <;> rfl
theorem mrg_comm {i : Int} {a b : Option Sm} (ha : ofSt i a) (hb : ofSt i b) : mrg a b = mrg b a := by
  cases a <;> cases b
  · rfl
  · rfl
  · rfl
  · next x y =>
    have h1 : x.st = i := ha
    have h2 : y.st = i := hb
    exact congrArg some (Sm.add_comm (h1.trans h2.symm))
theorem mrg_assoc (a b c : Option Sm) : mrg (mrg a b) c = mrg a (mrg b c) := by
  cases a <;> cases b <;> cases c <;> first | rfl | (unfold mrg; simp only; rw [Sm.add_assoc])
theorem mrg_st {i : Int} {a b : Option Sm} (ha : ofSt i a) (hb : ofSt i b) : ofSt i (mrg a b) := by
  cases a <;> cases b <;> first | trivial | exact ha | exact hb
def onS (i : Int) (x : Sm) : Option Sm := if x.st = i then some x else none
theorem onS_st (i : Int) (x : Sm) : ofSt i (onS i x) := by
  unfold onS
  split
  · next h => exact h
  · trivial
/-- All of one stream in a list. -/
def tot (l : List Sm) (i : Int) : Option Sm := l.foldr (fun x o => mrg (onS i x) o) none
theorem tot_nil (i : Int) : tot [] i = none := rfl
theorem tot_cons (x : Sm) (l : List Sm) (i : Int) : tot (x :: l) i = mrg (onS i x) (tot l i) := rfl
theorem tot_st (l : List Sm) (i : Int) : ofSt i (tot l i) := by
  induction l with
  | nil => trivial
  | cons x r ih => rw [tot_cons]; exact mrg_st (onS_st i x) ih
theorem tot_append (a b : List Sm) (i : Int) : tot (a ++ b) i = mrg (tot a i) (tot b i) := by
  induction a with
  | nil => rfl
  | cons x r ih => rw [List.cons_append, tot_cons, tot_cons, ih, mrg_assoc]
theorem getS_st {l : List Sm} (i : Int) : ofSt i (getS l i) := by
  cases h : getS l i with
  | none => trivial
  | some a => exact (getS_mem h).2
theorem tot_SS {l : List Sm} (h : SS l) (i : Int) : tot l i = getS l i := by
  induction l with
  | nil => rfl
  | cons p r ih =>
    cases h with
    | cons h1 h2 =>
      rw [tot_cons, getS_cons, ih h2]
      unfold onS
      by_cases hp : p.st = i
      · rw [if_pos hp, if_pos hp]
        have : getS r i = none := getS_none.2 fun q hq => by
          have := h1 q hq
          omega
        rw [this]
        rfl
      · rw [if_neg hp, if_neg hp]
        rfl
theorem putS_mrg {x : Sm} {o : Option Sm} : some (putS o x) = mrg (some x) o := by
  cases o <;> rfl
theorem getS_gather (l : List Sm) (i : Int) : getS (gatherL l) i = tot l i := by
  have : ∀ (r acc : List Sm), SS acc → getS (r.foldl plusL acc) i = mrg (tot r i) (getS acc i) := by
    intro r
    induction r with
    | nil => intro acc _; rfl
    | cons x r ih =>
      intro acc h
      rw [List.foldl_cons, ih _ (h.plus x), getS_plus h, tot_cons]
      unfold onS
      by_cases hi : i = x.st
      · rw [if_pos hi, if_pos hi.symm, putS_mrg, ← mrg_assoc, mrg_comm (tot_st r i) (show ofSt i (some x) from hi.symm)]
      · rw [if_neg hi, if_neg (Ne.symm hi)]
        rfl
  have h2 := this l [] List.Pairwise.nil
  rw [getS_nil, mrg_none] at h2
  exact h2
theorem gather_parts (xs ys : List Sm) : gatherL (gatherL xs ++ gatherL ys) = gatherL (xs ++ ys) := by
  refine SS.one (gatherL_SS _) (gatherL_SS _) fun i => ?_
  rw [getS_gather, getS_gather, tot_append, tot_append, tot_SS (gatherL_SS xs), tot_SS (gatherL_SS ys), getS_gather, getS_gather]
theorem gather_comm (xs ys : List Sm) : gatherL (xs ++ ys) = gatherL (ys ++ xs) := by
  refine SS.one (gatherL_SS _) (gatherL_SS _) fun i => ?_
  rw [getS_gather, getS_gather, tot_append, tot_append, mrg_comm (tot_st xs i) (tot_st ys i)]
theorem ofL_parts (l : List Mv) (k : Nat) : gatherL (ofL (l.take k) ++ ofL (l.drop k)) = ofL l := by
  unfold ofL
  rw [gather_parts, ← List.map_append, List.take_append_drop]
theorem ofL_parts' (l : List Mv) (k : Nat) : gatherL (ofL (l.drop k) ++ ofL (l.take k)) = ofL l := by
  rw [gather_comm, ofL_parts]
def moS (l : List Sm) : Int := (l.map (·.mo)).sum
theorem moS_plus (l : List Sm) (x : Sm) : moS (plusL l x) = moS l + x.mo := by
  unfold moS
  induction l with
  | nil => simp [plusL]
  | cons p r ih =>
    unfold plusL
    split
    · rw [List.map_cons, List.sum_cons, ih, List.map_cons, List.sum_cons]; omega
    · split
      · rw [List.map_cons, List.sum_cons, List.map_cons, List.sum_cons]
        show x.mo + p.mo + _ = _
        omega
      · rw [List.map_cons, List.sum_cons]; omega
theorem moS_gather (l : List Sm) : moS (gatherL l) = moS l := by
  have : ∀ (r acc : List Sm), moS (r.foldl plusL acc) = moS acc + moS r := by
    intro r
    induction r with
    | nil => intro acc; simp [moS]
    | cons x r ih =>
      intro acc
      rw [List.foldl_cons, ih, moS_plus]
      unfold moS
      rw [List.map_cons, List.sum_cons]
      omega
  have := this l []
  simpa [gatherL, moS] using this
theorem allL_mo (l : List Sm) : (allL l).mo = moS l := by
  have : ∀ (r : List Sm) (acc : Sm), (r.foldl Sm.add acc).mo = acc.mo + moS r := by
    intro r
    induction r with
    | nil => intro acc; simp [moS]
    | cons x r ih =>
      intro acc
      rw [List.foldl_cons, ih]
      unfold moS
      rw [List.map_cons, List.sum_cons]
      show acc.mo + x.mo + _ = _
      omega
  have := this l (Sm.zero 0)
  unfold allL
  rw [this]
  simp [Sm.zero]
theorem moS_one (l : List Mv) : moS (l.map oneL) = l.length := by
  induction l with
  | nil => rfl
  | cons m r ih =>
    have h1 : (oneL m).mo = 1 := by
      unfold oneL
      repeat' split
      all_goals rfl
    unfold moS at *
    rw [List.map_cons, List.map_cons, List.sum_cons, ih, h1, List.length_cons]
    omega
theorem all_moves (l : List Mv) : (allL (ofL l)).mo = l.length := by
  rw [allL_mo]
  unfold ofL
  rw [moS_gather, moS_one]
theorem ofL_bd200 (l : List Mv) (hl : l.length ≤ 200) : ∀ a ∈ ofL l, a.bd 219902325555200 := fun a ha => by
  have h := gatherL_bd (K := 1099511627776) (by omega) (fun b hb => by
    obtain ⟨m, _, rfl⟩ := List.mem_map.1 hb
    exact oneL_bd m) a ha
  refine Sm.bd_mono h ?_
  rw [List.length_map]
  omega
theorem ofL_wf (l : List Mv) (h : ∀ m ∈ l, (Lit.int .i64 m.st).wf = true) : ∀ a ∈ ofL l, (Lit.int .i64 a.st).wf = true := fun a ha => by
  have : ∀ (r acc : List Sm), (∀ x ∈ r, (Lit.int .i64 x.st).wf = true) → (∀ x ∈ acc, (Lit.int .i64 x.st).wf = true) → ∀ x ∈ r.foldl plusL acc, (Lit.int .i64 x.st).wf = true := by
    intro r
    induction r with
    | nil => intro acc _ h2 x hx; exact h2 x hx
    | cons y r ih =>
      intro acc h1 h2 x hx
      refine ih (plusL acc y) (fun z hz => h1 z (by simp [hz])) (fun z hz => ?_) x hx
      rcases plusL_mem hz with h | h
      · exact h2 z h
      · rw [h]; exact h1 y (by simp)
  exact this (l.map oneL) [] (fun x hx => by
    obtain ⟨m, hm, rfl⟩ := List.mem_map.1 hx
    rw [oneL_st]
    exact h m hm) (fun x hx => by cases hx) a ha
end Go.Proofs.Yteokepnkgdhkkaa
