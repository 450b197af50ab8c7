/- A region that draws its order, walked in one order, without a last operation (XOrd's text, its last operation left out). -/
import Derived.Test.YtifgbnjpiphidaaOrd
namespace Go.Proofs.Ytifgbnjpiphidaa
open Go
set_option linter.unusedVariables false
section
variable {P : Program} {ops : Array Oper} {Q : Exit → Act → World → Prop} {S : World → Prop}
/-- The walk in one order: what yields in every world that meets S; and what is carried out, alone. -/
def heldS (P : Program) (Q : Exit → Act → World → Prop) (S : World → Prop) : List (Bool × Oper) → Act → World → Prop
  | [], a, w => Q .normal a w
  | (true, o) :: r, a, w => ∃ v, (∀ w, S w → (execOp a.eval o).run P w = .ok (.value v) w) ∧ heldS P Q S r (a.put o.dst v) w
  | (false, o) :: r, a, w => ∀ K : Act → World → Prop, Shut (∀ a w, S w → (S w → heldS P Q S r a w) → K a w) → Oper.wp P o a w K Q
theorem anyH_of_seq {xs : List Oper} (hfr : freeB xs = true) (hsel : Region.noSelect xs.toArray = true) (hQ : ∀ d v c a w, Q (.panic c) (a.put d v) w → Q (.panic c) a w) (d : Oper) : ∀ (ord : List (Bool × Nat)) (listed : Array Bool) (a : Act) (w : World),
    ordB xs.toArray ord listed = true → S w → heldS P Q S (ord.map fun p => (p.1, xs.getD p.2 d)) a w → wpAnyH P .any xs.toArray Q S ord.length listed a w
  | [], listed, a, w, hB, hS, h => by
    simp only [ordB, List.isEmpty_iff] at hB
    exact wpAnyH_done hB h _
  | (true, i) :: r, listed, a, w, hB, hS, h => by
    simp only [ordB, Bool.and_eq_true] at hB
    obtain ⟨⟨hr, hf⟩, hB'⟩ := hB
    have hr' : i ∈ Region.ready .any xs.toArray listed := by simpa using hr
    obtain ⟨_, o, ho, _⟩ := mem_ready.1 hr'
    have ho2 : xs[i]? = some o := by simpa using ho
    have ho' : xs.getD i d = o := by simp [List.getD, ho2]
    simp only [List.map_cons, heldS, ho'] at h
    obtain ⟨v, hy, h⟩ := h
    exact wpAnyH_take ho hsel hf hr (fun c a w hq => hQ _ _ c a w hq) (Or.inl ⟨wanted_free hfr ho2 _, hy⟩) hS (anyH_of_seq hfr hsel hQ d r _ _ _ hB' hS h)
  | (false, i) :: r, listed, a, w, hB, hS, h => by
    simp only [ordB, Bool.and_eq_true, decide_eq_true_eq] at hB
    obtain ⟨hr, hB'⟩ := hB
    have hr' : i ∈ Region.ready .any xs.toArray listed := by rw [hr]; simp
    obtain ⟨_, o, ho, _⟩ := mem_ready.1 hr'
    have ho2 : xs[i]? = some o := by simpa using ho
    have ho' : xs.getD i d = o := by simp [List.getD, ho2]
    simp only [List.map_cons, heldS, ho'] at h
    refine wpAnyH_ready hr (by simp) (AllReadyH.cons ho (fun K hK => ?_) AllReadyH.nil)
    rw [if_pos (wanted_free hfr ho2 _)]
    exact h K (fun a' w' hS' hh => hK.out a' w' hS' (fun _ => anyH_of_seq hfr hsel hQ d r _ _ _ hB' hS' (hh hS')))
theorem heldS_take {o : Oper} {r : List (Bool × Oper)} {a : Act} {w : World} (v : Value) (hy : ∀ w, S w → (execOp a.eval o).run P w = .ok (.value v) w) (h : heldS P Q S r (a.put o.dst v) w) :
    heldS P Q S ((true, o) :: r) a w := ⟨v, hy, h⟩
theorem heldS_move {o : Oper} {r : List (Bool × Oper)} {a : Act} {w : World}
    (h : ∀ K : Act → World → Prop, Shut (∀ a w, S w → (S w → heldS P Q S r a w) → K a w) → Oper.wp P o a w K Q) :
    heldS P Q S ((false, o) :: r) a w := h
theorem heldS_done {a : Act} {w : World} (h : Q .normal a w) : heldS P Q S [] a w := h
theorem wp_region_seq {id : Nat} {a : Act} {w : World} {xs : List Oper} (S : World → Prop) (ord : List (Bool × Nat)) (d : Oper) (hm : P.follows .mixedOrders = true)
    (hB : (freeB xs && Region.noSelect xs.toArray && decide (ord.length = xs.length) && ordB xs.toArray ord (Array.replicate xs.length false)) = true)
    (hQ : ∀ d v c a w, Q (.panic c) (a.put d v) w → Q (.panic c) a w) (hS : S w.drew)
    (h : heldS P Q S (ord.map fun p => (p.1, xs.getD p.2 d)) a w.drew) : (Code.region id xs.toArray true).wp P Q a w := by
  simp only [Bool.and_eq_true, decide_eq_true_eq] at hB
  obtain ⟨⟨⟨h0, h2⟩, h3⟩, h4⟩ := hB
  refine wp_region_any hm ?_
  have H := anyH_of_seq (P := P) (Q := Q) (S := S) h0 h2 hQ d ord _ a w.drew h4 hS h
  rw [h3] at H
  have hsz : xs.toArray.size = xs.length := by simp
  rw [hsz]
  exact wpAny_of_held _ _ _ _ H
end
end Go.Proofs.Ytifgbnjpiphidaa
