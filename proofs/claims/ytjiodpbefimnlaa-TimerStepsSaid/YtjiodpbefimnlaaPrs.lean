/- Rows of pairs of ints, as lists. -/
import Derived.Test.YtjiodpbefimnlaaApp
import Derived.Test.YtjiodpbefimnlaaReads
import Derived.Test.YtjiodpbefimnlaaCut
namespace Go.Proofs.Ytjiodpbefimnlaa
open Go.RowKit
set_option linter.unusedVariables false
def prs (l : List (Int × Int)) : List Value := l.flatMap fun p => [.int .i64 p.1, .int .i64 p.2]
theorem prs_length (l : List (Int × Int)) : (prs l).length = l.length * 2 := by
  unfold prs
  induction l with
  | nil => rfl
  | cons p r ih => simp only [List.flatMap_cons, List.length_append, List.length_cons, List.length_nil, ih]; omega
theorem prs_one (l : List (Int × Int)) : ∀ u ∈ prs l, u.oneCell' = true := by
  intro u hu
  simp only [prs, List.mem_flatMap] at hu
  obtain ⟨p, _, hp⟩ := hu
  simp at hp
  rcases hp with rfl | rfl <;> rfl
theorem prs_append (a b : List (Int × Int)) : prs (a ++ b) = prs a ++ prs b := by simp [prs]
theorem prs_snoc (l : List (Int × Int)) (p : Int × Int) : prs (l ++ [p]) = prs l ++ [.int .i64 p.1, .int .i64 p.2] := by simp [prs]
theorem prs_take (l : List (Int × Int)) (i : Nat) : (prs l).take (i * 2) = prs (l.take i) := by
  rcases Nat.lt_or_ge l.length i with h | h
  · rw [List.take_of_length_le (by rw [prs_length]; omega), List.take_of_length_le (by omega)]
  · have e : prs l = prs (l.take i) ++ prs (l.drop i) := by rw [← prs_append, List.take_append_drop]
    rw [e]
    exact List.take_left' (by rw [prs_length, List.length_take]; omega)
theorem prs_drop (l : List (Int × Int)) (i : Nat) (h : i ≤ l.length) : (prs l).drop (i * 2) = prs (l.drop i) := by
  have e : prs l = prs (l.take i) ++ prs (l.drop i) := by rw [← prs_append, List.take_append_drop]
  have hl : (prs (l.take i)).length = i * 2 := by rw [prs_length, List.length_take]; omega
  rw [e, List.drop_append_of_le_length (by omega), List.drop_eq_nil_of_le (by omega), List.nil_append]
theorem prs_at (l : List (Int × Int)) (i : Nat) (h : i < l.length) : (prs l)[i * 2]? = some (.int .i64 l[i].1) ∧ (prs l)[i * 2 + 1]? = some (.int .i64 l[i].2) := by
  have e := prs_drop l i (by omega)
  rw [List.drop_eq_getElem_cons h] at e
  have h0 := congrArg (fun x => x[0]?) e
  have h1 := congrArg (fun x => x[1]?) e
  simp only [List.getElem?_drop, Nat.add_zero] at h0 h1
  exact ⟨h0, h1⟩
/-- An element's two cells. -/
theorem held_prs {w : World} {e : TypeId} {A : Option Addr} {n c : Nat} {l : List (Int × Int)} (h : Held w e 2 A n c (prs l)) {i : Nat} (hi : i < l.length) :
    ∃ b off, A = some ⟨b, off, none⟩ ∧ b < w.heap.size ∧ w.cell? ⟨b, off + i * 2, none⟩ = some (.int .i64 l[i].1) ∧ w.cell? ⟨b, off + i * 2 + 1, none⟩ = some (.int .i64 l[i].2) := by
  obtain ⟨e0, e1⟩ := prs_at l i hi
  obtain ⟨b, off, hA, hb, h0⟩ := h.at_ e0
  obtain ⟨b', off', hA', hb', h1⟩ := h.at_ e1
  rw [hA] at hA'
  injection hA' with hA'
  injection hA' with e2 e3
  subst e2 e3
  exact ⟨b, off, hA, hb, h0, by rw [Nat.add_assoc]; exact h1⟩
theorem reads_pair (w : World) (e : TypeId) (x y : Int) : Reads (w.alloc (.cells #[.int .i64 x, .int .i64 y] e)) (w.heap.size + 1) 2 (some ⟨w.heap.size, 0, none⟩) 1 [.int .i64 x, .int .i64 y] :=
  ⟨rfl, fun _ => ⟨_, rfl, by simp, fun j u hu => World.news_of_block (cs := #[.int .i64 x, .int .i64 y]) (t := e) (fr := (0, 0)) (heap_alloc_new w _) j u hu⟩⟩
end Go.Proofs.Ytjiodpbefimnlaa
