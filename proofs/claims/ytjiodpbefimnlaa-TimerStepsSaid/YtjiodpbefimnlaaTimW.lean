/- What the laws of timers share. -/
import Derived.Test.YtjiodpbefimnlaaTimAw
import Derived.Test.YtjiodpbefimnlaaTim7
import Derived.Test.YtjiodpbefimnlaaTimE
namespace Go.Proofs.Ytjiodpbefimnlaa
open Go.RowKit
set_option linter.unusedVariables false
theorem find_get {l : List (Int × Int)} {x r : Int} (hs : l.Pairwise (fun p q => p.1 ≠ q.1)) (h : FindIs l x r) : (∃ (k : Nat) (hk : k < l.length), l[k].1 = x ∧ r = (k : Int) ∧ getT l x = some l[k].2) ∨ (r = -1 ∧ getT l x = none) := by
  rcases h with ⟨k, hk, e, hr⟩ | ⟨hr, hn⟩
  · refine .inl ⟨k, hk, e, hr, getT_of_mem hs ?_⟩
    rw [← e]
    exact List.getElem_mem hk
  · refine .inr ⟨hr, getT_none.2 fun p hp => ?_⟩
    obtain ⟨j, hj, rfl⟩ := List.mem_iff_getElem.1 hp
    exact hn j hj
theorem held_grown {e : TypeId} {sz : Nat} {w w' : World} {b cnt : Nat} {f : Int → Option Int} {A : Option Addr} {n c : Nat} {xs : List Value} (h : Held w e sz A n c xs) (hm : MapI w b f cnt) (hg : w.grownBy w' (some b)) : Held w' e sz A n c xs :=
  h.keep fun bk cur hbk => hg.block bk (lt_of_blk hbk) (fun e' => by
    injection e' with e'
    exact MapV.blk_ne hm (g := bk) (ty := e) (cs := cur) hbk e')
theorem held_only2 {e : TypeId} {sz : Nat} (he : e ≠ 54) {w w' : World} {g b : Nat} {l : List (Int × Int)} {T0 : Int} {A : Option Addr} {n c : Nat} {xs : List Value} (h : Held w e sz A n c xs) (k : Whl w g b l T0) (ho : Only [g, b] w w') : Held w' e sz A n c xs :=
  h.keep fun bk cur hbk => ho.block bk (lt_of_blk hbk) (fun e' => by
    simp at e'
    rcases e' with rfl | rfl
    · exact Blk.ne_ (t := e) (t' := 54) hbk k.blk he rfl
    · exact MapV.blk_ne k.map (g := bk) (ty := e) (cs := cur) hbk rfl)
theorem due_rest {l : List (Int × Int)} (hs : Sd l) (now : Int) : ∀ p ∈ l.drop (dueT l now).length, now < p.2 := by
  induction l with
  | nil => intro p hp; simp [dueT] at hp
  | cons q r ih =>
    intro p hp
    have hr : Sd r := hs.sub (List.sublist_cons_self q r)
    by_cases h : q.2 ≤ now
    · have e : (dueT (q :: r) now).length = (dueT r now).length + 1 := by unfold dueT; rw [List.takeWhile_cons, if_pos (decide_eq_true h)]; rfl
      rw [e, List.drop_succ_cons] at hp
      exact ih hr p hp
    · have e : (dueT (q :: r) now).length = 0 := by unfold dueT; rw [List.takeWhile_cons, if_neg (by simpa using h)]; rfl
      rw [e, List.drop_zero] at hp
      have h1 := hs.1
      cases h1 with
      | cons a b =>
        rcases List.mem_cons.1 hp with rfl | hp
        · omega
        · have := a p hp
          unfold tmLt at this
          omega
theorem due_none {l : List (Int × Int)} (now : Int) (h : ∀ p ∈ l, now < p.2) : dueT l now = [] := by
  cases l with
  | nil => rfl
  | cons q r =>
    have := h q (by simp)
    unfold dueT
    rw [List.takeWhile_cons, if_neg (by simp; omega)]
theorem due_at {l : List (Int × Int)} (now : Int) (j : Nat) (hj : j < (dueT l now).length) (hl : j < l.length) : (nums (ids (dueT l now)))[j]? = some (.int .i64 l[j].1) ∧ l[j].2 ≤ now := by
  have e : (dueT l now)[j]? = some l[j] := by
    rw [due_prefix l now, List.getElem?_take, if_pos hj, List.getElem?_eq_getElem hl]
  refine ⟨by simp only [nums, ids, List.getElem?_map, e, Option.map_some], ?_⟩
  have hm : l[j] ∈ dueT l now := List.mem_of_getElem? e
  unfold dueT at hm
  have h2 := List.all_eq_true.1 (List.all_takeWhile (p := fun p : Int × Int => decide (p.2 ≤ now)) (l := l)) _ hm
  simpa using h2
theorem ids_len (l : List (Int × Int)) : (ids l).length = l.length := by simp [ids]
end Go.Proofs.Ytjiodpbefimnlaa
