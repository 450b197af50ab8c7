/- The walks of tree's calls, each by one function; maps of bools. -/
import Derived.Test.YtifgbnjpiphidaaRows
import Derived.WalkKit
import Derived.ProofKit
import Derived.Handy
import Derived.Deep.QuietTactic
import Derived.BigQuiet
import Derived.Deep.RegionWith
import Derived.Deep.RegionHeld3
import Derived.Deep.AppendLies
import Derived.WalkLawsBesides
import Derived.WalkSmall
import Derived.Deep.Cut
import Derived.Test.YtifgbnjpiphidaaTre8
import Derived.Test.YtifgbnjpiphidaaTreQ
namespace Go.Proofs.Ytifgbnjpiphidaa
open Go.RowKit
set_option linter.unusedVariables false
section
variable (g b : Nat) (most : Int) (l : List Nd) (w : World) (k : Trs w g b most l) (ok : OkT l) (i : Int) (d : Dp)
include k
theorem move_all (ok : OkT l) (hi : (Lit.int .i64 i).wf = true) : Calls Try.prog 16 #[.pointer (some ⟨g, 0, none⟩), .int .i64 i, .agg (da d)] w (TurnE w g b most (moveS l i d).1 (moveS l i d).2) := by
  unfold moveS
  cases hg : getN l i with
  | none => exact move_none g b most l w k i d hi hg
  | some p =>
    simp only
    by_cases h1 : mayB d = false
    · rw [if_pos h1]
      exact move_badDep g b most l w k i d hi p hg h1
    · rw [if_neg h1]
      have h1' : mayB d = true := by cases h : mayB d with | true => rfl | false => exact absurd h h1
      by_cases h2 : d.on = i
      · rw [if_pos h2]
        exact move_cycle g b most l w k i d hi p hg h1' h2
      · rw [if_neg h2]
        obtain ⟨r, hr⟩ := ok
        refine (move_ok g b most l w k i d hi r hr.rk p hg h1' h2).mono ?_
        rintro e w' ⟨h3, h4⟩
        by_cases ha : Abv l i (knownL l d).on
        · rw [if_pos ha]; exact h3 ha
        · rw [if_neg ha]; exact h4 ha
theorem insert_all : Calls Try.prog 9 #[.pointer (some ⟨g, 0, none⟩), .int .i64 i, .agg (da d)] w (TurnE w g b most (insertS l most i d).1 (insertS l most i d).2) := by
  unfold insertS
  by_cases h0 : 1 ≤ i ∧ i ≤ 2147483647
  · rw [if_neg (not_not_intro h0)]
    by_cases h1 : mayB d = false
    · rw [if_pos h1]
      exact insert_badDep g b most l w k i d h0 h1
    · rw [if_neg h1]
      have h1' : mayB d = true := by cases h : mayB d with | true => rfl | false => exact absurd h h1
      by_cases h2 : d.on = i
      · rw [if_pos h2]
        exact insert_cycle g b most l w k i d h0 h1' h2
      · rw [if_neg h2]
        refine (insert_rest g b most l w k i d h0 h1' h2).mono ?_
        rintro e w' ⟨q1, q2, q3⟩
        by_cases h3 : (getN l i).isSome = true
        · rw [if_pos h3]
          exact q1 h3
        · rw [if_neg h3]
          have h3' : getN l i = none := by cases h : getN l i with | none => rfl | some p => rw [h] at h3; exact absurd rfl h3
          by_cases h4 : most ≤ l.length
          · rw [if_pos h4]
            exact q2 h3' h4
          · rw [if_neg h4]
            exact q3 h3' (by omega)
  · rw [if_pos h0]
    exact insert_badId g b most l w k i d h0
theorem remove_all (hi : (Lit.int .i64 i).wf = true) : Calls Try.prog 10 #[.pointer (some ⟨g, 0, none⟩), .int .i64 i] w (TurnE w g b most (removeS l i).1 (removeS l i).2) := by
  unfold removeS
  cases hg : getN l i with
  | none => exact remove_none g b most l w k i hi hg
  | some x => exact remove_ok g b most l w k i hi x hg
end
theorem zeroB (w : World) : (zeroValue 4).run Try.prog w = .ok (.bool false) w := by kernel_rfl
def MapB (w : World) (b : Nat) (G : Int → Option Bool) (cnt : Nat) : Prop := MapV Try.prog 3 w b (fun k => (G k).map Value.bool) cnt
theorem MapB.made (w : World) : MapB (w.alloc (.map #[] 0)) w.heap.size (fun _ => none) 0 := MapV.made w Try.prog 3
theorem MapB.look {w : World} {b cnt : Nat} {G : Int → Option Bool} (h : MapB w b G cnt) {x : Int} (hw : (Lit.int .i64 x).wf = true) :
    (Instr.lookup 45 (.map (some b)) (.int .i64 x) false).run Try.prog w = .ok (.bool ((G x).getD false)) w := by
  have e := MapV.look Try.underlying3 Try.underlying45 h (zeroB w) hw
  rw [e]
  cases G x <;> rfl
theorem MapB.ext {w : World} {b c : Nat} {G G' : Int → Option Bool} (h : MapB w b G c) (he : ∀ x, G x = G' x) : MapB w b G' c := by
  have : G = G' := funext he
  rwa [← this]
theorem MapB.write {w : World} {b cnt : Nat} {G : Int → Option Bool} (h : MapB w b G cnt) {x : Int} {v : Bool} (hn : cnt < maxLen) (hw : (Lit.int .i64 x).wf = true) :
    ∃ w', (Instr.mapUpdate 45 (.map (some b)) (.int .i64 x) (.bool v)).run Try.prog w = .ok () w' ∧ MapB w' b (upd G x (some v)) (if (G x).isSome then cnt else cnt + 1) ∧ w.grownBy w' (some b) := by
  obtain ⟨w', h1, h2, h3⟩ := MapV.put Try.underlying3 Try.underlying45 h hn hw (.bool v)
  refine ⟨w', h1, ?_, h3⟩
  have := MapV.ext h2 fun y => upd_map G Value.bool x v y
  simp only [Option.isSome_map] at this
  exact this
theorem MapB.same {w w' : World} {b c : Nat} {G : Int → Option Bool} (h : MapB w b G c) (he : w'.heap[b]? = w.heap[b]?) : MapB w' b G c := MapV.same h he
theorem MapB.lt {w : World} {b c : Nat} {G : Int → Option Bool} (h : MapB w b G c) : b < w.heap.size := MapV.lt h
theorem MapB.below {w w' : World} {b c B : Nat} {G : Int → Option Bool} (h : MapB w b G c) (hb : Below B w w') (hB : b < B) : MapB w' b G c := h.same (hb.block b hB)
theorem MapB.only {w w' : World} {b c : Nat} {S : List Nat} {G : Int → Option Bool} (h : MapB w b G c) (hb : Only S w w') (hB : b ∉ S) : MapB w' b G c := h.same (hb.block b h.lt hB)
/-- The numbers that are true. -/
def TrueAt (G : Int → Option Bool) (x : Int) : Prop := (G x).getD false = true
theorem true_upd (G : Int → Option Bool) (i : Int) (v : Bool) (x : Int) : (upd G i (some v) x).getD false = if x = i then v else (G x).getD false := by
  unfold upd
  split <;> rfl
end Go.Proofs.Ytifgbnjpiphidaa
