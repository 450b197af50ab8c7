/- The walks of tree's Insert. -/
import Derived.Test.YtifgbnjpiphidaaRows
import Derived.WalkKit
import Derived.ProofKit
import Derived.Handy
import Derived.Deep.QuietTactic
import Derived.BigQuiet
import Derived.Deep.RegionWith
import Derived.Deep.RegionHeld3
import Derived.Deep.AppendLies
import Derived.WalkLawsBesides
import Derived.WalkSmall
import Derived.Deep.Cut
import Derived.Test.YtifgbnjpiphidaaTre4
namespace Go.Proofs.Ytifgbnjpiphidaa
open Go.RowKit
set_option linter.unusedVariables false
theorem insert_nil (i : Int) (d : Dp) (w : World) : Calls Try.prog 9 #[.pointer none, .int .i64 i, .agg (da d)] w fun e w' => e = .returned (.int .i64 1) ∧ Below w.heap.size w w' := by
  go_enter Try.func9, Try.ntmps9
  go_wp2_with fail
  go_ret
  exact ⟨rfl, (Below.refl _ _).alloc (Nat.le_refl _) _⟩
def TurnE (w : World) (g b : Nat) (most : Int) (err : Int) (l' : List Nd) (e : Ending) (w' : World) : Prop := e = .returned (.int .i64 err) ∧ Turned w g b most l' w'
theorem turned_same {w w' : World} {g b : Nat} {most : Int} {l : List Nd} (k : Trs w g b most l) (h : Below w.heap.size w w') : Turned w g b most l w' := ⟨k.below h, Only.of_below h⟩
section
variable (g b : Nat) (most : Int) (l : List Nd) (w : World) (k : Trs w g b most l) (i : Int) (d : Dp)
include k
theorem insert_badId (hi : ¬ (1 ≤ i ∧ i ≤ 2147483647)) : Calls Try.prog 9 #[.pointer (some ⟨g, 0, none⟩), .int .i64 i, .agg (da d)] w (TurnE w g b most 2 l) := by
  have HF := Lib.hid (turned_same k ((Below.refl _ _).alloc (Nat.le_refl _) (.cells (da d) 30)))
  clear k
  by_cases h : i < 1
  · clear hi
    go_enter Try.func9, Try.ntmps9
    go_wp2_with fail
    go_ret
    exact ⟨rfl, HF.out⟩
  · have h2 : 2147483647 < i := by omega
    clear hi
    go_enter Try.func9, Try.ntmps9
    go_wp2_with fail
    go_ret
    exact ⟨rfl, HF.out⟩
theorem insert_badDep (hi : 1 ≤ i ∧ i ≤ 2147483647) (hd : mayB d = false) : Calls Try.prog 9 #[.pointer (some ⟨g, 0, none⟩), .int .i64 i, .agg (da d)] w (TurnE w g b most 2 l) := by
  obtain ⟨on, wt, ex⟩ := d
  have hm := may_any ⟨on, wt, ex⟩ (w.alloc (.cells #[.int .i64 on, .int .i64 wt, .bool ex] 30))
  rw [hd] at hm
  have z1 := Blk.new w 30 #[.int .i64 on, .int .i64 wt, .bool ex]
  have HM := Lib.hid (And.intro hm (And.intro z1 ((Below.refl w.heap.size w).alloc (Nat.le_refl _) (.cells #[.int .i64 on, .int .i64 wt, .bool ex] 30))))
  have c0 : (w.alloc (.cells #[.int .i64 on, .int .i64 wt, .bool ex] 30)).cell? ⟨w.heap.size, 0, none⟩ = some (.int .i64 on) := Blk.cell z1 0
  have c1 : (w.alloc (.cells #[.int .i64 on, .int .i64 wt, .bool ex] 30)).cell? ⟨w.heap.size, 1, none⟩ = some (.int .i64 wt) := Blk.cell z1 1
  have c2 : (w.alloc (.cells #[.int .i64 on, .int .i64 wt, .bool ex] 30)).cell? ⟨w.heap.size, 2, none⟩ = some (.bool ex) := Blk.cell z1 2
  have HK := Lib.hid k
  obtain ⟨h1, h2⟩ := hi
  clear hm z1 hd k
  unfold da
  go_enter Try.func9, Try.ntmps9
  go_wp2_with fail
  refine HM.out.1.mono ?_
  rintro e w1 ⟨rfl, b1⟩
  have HF := Lib.hid (turned_same HK.out (HM.out.2.2.trans (b1.mono (by simp))))
  go_wp2_with fail
  go_ret
  exact ⟨rfl, HF.out⟩
theorem insert_cycle (hi : 1 ≤ i ∧ i ≤ 2147483647) (hd : mayB d = true) (hc : d.on = i) : Calls Try.prog 9 #[.pointer (some ⟨g, 0, none⟩), .int .i64 i, .agg (da d)] w (TurnE w g b most 12 l) := by
  obtain ⟨on, wt, ex⟩ := d
  simp only at hc
  subst hc
  have hm := may_any ⟨on, wt, ex⟩ (w.alloc (.cells #[.int .i64 on, .int .i64 wt, .bool ex] 30))
  rw [hd] at hm
  have z1 := Blk.new w 30 #[.int .i64 on, .int .i64 wt, .bool ex]
  have HM := Lib.hid (And.intro hm (And.intro z1 ((Below.refl w.heap.size w).alloc (Nat.le_refl _) (.cells #[.int .i64 on, .int .i64 wt, .bool ex] 30))))
  have c0 : (w.alloc (.cells #[.int .i64 on, .int .i64 wt, .bool ex] 30)).cell? ⟨w.heap.size, 0, none⟩ = some (.int .i64 on) := Blk.cell z1 0
  have c1 : (w.alloc (.cells #[.int .i64 on, .int .i64 wt, .bool ex] 30)).cell? ⟨w.heap.size, 1, none⟩ = some (.int .i64 wt) := Blk.cell z1 1
  have c2 : (w.alloc (.cells #[.int .i64 on, .int .i64 wt, .bool ex] 30)).cell? ⟨w.heap.size, 2, none⟩ = some (.bool ex) := Blk.cell z1 2
  have HK := Lib.hid k
  obtain ⟨h1, h2⟩ := hi
  clear hm z1 hd k
  unfold da
  go_enter Try.func9, Try.ntmps9
  go_wp2_with fail
  refine HM.out.1.mono ?_
  rintro e w1 ⟨rfl, b1⟩
  have HF := Lib.hid (turned_same HK.out (HM.out.2.2.trans (b1.mono (by simp))))
  have z2 := HM.out.2.1.below b1 (by simp)
  have e0 := Blk.cell z2 0
  simp at e0
  clear z2
  go_wp2_with fail
  go_ret
  exact ⟨rfl, HF.out⟩
theorem insert_rest (hi : 1 ≤ i ∧ i ≤ 2147483647) (hd : mayB d = true) (hc : d.on ≠ i) : Calls Try.prog 9 #[.pointer (some ⟨g, 0, none⟩), .int .i64 i, .agg (da d)] w fun e w' =>
    ((getN l i).isSome = true → TurnE w g b most 8 l e w') ∧ ((getN l i) = none → most ≤ l.length → TurnE w g b most 16 l e w') ∧ ((getN l i) = none → (l.length : Int) < most → TurnE w g b most 0 (layL l i (knownL l d)) e w') := by
  obtain ⟨on, wt, ex⟩ := d
  simp only at hc
  have hm := may_any ⟨on, wt, ex⟩ (w.alloc (.cells #[.int .i64 on, .int .i64 wt, .bool ex] 30))
  rw [hd] at hm
  have z1 := Blk.new w 30 #[.int .i64 on, .int .i64 wt, .bool ex]
  have HM := Lib.hid (And.intro hm (And.intro z1 ((Below.refl w.heap.size w).alloc (Nat.le_refl _) (.cells #[.int .i64 on, .int .i64 wt, .bool ex] 30))))
  have c0 : (w.alloc (.cells #[.int .i64 on, .int .i64 wt, .bool ex] 30)).cell? ⟨w.heap.size, 0, none⟩ = some (.int .i64 on) := Blk.cell z1 0
  have c1 : (w.alloc (.cells #[.int .i64 on, .int .i64 wt, .bool ex] 30)).cell? ⟨w.heap.size, 1, none⟩ = some (.int .i64 wt) := Blk.cell z1 1
  have c2 : (w.alloc (.cells #[.int .i64 on, .int .i64 wt, .bool ex] 30)).cell? ⟨w.heap.size, 2, none⟩ = some (.bool ex) := Blk.cell z1 2
  have HK := Lib.hid k
  have HI := Lib.hid (And.intro hi hd)
  have hne : (on == i) = false := by simp [hc]
  obtain ⟨h1, h2⟩ := hi
  clear hm z1 hd k hc
  unfold da
  go_enter Try.func9, Try.ntmps9
  go_wp2_with fail
  refine HM.out.1.mono ?_
  rintro e w1 ⟨rfl, b1⟩
  have B1 := HM.out.2.2.trans (b1.mono (by simp))
  have z2 := HM.out.2.1.below b1 (by simp)
  have e0 := Blk.cell z2 0
  simp at e0
  have H2 := Lib.hid (And.intro z2 (And.intro B1 (HK.out.below B1)))
  clear z2 B1 b1 c0 c1 c2 HM
  go_wp2_with fail
  refine (has_any g b most l w1 H2.out.2.2 i (wf31 (by omega) (by omega))).mono ?_
  rintro e w2 ⟨rfl, b2⟩
  have z3 := H2.out.1.below b2 H2.out.1.lt
  have H3 := Lib.hid (And.intro z3 (And.intro (H2.out.2.1.trans (b2.mono H2.out.2.1.size)) (H2.out.2.2.below b2)))
  clear z3 b2 H2 e0
  cases hg : getN l i with
  | some p =>
    have HF := Lib.hid (turned_same HK.out H3.out.2.1)
    have HG := Lib.hid hg
    clear hg
    simp only [Option.isSome_some]
    go_wp2_with fail
    go_ret
    exact ⟨fun _ => ⟨rfl, HF.out⟩, fun h => (by rw [HG.out] at h; cases h), fun h => (by rw [HG.out] at h; cases h)⟩
  | none =>
    have hl := fun n ty => MapV.len (ty := ty) Try.underlying52 (H3.out.2.2.drewN n).map
    have g0 := Blk.cell H3.out.2.2.blk 0
    have g1 := Blk.cell H3.out.2.2.blk 1
    simp at g0 g1
    have HG := Lib.hid hg
    clear hg
    simp only [Option.isSome_none]
    by_cases hfull : most ≤ l.length
    · go_wp2_with fail
      go_quiet (fail)
      have HF := Lib.hid (turned_same HK.out (below_drewN H3.out.2.1 nq))
      generalize w2.drewN nq = w4 at *
      go_wp2_with fail
      go_ret
      exact ⟨fun h => (by rw [HG.out] at h; cases h), fun _ _ => ⟨rfl, HF.out⟩, fun _ h => absurd h (by omega)⟩
    · have hfull' : (l.length : Int) < most := by omega
      go_wp2_with fail
      go_quiet (fail)
      have H4 : Hid (Blk (w2.drewN nq) w.heap.size 30 #[.int .i64 on, .int .i64 wt, .bool ex] ∧ Below w.heap.size w (w2.drewN nq) ∧ Trs (w2.drewN nq) g b most l) := ⟨H3.out.1, below_drewN H3.out.2.1 nq, H3.out.2.2.drewN nq⟩
      have HFU := Lib.hid hfull'
      clear H3 hl g0 g1 hfull'
      generalize w2.drewN nq = w4 at *
      have e0 := Blk.cell H4.out.1 0
      have e1 := Blk.cell H4.out.1 1
      have e2 := Blk.cell H4.out.1 2
      simp at e0 e1 e2
      have HKN : Hid (mayB (knownL l ⟨on, wt, ex⟩) = true) := by
        show mayB (knownL l ⟨on, wt, ex⟩) = true
        unfold knownL
        split
        · have := of_decide_eq_true HI.out.2
          exact decide_eq_true (by simp only at this ⊢; omega)
        · exact HI.out.2
      go_wp2_with (first
        | (go_at_call 24
           refine (known_any g b most l w4 H4.out.2.2 ⟨on, wt, ex⟩ (by
             have h := of_decide_eq_true HI.out.2
             exact wf31 h.1 h.2.1)).mono ?_
           rintro e w5 ⟨rfl, b5⟩
           have H5 := Lib.hid (And.intro (H4.out.2.2.below b5) (H4.out.2.1.trans (b5.mono H4.out.2.1.size)))
           clear b5)
        | (go_at_call 23
           refine (lay_any g b most l w5 H5.out.1 i _ HI.out.1 HKN.out (.inr (by
             have h1 := HFU.out
             have h2 := H5.out.1.mst
             omega))).mono ?_
           rintro e w6 ⟨rfl, t6, o6⟩
           have H6 : Hid (Turned w g b most (layL l i (knownL l ⟨on, wt, ex⟩)) w6) := ⟨t6, (Only.of_below (S := [b]) H5.out.2).trans_ o6⟩
           clear t6 o6))
      go_ret
      exact ⟨fun h => (by rw [HG.out] at h; cases h), fun _ h => absurd h (by have := HFU.out; omega), fun _ _ => ⟨rfl, H6.out⟩⟩
end
end Go.Proofs.Ytifgbnjpiphidaa
