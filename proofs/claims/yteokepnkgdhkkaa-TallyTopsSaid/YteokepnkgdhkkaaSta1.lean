/- The walks of the stable sort: ranges exchanged. -/
import Derived.Test.YteokepnkgdhkkaaRows
import Derived.WalkKit
import Derived.ProofKit
import Derived.Handy
import Derived.Deep.QuietTactic
import Derived.BigQuiet
import Derived.Deep.RegionWith
import Derived.Deep.RegionHeld3
import Derived.Deep.AppendLies
import Derived.WalkLawsBesides
import Derived.WalkSmall
import Derived.Deep.Cut
import Derived.Test.YteokepnkgdhkkaaTal5
import Derived.Test.YteokepnkgdhkkaaTal13
import Derived.Test.YteokepnkgdhkkaaStaL
namespace Go.Proofs.Yteokepnkgdhkkaa
open Go.RowKit Go.Sort
set_option linter.unusedVariables false
theorem row_cells {w : World} {base g n c : Nat} {l : List Sm} (ho : w.ownsRow base 33 8 (.slice (some ⟨g, 0, none⟩) n c) n (svs l)) (i : Nat) (hi : i < l.length) (hn : l.length = n) :
    (w.cell? ⟨g, i * 8, none⟩ = some (.int .i64 l[i].st) ∧ w.cell? ⟨g, i * 8 + 1, none⟩ = some (.int .i64 l[i].se) ∧ w.cell? ⟨g, i * 8 + 2, none⟩ = some (.int .i64 l[i].ca) ∧ w.cell? ⟨g, i * 8 + 3, none⟩ = some (.int .i64 l[i].mo) ∧ w.cell? ⟨g, i * 8 + 4, none⟩ = some (.bool l[i].ou) ∧ w.cell? ⟨g, i * 8 + 5, none⟩ = some (.bool l[i].inn) ∧ w.cell? ⟨g, i * 8 + 6, none⟩ = some (.int .i64 l[i].op) ∧ w.cell? ⟨g, i * 8 + 7, none⟩ = some (.int .i64 l[i].dn)) ∧ ∀ j, w.frozen? ⟨g, j, none⟩ = false := by
  have e : ∀ j, j < 8 → w.cell? ⟨g, i * 8 + j, none⟩ = (sv l[i])[j]? := fun j hj => (ho.cellAt (i * 8 + j) (by omega)).trans (svs_at l i hi j hj)
  exact ⟨⟨e 0 (by omega), e 1 (by omega), e 2 (by omega), e 3 (by omega), e 4 (by omega), e 5 (by omega), e 6 (by omega), e 7 (by omega)⟩, ho.frozenAt⟩
/-- Two elements exchanged in a row of one's own. -/
theorem own_swap {w : World} {base g n cap : Nat} {d : Array Sm} (h : w.ownsRow base 33 8 (.slice (some ⟨g, 0, none⟩) n cap) n (svs d.toList)) {i j : Nat} (hi : i < d.size) (hj : j < d.size) :
    (put8 (put8 w g (i * 8) d[j]!) g (j * 8) d[i]!).ownsRow base 33 8 (.slice (some ⟨g, 0, none⟩) n cap) n (svs (swp d i j).toList) ∧ w.grownBy (put8 (put8 w g (i * 8) d[j]!) g (j * 8) d[i]!) (some g) := by
  have h1 := own_put8 h (k := i) (by simpa using hi) d[j]!
  have h2 := own_put8 h1.1 (k := j) (by simpa using hj) d[i]!
  refine ⟨?_, h1.2.trans h2.2⟩
  have e : (swp d i j).toList = (d.toList.set i d[j]!).set j d[i]! := by
    unfold swp
    rw [Array.toList_setIfInBounds, Array.toList_setIfInBounds]
  rw [e]
  exact h2.1
/-- A sort's state: the row A reads as d. -/
def RowIs (base : Nat) (w0 w : World) (g n c : Nat) (d : Array Sm) : Prop := d.size = n ∧ w.ownsRow base 33 8 (.slice (some ⟨g, 0, none⟩) n c) n (svs d.toList) ∧ Below base w0 w
def SwapE (base : Nat) (w : World) (g n c : Nat) (d : Array Sm) (p q k : Nat) (e : Ending) (w' : World) : Prop :=
  e = .returned (.tuple #[]) ∧ ∃ d' : Array Sm, (∀ x, at' d' x = swF (at' d) p q k x) ∧ (∀ a b, a ≤ p → q + k ≤ b → b ≤ n → PermIn a b d d') ∧ RowIs base w w' g n c d'
set_option maxHeartbeats 16000000 in
theorem swapR_any (base : Nat) (w : World) (g n c : Nat) (d : Array Sm) (p q k : Nat) (fv : Value) (h : RowIs base w w g n c d) (hb : base ≤ w.heap.size) (hn : n ≤ 100000) (hpq : p + k ≤ q) (hq : q + k ≤ n) :
    Calls Try.prog 53 #[.slice (some ⟨g, 0, none⟩) n c, .int .i64 p, .int .i64 q, .int .i64 k, fv] w (SwapE base w g n c d p q k) := by
  have H := Lib.hid h
  have hc := (Held.of_own h.2.1).2.1
  have hc2 := (Held.of_own h.2.1).2.2.1
  clear h
  go_enter Try.func53, Try.ntmps53
  go_wp2_with fail
  go_loopw [10] (fun iv wr => ∃ (i : Nat) (dk : Array Sm), i ≤ k ∧ iv = .int .i64 i ∧ (∀ x, at' dk x = swF (at' d) p q i x) ∧ (∀ a b, a ≤ p → q + k ≤ b → b ≤ n → PermIn a b d dk) ∧ RowIs base w wr g n c dk) (fun iv _ => k - (intOf iv).toNat)
  case atStart => exact ⟨0, d, by omega, rfl, (fun x => (sw_zero _ _ _ _).symm), (fun a b _ _ _ => permIn_refl d a b), H.out⟩
  case round =>
    obtain ⟨i, dk, hi, rfl, hf, hp, hr⟩ := hrel
    have HM := Lib.hid (And.intro hf (And.intro hp hr))
    clear hf hp hr
    have hi0 : (0 : Int) ≤ i := by omega
    by_cases hlt : i < k
    · have hi1 : (i : Int) < k := by omega
      have hds := HM.out.2.2.1
      obtain ⟨P, hP⟩ : ∃ P, P = p + i := ⟨_, rfl⟩
      obtain ⟨Q, hQ⟩ : ∃ Q, Q = q + i := ⟨_, rfl⟩
      have hPd : P < dk.size := by omega
      have hQd : Q < dk.size := by omega
      have hPi : (p : Int) + (i : Int) = (P : Int) := by omega
      have hQi : (q : Int) + (i : Int) = (Q : Int) := by omega
      have hP0 : (0 : Int) ≤ P := by omega
      have hQ0 : (0 : Int) ≤ Q := by omega
      have hPn : (P : Int) < n := by omega
      have hQn : (Q : Int) < n := by omega
      have hne : P ≠ Q := by omega
      have r1 := row_cells HM.out.2.2.2.1 P (by simpa using hPd) (by simpa using hds)
      have r2 := row_cells HM.out.2.2.2.1 Q (by simpa using hQd) (by simpa using hds)
      have eP : dk.toList[P]'(by simpa using hPd) = dk[P]! := by rw [getElem!_pos dk P hPd]; simp
      have eQ : dk.toList[Q]'(by simpa using hQd) = dk[Q]! := by rw [getElem!_pos dk Q hQd]; simp
      rw [eP] at r1
      rw [eQ] at r2
      have HS := Lib.hid (own_swap HM.out.2.2.2.1 hPd hQd)
      have HW := Lib.hid (And.intro (fun x => sw_step (n := i) HM.out.1 (by omega) (by omega) x) (And.intro hP hQ))
      have HPm := Lib.hid (fun a b (ha : a ≤ p) (hb : q + k ≤ b) (hbn : b ≤ n) => permIn_trans _ _ _ a b (HM.out.2.1 a b ha hb hbn) (swp_permIn dk a b P Q (by omega) (by omega) (by omega) (by omega) (by omega)))
      clear eP eQ hP hQ
      generalize dk[P]! = x at *
      generalize dk[Q]! = y at *
      obtain ⟨x0, x1, x2, x3, x4, x5, x6, x7⟩ := x
      obtain ⟨y0, y1, y2, y3, y4, y5, y6, y7⟩ := y
      obtain ⟨⟨c0, c1, c2, c3, c4, c5, c6, c7⟩, hfz⟩ := r1
      obtain ⟨⟨d0, d1, d2, d3, d4, d5, d6, d7⟩, _⟩ := r2
      have f0 := hfz (P * 8 + 0)
      have g0 := hfz (Q * 8 + 0)
      have f1 := hfz (P * 8 + 1)
      have g1 := hfz (Q * 8 + 1)
      have f2 := hfz (P * 8 + 2)
      have g2 := hfz (Q * 8 + 2)
      have f3 := hfz (P * 8 + 3)
      have g3 := hfz (Q * 8 + 3)
      have f4 := hfz (P * 8 + 4)
      have g4 := hfz (Q * 8 + 4)
      have f5 := hfz (P * 8 + 5)
      have g5 := hfz (Q * 8 + 5)
      have f6 := hfz (P * 8 + 6)
      have g6 := hfz (Q * 8 + 6)
      have f7 := hfz (P * 8 + 7)
      have g7 := hfz (Q * 8 + 7)
      simp only [Nat.add_zero] at f0 g0
      try simp only at c0 c1 c2 c3 c4 c5 c6 c7 d0 d1 d2 d3 d4 d5 d6 d7
      clear hfz
      have hPi' : IntKind.i64.wrap (P : Int) = P := by rw [IntKind.wrap_i64]; omega
      have hQi' : IntKind.i64.wrap (Q : Int) = Q := by rw [IntKind.wrap_i64]; omega
      go_wp2_with fail
      go_region
      all_goals go_wp2_with fail
      all_goals
        have hrow := HS.out.1.drew
        have hbel := (HM.out.2.2.2.2.grown HS.out.2 (by have := HM.out.2.2.2.2.size; omega) (fun q hq => by
          injection hq with hq
          subst hq
          exact ownBlock_ge HM.out.2.2.2.1 rfl)).drew
        have hfin := Lib.hid (And.intro (show ∀ x, at' (swp dk P Q) x = swF (at' d) p q (i + 1) x by rw [HW.out.2.1, HW.out.2.2]; exact HW.out.1) (And.intro HPm.out (And.intro ((size_swp dk P Q).trans hds) (And.intro hrow hbel))))
        clear hrow hbel
        go_roundw
      case rel => exact ⟨i + 1, swp dk P Q, by omega, by go_num, hfin.out.1, hfin.out.2.1, hfin.out.2.2⟩
      case measure => simp [intOf]; omega
    · obtain rfl : k = i := by omega
      go_wp2_with fail
      go_end0
      exact ⟨rfl, dk, HM.out.1, HM.out.2.1, HM.out.2.2⟩
end Go.Proofs.Yteokepnkgdhkkaa
