/- A call of the ledger, beside the two maps. -/
import Derived.Test.YtpbahmnlhckgbaaCredN
import Derived.Deep.QuietTactic
import Derived.BigQuiet
import Derived.Deep.RegionWith
import Derived.Deep.RegionHeld3
import Derived.Deep.DeepCutAuto
import Derived.WalkLawsBesides
import Derived.WalkSmall
namespace Go.Proofs.Ytpbahmnlhckgbaa
open Go.RowKit
set_option linter.unusedVariables false
section
variable {base : Nat} {w : World} {g gm sm m cw cap : Nat} {cn sp : Int} {A : Option Addr} {l : List Ln} {G S : Int → Option Int}
/-- A call that changes nothing that counts; or one that changes the ledger alone, so that P says what is then fair. -/
def After (base : Nat) (w : World) (g gm sm m : Nat) (G S : Int → Option Int) (P : Nat → Int → Int → List Ln → Prop) (e : Ending) (w' : World) : Prop :=
  ∃ code, e = .returned (.int .i64 code) ∧ Below base w w' ∧ Still w w' ∧ (((code == 0) = false ∧ ∃ cw cn sp A cap l, Nev base w' g gm sm m cw cn sp A cap l G S) ∨ (code = 0 ∧ ∃ cw cn sp A cap l, Led base w' g cw cn sp A cap l ((m + 1 : Nat) * 2147483647) ∧ P cw cn sp l))
theorem After.same {P : Nat → Int → Int → List Ln → Prop} {w' : World} {code : Int} (k : Nev base w g gm sm m cw cn sp A cap l G S) (hc : (code == 0) = false) (b : Below w.heap.size w w') : After base w g gm sm m G S P (.returned (.int .i64 code)) w' :=
  ⟨code, rfl, b.mono (Nat.le_trans k.led.bas.1 (Nat.le_of_lt k.led.lt)), Still.of_below b, .inl ⟨hc, _, _, _, _, _, _, k.below b⟩⟩
theorem After.still {P : Nat → Int → Int → List Ln → Prop} {w' : World} {code : Int} {cw' cap' : Nat} {cn' sp' : Int} {A' : Option Addr} {l' : List Ln} (k : Nev base w g gm sm m cw cn sp A cap l G S) (hc : (code == 0) = false) (b : Below base w w') (s : Still w w') (k' : Led base w' g cw' cn' sp' A' cap' l' (m * 2147483647)) (f : Fair G S l' cn' sp') : After base w g gm sm m G S P (.returned (.int .i64 code)) w' := by
  obtain ⟨c, h1, h2⟩ := k.giv
  obtain ⟨d, h3, h4⟩ := k.spe
  exact ⟨code, rfl, b, s, .inl ⟨hc, _, _, _, _, _, _, ⟨k', ⟨c, h1.still s, h2⟩, ⟨d, h3.still s, h4⟩, f, k.ne, k.bas⟩⟩⟩
end
section
variable (base g gm sm m cw cap : Nat) (cn sp : Int) (A : Option Addr) (l : List Ln) (G S : Int → Option Int) (w : World) (k : Nev base w g gm sm m cw cn sp A cap l G S) (hm : m < 100)
include k hm
theorem nev_open (x n : Int) : Calls Try.prog 8 #[.pointer (some ⟨g, 0, none⟩), .int .i64 x, .int .i64 n] w (After base w g gm sm m G S fun _ cn' sp' l' => 1 ≤ x ∧ x ≤ 2147483647 ∧ 0 ≤ n ∧ n ≤ 2147483647 ∧ Fair (upd G x (some n)) (upd S x (some 0)) l' cn' sp') := by
  by_cases hx : x < 1 ∨ 2147483647 < x
  · refine (open_arg g x n w hx).mono ?_
    rintro e w1 ⟨rfl, rfl⟩
    exact After.same k (by decide) (Below.refl _ _)
  · by_cases hn : n < 0 ∨ 2147483647 < n
    · refine (open_range g x n w (by omega) (by omega) hn).mono ?_
      rintro e w1 ⟨rfl, rfl⟩
      exact After.same k (by decide) (Below.refl _ _)
    · rcases found_or l x with ⟨i, hi, rfl⟩ | hno
      · refine (open_exist base g cw cap cn sp _ A l w k.led n i hi (by omega) (by omega)).mono ?_
        rintro e w1 ⟨rfl, b⟩
        exact After.same k (by decide) b
      · by_cases hl : 64 ≤ l.length
        · refine (open_full base g cw cap cn sp _ x A l w k.led n hno (by omega) (by omega) (by omega) (by omega) hl).mono ?_
          rintro e w1 ⟨rfl, b⟩
          exact After.same k (by decide) b
        · refine (open_ok base g cw cap cn sp _ x A l w k.led n hno (by omega) (by omega) (by omega) (by omega) (by omega)).mono ?_
          rintro e w1 ⟨rfl, ⟨A', cap', wb, i, hp, k1⟩, b, s⟩
          exact ⟨0, rfl, b, s, .inr ⟨rfl, _, _, _, _, _, _, k1.mono (by omega) (by omega), by omega, by omega, by omega, by omega, k.fair.open_ hno (by omega)⟩⟩
theorem nev_close (x : Int) : Calls Try.prog 9 #[.pointer (some ⟨g, 0, none⟩), .int .i64 x] w fun e w' => (∃ code, e = .returned (.int .i64 code)) ∧ Below base w w' ∧ ∃ A' cap' l', Nev base w' g gm sm (m + 1) cw cn sp A' cap' l' G S := by
  rcases found_or l x with ⟨i, hi, rfl⟩ | hno
  · refine (close_at base g cw cap cn sp _ A l w k.led i hi).mono ?_
    rintro e w1 ⟨rfl, ⟨A', cap', k1⟩, b, s⟩
    obtain ⟨c, h1, h2⟩ := k.giv
    obtain ⟨d, h3, h4⟩ := k.spe
    exact ⟨⟨0, rfl⟩, b, _, _, _, (⟨k1, ⟨c, h1.still s, h2⟩, ⟨d, h3.still s, h4⟩, k.fair.sub fun x hx => (del_sub l i).subset hx, k.ne, k.bas⟩ : Nev base w1 g gm sm m cw cn sp A' cap' (del l i) G S).up hm⟩
  · refine (close_no base g cw cap cn sp _ x A l w k.led hno).mono ?_
    rintro e w1 ⟨rfl, b⟩
    exact ⟨⟨7, rfl⟩, b.mono (Nat.le_trans k.led.bas.1 (Nat.le_of_lt k.led.lt)), _, _, _, (k.below b).up hm⟩
theorem nev_grow (x b : Int) : Calls Try.prog 10 #[.pointer (some ⟨g, 0, none⟩), .int .i64 x, .int .i64 b] w (After base w g gm sm m G S fun _ cn' sp' l' => -9223372036854775808 ≤ at0 G x + b ∧ at0 G x + b ≤ 9223372036854775807 ∧ Fair (upd G x (some (at0 G x + b))) S l' cn' sp') := by
  have hsb := k.led.spb
  have hcb := k.led.cnb
  by_cases hx0 : x = 0
  · subst hx0
    refine (grow_conn base g cw cap cn sp _ A l w k.led b).mono ?_
    rintro e w1 ⟨rfl, k1, bb, s⟩
    by_cases hc : (growC cn b).2 = 0
    · obtain ⟨e1, e2, e3⟩ := growC_ok hc
      rw [e1] at k1
      rw [hc]
      have hf := k.fair.all
      exact ⟨0, rfl, bb, s, .inr ⟨rfl, _, _, _, _, _, _, k1.mono (by omega) (by omega), by omega, by omega, k.fair.conn_ k.led.ids0⟩⟩
    · rw [growC_no hc] at k1
      exact After.still k (beq_eq_false_iff_ne.2 hc) bb s k1 k.fair
  · rcases found_or l x with ⟨i, hi, rfl⟩ | hno
    · refine (grow_at base g cw cap cn sp _ A l w k.led b i hi).mono ?_
      rintro e w1 ⟨rfl, k1, bb, s⟩
      have hb := k.led.bds l[i] (List.getElem_mem _)
      by_cases hc : (growC l[i].n b).2 = 0
      · obtain ⟨e1, e2, e3⟩ := growC_ok hc
        rw [e1] at k1
        rw [hc]
        have hf := k.fair.one l[i] (List.getElem_mem _)
        exact ⟨0, rfl, bb, s, .inr ⟨rfl, _, _, _, _, _, _, k1.mono (by omega) (by omega), by omega, by omega, k.fair.grow_ k.led.srt hi hx0⟩⟩
      · rw [growC_no hc, chg_noop hi] at k1
        exact After.still k (beq_eq_false_iff_ne.2 hc) bb s k1 k.fair
    · refine (grow_no base g cw cap cn sp _ x A l w k.led b hx0 hno).mono ?_
      rintro e w1 ⟨rfl, b⟩
      exact After.same k (by decide) b
theorem nev_spend (x b : Int) : Calls Try.prog 13 #[.pointer (some ⟨g, 0, none⟩), .int .i64 x, .int .i64 b] w (After base w g gm sm m G S fun _ cn' sp' l' => b = 0 ∧ Fair G S l' cn' sp' ∨ b ≠ 0 ∧ x ≠ 0 ∧ 1 ≤ b ∧ b ≤ 2147483647 ∧ 0 ≤ at0 S x ∧ at0 S x ≤ 1000000000000 ∧ 0 ≤ at0 S 0 ∧ at0 S 0 ≤ 1000000000000 ∧ at0 S x + b ≤ at0 G x ∧ at0 S 0 + b ≤ at0 G 0 ∧ Fair G (upd (upd S x (some (at0 S x + b))) 0 (some (at0 S 0 + b))) l' cn' sp') := by
  rcases found_or l x with ⟨i, hi, rfl⟩ | hno
  · by_cases hk : b < 0
    · refine (spend_neg base g cw cap cn sp _ A l w k.led b i hi hk).mono ?_
      rintro e w1 ⟨rfl, bb⟩
      exact After.same k (by decide) bb
    · by_cases hmm : min (max l[i].n 0) (max cn 0) < b
      · refine (spend_much base g cw cap cn sp _ A l w k.led b i hi (by omega) hmm).mono ?_
        rintro e w1 ⟨rfl, bb⟩
        exact After.same k (by decide) bb
      · refine (spend_ok base g cw cap cn sp _ A l w k.led b i hi (by omega) (by omega) (by omega)).mono ?_
        rintro e w1 ⟨rfl, k1, bb, s⟩
        have hb := k.led.bds l[i] (List.getElem_mem _)
        have hcb := k.led.cnb
        have hsb := k.led.spb
        have hf := k.fair.one l[i] (List.getElem_mem _)
        have ha := k.fair.all
        refine ⟨0, rfl, bb, s, .inr ⟨rfl, _, _, _, _, _, _, by rw [show (((m + 1 : Nat)) : Int) * 2147483647 = (m : Int) * 2147483647 + 2147483647 by omega]; exact k1, ?_⟩⟩
        by_cases hb0 : b = 0
        · subst hb0
          refine .inl ⟨rfl, ?_⟩
          have e1 : chg l i (l[i].n - 0) (l[i].sp + 0) = l := by rw [Int.sub_zero, Int.add_zero]; exact chg_noop hi
          rw [e1, Int.sub_zero, Int.add_zero]
          exact k.fair
        · exact .inr ⟨hb0, k.led.ids0 _ (List.getElem_mem _), by omega, by omega, by omega, by omega, by omega, by omega, by omega, by omega, k.fair.spend_ k.led.srt hi k.led.ids0⟩
  · refine (spend_no base g cw cap cn sp _ x A l w k.led b hno).mono ?_
    rintro e w1 ⟨rfl, bb⟩
    exact After.same k (by decide) bb
theorem nev_resize (a b : Int) : Calls Try.prog 12 #[.pointer (some ⟨g, 0, none⟩), .int .i64 a, .int .i64 b] w (After base w g gm sm m G S fun _ cn' sp' l' => Win2 a b ∧ Fair (addAll G (b - a) (l.map (·.id))) S l' cn' sp') := by
  by_cases hab : a < 0 ∨ 2147483647 < a ∨ b < 0 ∨ 2147483647 < b
  · refine (rsz_arg base g cw cap cn sp _ A l w k.led a b hab).mono ?_
    rintro e w1 ⟨rfl, bb⟩
    exact After.same k (by decide) bb
  · have hw : Win2 a b := by unfold Win2; omega
    rcases first_bad l (b - a) l.length (Nat.le_refl _) with hall | ⟨i0, hi0, hov, hbef⟩
    · refine (rsz_ok base g cw cap cn sp _ A l w k.led a b hw fun j hj => hall j hj hj).mono ?_
      rintro e w1 ⟨rfl, k1, bb, s⟩
      exact ⟨0, rfl, bb, s, .inr ⟨rfl, _, _, _, _, _, _, k1.mono (by omega) (by omega), hw, k.fair.resize_ k.led.srt k.led.ids0⟩⟩
    · refine (rsz_over base g cw cap cn sp _ A l w k.led a b hw i0 hi0 hov hbef).mono ?_
      rintro e w1 ⟨rfl, bb⟩
      exact After.same k (by decide) bb
theorem nev_bound (x : Int) (hx : x ∈ l.map (·.id)) : 0 ≤ at0 G x + 2147483647 ∧ at0 G x ≤ 1000000000000 := by
  obtain ⟨y, hy, rfl⟩ := List.mem_map.1 hx
  have hb := k.led.bds y hy
  have hf := k.fair.one y hy
  omega
end
theorem held_off {w w' : World} {e : TypeId} {sz n c b cnt : Nat} {A : Option Addr} {xs : List Value} {G : Int → Option Int} (h : Held w e sz A n c xs) (hm : MapI w b G cnt) (hg : w.grownBy w' (some b)) : Held w' e sz A n c xs :=
  h.keep fun x cur hx => hg.block x (lt_of_blk hx) (by intro e; injection e with e; exact MapV.blk_ne hm (show Blk w x _ cur from hx) e)
theorem take_at {l : List Int} (hn : l.Nodup) {j : Nat} (hj : j < l.length) : l[j] ∉ l.take j := fun hm => by
  obtain ⟨i, hi, e⟩ := List.mem_iff_getElem.1 hm
  rw [List.getElem_take] at e
  have hi2 : i < j := by simp at hi; omega
  have h2 := List.pairwise_iff_getElem.1 hn i j (by omega) hj hi2
  exact h2 e
theorem ids_nodup {l : List Ln} (hs : Srt l) : (l.map (·.id)).Nodup := by
  rw [List.Nodup, List.pairwise_map]
  exact (srt_iff.1 hs).imp fun hab => by omega
end Go.Proofs.Ytpbahmnlhckgbaa
