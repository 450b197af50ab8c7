/- The walks of package credit: Spend, Grow. -/
import Derived.Test.YtpbahmnlhckgbaaCred4
import Derived.Deep.QuietTactic
import Derived.BigQuiet
import Derived.Deep.RegionWith
import Derived.Deep.RegionHeld3
import Derived.WalkLawsBesides
import Derived.WalkSmall
namespace Go.Proofs.Ytpbahmnlhckgbaa
open Go.RowKit
set_option linter.unusedVariables false
def growC (n b : Int) : Int × Int := if b < 1 ∨ 2147483647 < b then (n, 2) else if 2147483647 < n + b then (n, 10) else (n + b, 0)
theorem growC_bds {n b : Int} (h1 : -2147483647 ≤ n) (h2 : n ≤ 2147483647) : -2147483647 ≤ (growC n b).1 ∧ (growC n b).1 ≤ 2147483647 := by
  unfold growC
  split
  · exact ⟨h1, h2⟩
  · split
    · exact ⟨h1, h2⟩
    · simp only; omega
theorem wgrow_any (a : Nat) (n b : Int) (w : World) (hw : Win w a n) (h1 : -2147483647 ≤ n) (h2 : n ≤ 2147483647) : Calls Try.prog 25 #[.pointer (some ⟨a, 0, none⟩), .int .i64 b] w fun e w' => e = .returned (.int .i64 (growC n b).2) ∧ Win w' a (growC n b).1 ∧ Only [a] w w' := by
  by_cases hb : b < 1 ∨ 2147483647 < b
  · have e : growC n b = (n, 2) := if_pos hb
    rw [e]
    refine (grow_arg a b w hb).mono ?_
    rintro e w' ⟨rfl, rfl⟩
    exact ⟨rfl, hw, Only.refl _ _⟩
  · by_cases ho : 2147483647 < n + b
    · have e : growC n b = (n, 10) := by unfold growC; rw [if_neg hb, if_pos ho]
      rw [e]
      refine (grow_over a n b w hw h1 h2 (by omega) (by omega) ho).mono ?_
      rintro e w' ⟨rfl, rfl⟩
      exact ⟨rfl, hw, Only.refl _ _⟩
    · have e : growC n b = (n + b, 0) := by unfold growC; rw [if_neg hb, if_neg ho]
      rw [e]
      exact grow_yes a n b w hw h1 h2 (by omega) (by omega) (by omega)
theorem new_ok (n : Int) (w : World) (h0 : 0 ≤ n) (h1 : n ≤ 2147483647) : Calls Try.prog 6 #[.int .i64 n] w fun e w' => (∃ g cw, e = .returned (.tuple #[.pointer (some ⟨g, 0, none⟩), .int .i64 0]) ∧ (∀ base, base ≤ w.heap.size → Led base w' g cw n 0 none 0 [] 0) ∧ w.heap.size ≤ g) ∧ Below w.heap.size w w' := by
  have HN := Lib.hid (new_yes n w h0 h1)
  go_enter Try.func6, Try.ntmps6
  go_wp2_with fail
  refine HN.out.mono ?_
  rintro e w1 ⟨rfl, hw, b⟩
  have HB := Lib.hid (And.intro hw b)
  have hs := b.size
  have hl := Blk.lt hw
  clear hw b
  go_wp2_with fail
  go_ret2
  refine ⟨⟨w1.heap.size, w.heap.size, rfl, fun base hb => ⟨Blk.new _ _ _, own_nil _ _ _ _, Blk.alloc HB.out.1 _, by simp, by simp, by simp, fun i j hi => absurd hi (by simp), by simp, by omega, by omega, by omega, by omega⟩, by omega⟩, HB.out.2.alloc hs _⟩
theorem new_bad (n : Int) (w : World) (h : n < 0 ∨ 2147483647 < n) : Calls Try.prog 6 #[.int .i64 n] w fun e w' => e = .returned (.tuple #[.pointer none, .int .i64 3]) ∧ w = w' := by
  have HN := Lib.hid (new_no n w h)
  clear h
  go_enter Try.func6, Try.ntmps6
  go_wp2_with fail
  refine HN.out.mono ?_
  rintro e w1 ⟨rfl, rfl⟩
  go_wp2_with fail
  go_ret2
  exact ⟨rfl, rfl⟩
section
variable (base g cw cap : Nat) (cn sp M x : Int) (A : Option Addr) (l : List Ln) (w : World) (k : Led base w g cw cn sp A cap l M)
include k
theorem spend_no (by_ : Int) (hn : ∀ (j : Nat) (hj : j < l.length), l[j].id ≠ x) : Calls Try.prog 13 #[.pointer (some ⟨g, 0, none⟩), .int .i64 x, .int .i64 by_] w fun e w' => e = .returned (.int .i64 7) ∧ Below w.heap.size w w' := by
  have HL := Lib.hid (line_no base g cw cap cn sp M x A l w k hn)
  clear k hn
  go_enter Try.func13, Try.ntmps13
  go_wp2_with fail
  refine HL.out.mono ?_
  rintro e w1 ⟨rfl, b⟩
  have HB := Lib.hid b
  clear b
  go_wp2_with fail
  go_ret
  exact ⟨rfl, HB.out⟩
theorem spend_neg (by_ : Int) (i : Nat) (hi : i < l.length) (hk : by_ < 0) : Calls Try.prog 13 #[.pointer (some ⟨g, 0, none⟩), .int .i64 l[i].id, .int .i64 by_] w fun e w' => e = .returned (.int .i64 2) ∧ Below w.heap.size w w' := by
  have HL := Lib.hid (line_at base g cw cap cn sp M A l w k i hi)
  clear k
  generalize l[i].id = x at *
  go_enter Try.func13, Try.ntmps13
  go_wp2_with fail
  refine HL.out.mono ?_
  rintro e w1 ⟨⟨gb, hA, rfl⟩, b⟩
  have HB := Lib.hid b
  clear b hA
  go_wp2_with fail
  go_ret
  exact ⟨rfl, HB.out⟩
theorem spend_much (by_ : Int) (i : Nat) (hi : i < l.length) (hk : 0 ≤ by_) (hm : min (max l[i].n 0) (max cn 0) < by_) : Calls Try.prog 13 #[.pointer (some ⟨g, 0, none⟩), .int .i64 l[i].id, .int .i64 by_] w fun e w' => e = .returned (.int .i64 9) ∧ Below w.heap.size w w' := by
  have HL := Lib.hid (line_at base g cw cap cn sp M A l w k i hi)
  have HF := Lib.hid (fun (w1 : World) (b : Below w.heap.size w w1) => free_at base g cw cap cn sp M A l w1 (k.below b) i hi)
  clear k
  generalize l[i].id = x at *
  generalize min (max l[i].n 0) (max cn 0) = f at *
  go_enter Try.func13, Try.ntmps13
  go_wp2_with fail
  refine HL.out.mono ?_
  rintro e w1 ⟨⟨gb, hA, rfl⟩, b⟩
  have HB := Lib.hid b
  clear b hA
  go_wp2_with fail
  refine (HF.out w1 HB.out).mono ?_
  rintro e w2 ⟨rfl, b⟩
  have HB2 := Lib.hid (HB.out.trans (b.mono HB.out.size))
  clear b
  go_wp2_with fail
  go_ret
  exact ⟨rfl, HB2.out⟩
set_option maxHeartbeats 1000000 in
theorem spend_ok (by_ : Int) (i : Nat) (hi : i < l.length) (hk : 0 ≤ by_) (hm : by_ ≤ min (max l[i].n 0) (max cn 0)) (hM : M + 2147483647 ≤ 1000000000000000000) : Calls Try.prog 13 #[.pointer (some ⟨g, 0, none⟩), .int .i64 l[i].id, .int .i64 by_] w fun e w' => e = .returned (.int .i64 0) ∧ Led base w' g cw (cn - by_) (sp + by_) A cap (chg l i (l[i].n - by_) (l[i].sp + by_)) (M + 2147483647) ∧ Below base w w' ∧ Still w w' := by
  have HL := Lib.hid (line_at base g cw cap cn sp M A l w k i hi)
  have HF := Lib.hid (fun (w1 : World) (b : Below w.heap.size w w1) => free_at base g cw cap cn sp M A l w1 (k.below b) i hi)
  have HK := Lib.hid k
  obtain ⟨hb1, hb2, hb3, hb4, hb5, hb6⟩ := k.bds l[i] (List.getElem_mem _)
  have hwi := k.wins l[i] (List.getElem_mem _)
  have hcn := k.cnb
  have hsp := k.spb
  have hbas := k.bas
  have hws : base ≤ w.heap.size := Nat.le_trans k.bas.1 (Nat.le_of_lt k.lt)
  have hwb := hwi.2.1
  have hmb := k.mb
  clear hwi k
  have HX : Hid (l[i] = ⟨l[i].id, l[i].w, l[i].n, l[i].sp⟩) := rfl
  generalize hxe : l[i].id = x at *
  generalize hne : l[i].n = n at *
  generalize hwe : l[i].w = ww at *
  generalize hse : l[i].sp = ss at *
  have HE := Lib.hid (And.intro hxe (And.intro hne (And.intro hwe hse)))
  clear hxe hne hwe hse
  have hf1 : by_ ≤ max n 0 := by omega
  have hf2 : by_ ≤ max cn 0 := by omega
  have hf3 : ¬ min (max n 0) (max cn 0) < by_ := by omega
  have hf4 : by_ ≤ 2147483647 := by omega
  generalize min (max n 0) (max cn 0) = f at *
  have HS := Lib.hid (fun (V : World) (hV : Win V ww n) => spend_yes ww n by_ V hV hb1 hb2 hk hf1)
  have HS2 := Lib.hid (fun (V : World) (hV : Win V cw cn) => spend_yes cw cn by_ V hV hcn.1 hcn.2 hk hf2)
  have HFM := Lib.hid (And.intro hf1 hf2)
  clear hf1 hf2
  go_enter Try.func13, Try.ntmps13
  go_wp2_with fail
  refine HL.out.mono ?_
  rintro e w1 ⟨⟨gb, hA, rfl⟩, b⟩
  have HB := Lib.hid b
  have HA := Lib.hid hA
  clear b hA
  go_wp2_with fail
  refine (HF.out w1 HB.out).mono ?_
  rintro e w2 ⟨rfl, b⟩
  have HB2 := Lib.hid (HB.out.trans (b.mono HB.out.size))
  clear b
  have K2 := Lib.hid (HK.out.below HB2.out)
  obtain ⟨gb', hA', hgb, c0, c1, c2⟩ := K2.out.cells i hi
  rw [HE.out.2.2.1] at c1
  rw [HE.out.2.2.2] at c2
  rw [HA.out] at hA'
  injection hA' with hA'
  injection hA' with hA'
  subst hA'
  have hw2 := (K2.out.wins l[i] (List.getElem_mem _)).1
  rw [HE.out.2.2.1, HE.out.2.1] at hw2
  have HW2 := Lib.hid hw2
  clear hw2 c0
  go_wp2_with fail
  refine (HS.out w2 HW2.out).mono ?_
  rintro e w3 ⟨rfl, hw3, o3⟩
  have k3 := K2.out.win_set hi (n := n - by_) (by rw [HE.out.2.2.1]; exact hw3) (by rw [HE.out.2.2.1]; exact o3) (by have := HFM.out; omega) (by omega)
  rw [HE.out.2.2.2] at k3
  have s3 : Still w w3 := (Still.of_below HB2.out).trans (Still.of_only o3 (fun z hz _ => by simp at hz; subst hz; exact ⟨_, _, _, HW2.out, .inr (.inr rfl)⟩))
  have b3 : Below base w w3 := (HB2.out.mono hws).trans (o3.below (Nat.le_trans hws HB2.out.size) (by simpa using hwb))
  have K3 := Lib.hid (And.intro k3 (And.intro b3 s3))
  have ce0 := Blk.cell k3.blk 0
  simp at ce0
  clear hw3 o3 k3 s3 b3 c1 c2
  go_wp2_with fail
  refine (HS2.out w3 K3.out.1.con).mono ?_
  rintro e w4 ⟨rfl, hw4, o4⟩
  have k4 := K3.out.1.con_set hw4 o4 (by have := HFM.out; omega) (by omega)
  have s4 : Still w w4 := K3.out.2.2.trans (Still.of_only o4 (fun z hz _ => by simp at hz; subst hz; exact ⟨_, _, _, K3.out.1.con, .inr (.inr rfl)⟩))
  have b4 : Below base w w4 := K3.out.2.1.trans (o4.below (Nat.le_trans hws K3.out.2.1.size) (by simpa using hbas.2))
  have hi4 : i < (chg l i (n - by_) ss).length := by rw [chg_length]; exact hi
  have he4 : (chg l i (n - by_) ss)[i] = ⟨x, ww, n - by_, ss⟩ := by rw [chg_self hi, HE.out.1, HE.out.2.2.1]
  obtain ⟨gb', hA', hgb4, _, _, c2⟩ := k4.cells i hi4
  rw [he4] at c2
  rw [HA.out] at hA'
  injection hA' with hA'
  injection hA' with hA'
  subst hA'
  obtain ⟨cur, hrow⟩ := k4.row HA.out
  have hrb : Blk w4 gb 60 cur := hrow
  have fr := Blk.frozen hrb (i * 3 + 2)
  have k5 := k4.sp_set hi4 HA.out (s := ss + by_) (M' := M + 2147483647) (by omega) (by omega) (by omega) hM
  rw [he4, chg_chg] at k5
  have s5 : Still w (w4.setCell ⟨gb, i * 3 + 2, none⟩ (.int .i64 (ss + by_))) := s4.setCell hrb (.inr (.inl rfl))
  have hgbb : base ≤ gb := by
    rcases k4.own.2 with ⟨hh, _⟩ | ⟨gb', c, cur, hh, hge, _⟩
    · rw [HA.out] at hh; cases hh
    · rw [HA.out] at hh
      injection hh with hh
      injection hh with hh
      injection hh with hh
      subst hh
      exact hge
  have b5 : Below base w (w4.setCell ⟨gb, i * 3 + 2, none⟩ (.int .i64 (ss + by_))) := b4.setCell hgbb _
  have K5 := Lib.hid (And.intro k5 (And.intro b5 s5))
  have cg5 := Blk.cell k5.blk 1
  have fg5 := Blk.frozen k5.blk 1
  simp at cg5
  have k6 := k5.spent_set (s := sp + by_) (M' := M + 2147483647) (by omega) (by omega) (Int.le_refl _) hM
  have s6 := s5.setCell (o := 1) (u := .int .i64 (sp + by_)) k5.blk (.inl rfl)
  have b6 := b5.setCell (p := ⟨g, 1, none⟩) hbas.1 (.int .i64 (sp + by_))
  have K6 := Lib.hid (And.intro k6 (And.intro b6 s6))
  clear hw4 o4 k4 s4 b4 k5 s5 b5 hrow hrb he4 k6 s6 b6 ce0 HFM hbas
  go_wp2_with fail
  go_ret
  exact ⟨rfl, K6.out⟩
theorem grow_conn (b : Int) : Calls Try.prog 10 #[.pointer (some ⟨g, 0, none⟩), .int .i64 0, .int .i64 b] w fun e w' => e = .returned (.int .i64 (growC cn b).2) ∧ Led base w' g cw (growC cn b).1 sp A cap l M ∧ Below base w w' ∧ Still w w' := by
  have HS := Lib.hid (wgrow_any cw cn b w k.con k.cnb.1 k.cnb.2)
  have c0 := Blk.cell k.blk 0
  simp at c0
  have HF : Hid (∀ (w2 : World), Win w2 cw (growC cn b).1 → Only [cw] w w2 → Led base w2 g cw (growC cn b).1 sp A cap l M ∧ Below base w w2 ∧ Still w w2) := fun w2 hw o => by
    have hws : base ≤ w.heap.size := Nat.le_trans k.bas.1 (Nat.le_of_lt k.lt)
    exact ⟨k.con_set hw o (growC_bds k.cnb.1 k.cnb.2).1 (growC_bds k.cnb.1 k.cnb.2).2, o.below hws (by simpa using k.bas.2), Still.of_only o (fun z hz _ => by simp at hz; subst hz; exact ⟨_, _, _, k.con, .inr (.inr rfl)⟩)⟩
  clear k
  generalize hr : growC cn b = r at *
  clear hr
  obtain ⟨rn, rc⟩ := r
  simp only at *
  go_enter Try.func10, Try.ntmps10
  go_wp2_with fail
  refine HS.out.mono ?_
  rintro e w1 ⟨rfl, hw, o⟩
  have HR := Lib.hid (HF.out w1 hw o)
  clear hw o
  go_wp2_with fail
  go_ret
  exact ⟨rfl, HR.out⟩
theorem grow_no (b : Int) (hx0 : x ≠ 0) (hn : ∀ (j : Nat) (hj : j < l.length), l[j].id ≠ x) : Calls Try.prog 10 #[.pointer (some ⟨g, 0, none⟩), .int .i64 x, .int .i64 b] w fun e w' => e = .returned (.int .i64 7) ∧ Below w.heap.size w w' := by
  have HL := Lib.hid (line_no base g cw cap cn sp M x A l w k hn)
  have hne : (x == 0) = false := by rw [beq_eq_false_iff_ne]; exact hx0
  clear k hn
  go_enter Try.func10, Try.ntmps10
  go_wp2_with fail
  refine HL.out.mono ?_
  rintro e w1 ⟨rfl, b⟩
  have HB := Lib.hid b
  clear b
  go_wp2_with fail
  go_ret
  exact ⟨rfl, HB.out⟩
theorem grow_at (b : Int) (i : Nat) (hi : i < l.length) : Calls Try.prog 10 #[.pointer (some ⟨g, 0, none⟩), .int .i64 l[i].id, .int .i64 b] w fun e w' => e = .returned (.int .i64 (growC l[i].n b).2) ∧ Led base w' g cw cn sp A cap (chg l i (growC l[i].n b).1 l[i].sp) M ∧ Below base w w' ∧ Still w w' := by
  have HL := Lib.hid (line_at base g cw cap cn sp M A l w k i hi)
  have hb := (k.bds l[i] (List.getElem_mem _)).2.2.2.2.1
  have hnb := Lib.hid (And.intro (k.bds l[i] (List.getElem_mem _)).1 (k.bds l[i] (List.getElem_mem _)).2.1)
  have hne : (l[i].id == 0) = false := by rw [beq_eq_false_iff_ne]; omega
  have HK := Lib.hid k
  have HS := Lib.hid (fun (V : World) (hV : Win V l[i].w l[i].n) => wgrow_any l[i].w l[i].n b V hV hnb.out.1 hnb.out.2)
  have HC := Lib.hid (fun (w1 : World) (b : Below w.heap.size w w1) => (k.below b).cells i hi)
  have HW := Lib.hid (fun (w1 : World) (b : Below w.heap.size w w1) => ((k.below b).wins l[i] (List.getElem_mem _)).1)
  have HF : Hid (∀ (w1 w2 : World), Below w.heap.size w w1 → Win w2 l[i].w (growC l[i].n b).1 → Only [l[i].w] w1 w2 → Led base w2 g cw cn sp A cap (chg l i (growC l[i].n b).1 l[i].sp) M ∧ Below base w w2 ∧ Still w w2) := fun w1 w2 b1 hw o => by
    have hws : base ≤ w.heap.size := Nat.le_trans HK.out.bas.1 (Nat.le_of_lt HK.out.lt)
    have hw1 := (HK.out.below b1).wins l[i] (List.getElem_mem _)
    exact ⟨(HK.out.below b1).win_set hi hw o (growC_bds hnb.out.1 hnb.out.2).1 (growC_bds hnb.out.1 hnb.out.2).2, (b1.mono hws).trans (o.below (Nat.le_trans hws b1.size) (by simpa using hw1.2.1)), (Still.of_below b1).trans (Still.of_only o (fun z hz _ => by simp at hz; subst hz; exact ⟨_, _, _, hw1.1, .inr (.inr rfl)⟩))⟩
  clear k hb
  generalize hr : growC l[i].n b = r at *
  clear hr hnb
  generalize hl : chg l i r.1 l[i].sp = l2 at *
  clear hl
  generalize l[i].id = x at *
  generalize l[i].n = n at *
  generalize l[i].w = ww at *
  generalize l[i].sp = ss at *
  obtain ⟨rn, rc⟩ := r
  simp only at *
  go_enter Try.func10, Try.ntmps10
  go_wp2_with fail
  refine HL.out.mono ?_
  rintro e w1 ⟨⟨gb, hA, rfl⟩, b⟩
  obtain ⟨gb', hA', _, c0, c1, c2⟩ := HC.out w1 b
  rw [hA] at hA'
  injection hA' with hA'
  injection hA' with hA'
  subst hA'
  have HB := Lib.hid b
  clear b hA
  go_wp2_with fail
  refine (HS.out _ (HW.out _ HB.out)).mono ?_
  rintro e w2 ⟨rfl, hw, o⟩
  have HR := Lib.hid (HF.out w1 w2 HB.out hw o)
  clear hw o
  go_wp2_with fail
  go_ret
  exact ⟨rfl, HR.out⟩
end
theorem grow_none (x b : Int) (w : World) : Calls Try.prog 10 #[.pointer none, .int .i64 x, .int .i64 b] w fun e w' => e = .returned (.int .i64 1) ∧ w = w' := by
  go_enter Try.func10, Try.ntmps10
  go_wp2_with fail
  refine (line_nil x w).mono ?_
  rintro e w1 ⟨rfl, rfl⟩
  go_wp2_with fail
  go_ret
  exact ⟨rfl, rfl⟩
theorem spend_none (x b : Int) (w : World) : Calls Try.prog 13 #[.pointer none, .int .i64 x, .int .i64 b] w fun e w' => e = .returned (.int .i64 1) ∧ w = w' := by
  go_enter Try.func13, Try.ntmps13
  go_wp2_with fail
  refine (line_nil x w).mono ?_
  rintro e w1 ⟨rfl, rfl⟩
  go_wp2_with fail
  go_ret
  exact ⟨rfl, rfl⟩
theorem free_none (x : Int) (w : World) : Calls Try.prog 19 #[.pointer none, .int .i64 x] w fun e w' => e = .returned (.int .i64 0) ∧ w = w' := by
  go_enter Try.func19, Try.ntmps19
  go_wp2_with fail
  refine (line_nil x w).mono ?_
  rintro e w1 ⟨rfl, rfl⟩
  go_wp2_with fail
  go_ret
  exact ⟨rfl, rfl⟩
end Go.Proofs.Ytpbahmnlhckgbaa
