/- The walks of the stable sort: ranges sorted, merging whole. -/
import Derived.Test.YteokepnkgdhkkaaRows
import Derived.WalkKit
import Derived.ProofKit
import Derived.Handy
import Derived.Deep.QuietTactic
import Derived.BigQuiet
import Derived.Deep.RegionWith
import Derived.Deep.RegionHeld3
import Derived.Deep.AppendLies
import Derived.WalkLawsBesides
import Derived.WalkSmall
import Derived.Deep.Cut
import Derived.Test.YteokepnkgdhkkaaSta6
namespace Go.Proofs.Yteokepnkgdhkkaa
open Go.RowKit Go.Sort Go.Shelf
set_option linter.unusedVariables false
theorem symM_all : ∀ N, MergeUp N := by
  intro N
  induction N with
  | zero => intro base w g n c d a m b hN h hb hn ham hmb hbn h1 h2; omega
  | succ N ih =>
    intro base w g n c d a m b hN h hb hn ham hmb hbn h1 h2
    by_cases c1 : m = a + 1
    · subst c1
      exact symM_one base w g n c d a b h hb hn hmb hbn h2
    · by_cases c2 : b = m + 1
      · subst c2
        exact symM_last base w g n c d a m h hb hn (by omega) hbn h1
      · rcases Nat.lt_or_ge ((a + b) / 2) m with hw | hw
        · exact symM_midA N ih base w g n c d a m b hN h hb hn hw (by omega) (by omega) hbn h1 h2
        · exact symM_midB N ih base w g n c d a m b hN h hb hn hw (by omega) (by omega) hbn h1 h2
theorem so_upto {α : Type} {lt : α → α → Bool} {f : Nat → α} {a b n : Nat} (e : b = n) (h : So lt f a b) : So lt f a n := by rw [← e]; exact h
/-- A part sorted: the row, behind it. -/
def PartE (base : Nat) (w0 : World) (g n c : Nat) (d : Array Sm) (p q : Nat) (e : Ending) (w' : World) : Prop :=
  e = .returned (.tuple #[]) ∧ ∃ d' : Array Sm, PermIn p q d d' ∧ So (ltOf cfT) (at' d') p q ∧ RowIs base w0 w' g n c d'
theorem merge_range (base : Nat) (w0 w : World) (g n c : Nat) (d : Array Sm) (a m b : Nat) (A M B : Int) (hA : A = a) (hM : M = m) (hB : B = b) (h : RowIs base w0 w g n c d) (hb : base ≤ w.heap.size) (hn : n ≤ 100000) (ham : a < m) (hmb : m < b) (hbn : b ≤ n) (h1 : So (ltOf cfT) (at' d) a m) (h2 : So (ltOf cfT) (at' d) m b) :
    Calls Try.prog 37 #[.slice (some ⟨g, 0, none⟩) n c, .int .i64 A, .int .i64 M, .int .i64 B, .func (.func 25) #[] #[]] w (PartE base w0 g n c d a b) := by
  subst hA hM hB
  refine (symM_all (b - a) base w g n c d a m b (Nat.le_refl _) ⟨h.1, h.2.1, Below.refl _ _⟩ hb hn ham hmb hbn h1 h2).mono ?_
  rintro e w' ⟨he, d', p, s, r⟩
  exact ⟨he, d', p, s, r.1, r.2.1, h.2.2.trans r.2.2⟩
theorem ins_range (base : Nat) (w0 w : World) (g n c : Nat) (d : Array Sm) (p q : Nat) (P Q : Int) (hP : P = p) (hQ : Q = q) (h : RowIs base w0 w g n c d) (hb : base ≤ w.heap.size) (hn : n ≤ 100000) (hn0 : 0 < n) (hpq : p ≤ q) (hqn : q ≤ n) :
    Calls Try.prog 36 #[.slice (some ⟨g, 0, none⟩) n c, .int .i64 P, .int .i64 Q, .func (.func 25) #[] #[]] w (PartE base w0 g n c d p q) := by
  subst hP hQ
  obtain ⟨hd, ho, hbel⟩ := h
  obtain ⟨blk, cap, hA, hbb, hlt⟩ := ho.form hn0
  injection hA with hA _ hc
  injection hA with hA
  injection hA with hA
  subst hA
  have hm : d.toList.length = n := by simpa using hd
  have hcon := AnyQ.insertionSortCmpFunc (P := Try.prog) (ρ := insS_ren) insS 8 agg33 size33 sv (fun _ => rfl) sv_one cfT 25 #[] g 0 c p q d.toList.toArray w egT (cmpT w g _) (holdsK_of_own ho hm) hlt hpq (by simp; omega) (by simp; omega)
  have es : d.toList.toArray.size = n := by simp [hd]
  rw [es, Array.toArray_toList] at hcon
  change Calls Try.prog 36 _ _ _ at hcon
  refine hcon.mono ?_
  rintro e w' ⟨he, k, os, hw⟩
  obtain ⟨hp, hs⟩ := insertionSort_holds swoT d p q hpq (by rw [hd]; exact hqn)
  generalize insertionSort (ltOf cfT) d p q = d' at *
  have hsz : d'.size = n := hp.1.trans hd
  have hrow := own_of_sort ho (t := d'.toList) (by simpa using hsz) k os hb
  rw [Array.toArray_toList, ← hw] at hrow
  exact ⟨he, d', hp, hs, hsz, hrow.1, hbel.trans hrow.2⟩
set_option maxRecDepth 20000 in
set_option maxHeartbeats 8000000 in
theorem stable_A (base : Nat) (w : World) (g n c : Nat) (d : Array Sm) (h : RowIs base w w g n c d) (hb : base ≤ w.heap.size) (hn1 : 20 ≤ n) (hn2 : n ≤ 20) :
    Calls Try.prog 32 #[.slice (some ⟨g, 0, none⟩) n c, .int .i64 n, .func (.func 25) #[] #[]] w (PartE base w g n c d 0 n) := by
  have H0 := Lib.hid (And.intro (permIn_refl d 0 n) (And.intro trivial h))
  have z1 : 20 ≤ (n : Int) := by omega
  have z2 : (n : Int) ≤ 20 := by omega
  clear h
  go_enter Try.func32, Try.ntmps32
  go_wp2_with fail
  refine wp_loop_rounds 2 ?_
  rw [rounds_succ]
  go_wp2_with fail
  refine (ins_range base w w g n c d 0 20 0 20 rfl rfl H0.out.2.2 hb (by omega) (by omega) (by omega) (by omega)).mono ?_
  rintro e w1 ⟨rfl, d1, p1, s1, r1⟩
  have H1 := Lib.hid (And.intro p1 (And.intro s1 r1))
  clear p1 s1 r1
  go_wp2_with fail
  rw [rounds_succ]
  go_wp2_with fail
  refine (ins_range base w w1 g n c d1 20 n 20 (n : Int) rfl rfl H1.out.2.2 (Nat.le_trans hb H1.out.2.2.2.2.size) (by omega) (by omega) (by omega) (by omega)).mono ?_
  rintro e w2 ⟨rfl, d2, p2, s2, r2⟩
  have H2 := Lib.hid (And.intro p2 (And.intro s2 r2))
  clear p2 s2 r2
  go_wp2_with fail
  refine wp_loop_rounds 1 ?_
  rw [rounds_succ]
  go_wp2_with fail
  go_end0
  exact ⟨rfl, d2, (permIn_trans _ _ _ 0 n (permIn_mono _ _ _ _ 0 n (by omega) (by omega) (by have := H0.out.2.2.1; omega) H1.out.1) (permIn_mono _ _ _ _ 0 n (by omega) (by omega) (by have := H1.out.2.2.1; omega) H2.out.1)), (so_upto (by omega) (so_same H2.out.1 (by omega) H1.out.2.1)), H2.out.2.2⟩
set_option maxRecDepth 20000 in
set_option maxHeartbeats 8000000 in
theorem stable_B (base : Nat) (w : World) (g n c : Nat) (d : Array Sm) (h : RowIs base w w g n c d) (hb : base ≤ w.heap.size) (hn1 : 20 < n) (hn2 : n < 40) :
    Calls Try.prog 32 #[.slice (some ⟨g, 0, none⟩) n c, .int .i64 n, .func (.func 25) #[] #[]] w (PartE base w g n c d 0 n) := by
  have H0 := Lib.hid (And.intro (permIn_refl d 0 n) (And.intro trivial h))
  have z1 : 20 < (n : Int) := by omega
  have z2 : (n : Int) < 40 := by omega
  clear h
  go_enter Try.func32, Try.ntmps32
  go_wp2_with fail
  refine wp_loop_rounds 2 ?_
  rw [rounds_succ]
  go_wp2_with fail
  refine (ins_range base w w g n c d 0 20 0 20 rfl rfl H0.out.2.2 hb (by omega) (by omega) (by omega) (by omega)).mono ?_
  rintro e w1 ⟨rfl, d1, p1, s1, r1⟩
  have H1 := Lib.hid (And.intro p1 (And.intro s1 r1))
  clear p1 s1 r1
  go_wp2_with fail
  rw [rounds_succ]
  go_wp2_with fail
  refine (ins_range base w w1 g n c d1 20 n 20 (n : Int) rfl rfl H1.out.2.2 (Nat.le_trans hb H1.out.2.2.2.2.size) (by omega) (by omega) (by omega) (by omega)).mono ?_
  rintro e w2 ⟨rfl, d2, p2, s2, r2⟩
  have H2 := Lib.hid (And.intro p2 (And.intro s2 r2))
  clear p2 s2 r2
  go_wp2_with fail
  refine wp_loop_rounds 2 ?_
  rw [rounds_succ]
  go_wp2_with fail
  refine wp_loop_rounds 1 ?_
  rw [rounds_succ]
  go_wp2_with fail
  refine (merge_range base w w2 g n c d2 0 20 n 0 20 (n : Int) rfl rfl rfl H2.out.2.2 (Nat.le_trans hb H2.out.2.2.2.2.size) (by omega) (by omega) (by omega) (by omega) (so_same H2.out.1 (by omega) H1.out.2.1) H2.out.2.1).mono ?_
  rintro e w3 ⟨rfl, d3, p3, s3, r3⟩
  have H3 := Lib.hid (And.intro p3 (And.intro s3 r3))
  clear p3 s3 r3
  go_wp2_with fail
  rw [rounds_succ]
  go_wp2_with fail
  go_end0
  exact ⟨rfl, d3, (permIn_trans _ _ _ 0 n (permIn_trans _ _ _ 0 n (permIn_mono _ _ _ _ 0 n (by omega) (by omega) (by have := H0.out.2.2.1; omega) H1.out.1) (permIn_mono _ _ _ _ 0 n (by omega) (by omega) (by have := H1.out.2.2.1; omega) H2.out.1)) (permIn_mono _ _ _ _ 0 n (by omega) (by omega) (by have := H2.out.2.2.1; omega) H3.out.1)), H3.out.2.1, H3.out.2.2⟩
set_option maxRecDepth 20000 in
set_option maxHeartbeats 8000000 in
theorem stable_C (base : Nat) (w : World) (g n c : Nat) (d : Array Sm) (h : RowIs base w w g n c d) (hb : base ≤ w.heap.size) (hn1 : 40 ≤ n) (hn2 : n ≤ 40) :
    Calls Try.prog 32 #[.slice (some ⟨g, 0, none⟩) n c, .int .i64 n, .func (.func 25) #[] #[]] w (PartE base w g n c d 0 n) := by
  have H0 := Lib.hid (And.intro (permIn_refl d 0 n) (And.intro trivial h))
  have z1 : 40 ≤ (n : Int) := by omega
  have z2 : (n : Int) ≤ 40 := by omega
  clear h
  go_enter Try.func32, Try.ntmps32
  go_wp2_with fail
  refine wp_loop_rounds 3 ?_
  rw [rounds_succ]
  go_wp2_with fail
  refine (ins_range base w w g n c d 0 20 0 20 rfl rfl H0.out.2.2 hb (by omega) (by omega) (by omega) (by omega)).mono ?_
  rintro e w1 ⟨rfl, d1, p1, s1, r1⟩
  have H1 := Lib.hid (And.intro p1 (And.intro s1 r1))
  clear p1 s1 r1
  go_wp2_with fail
  rw [rounds_succ]
  go_wp2_with fail
  refine (ins_range base w w1 g n c d1 20 40 20 40 rfl rfl H1.out.2.2 (Nat.le_trans hb H1.out.2.2.2.2.size) (by omega) (by omega) (by omega) (by omega)).mono ?_
  rintro e w2 ⟨rfl, d2, p2, s2, r2⟩
  have H2 := Lib.hid (And.intro p2 (And.intro s2 r2))
  clear p2 s2 r2
  go_wp2_with fail
  rw [rounds_succ]
  go_wp2_with fail
  refine (ins_range base w w2 g n c d2 40 n 40 (n : Int) rfl rfl H2.out.2.2 (Nat.le_trans hb H2.out.2.2.2.2.size) (by omega) (by omega) (by omega) (by omega)).mono ?_
  rintro e w3 ⟨rfl, d3, p3, s3, r3⟩
  have H3 := Lib.hid (And.intro p3 (And.intro s3 r3))
  clear p3 s3 r3
  go_wp2_with fail
  refine wp_loop_rounds 2 ?_
  rw [rounds_succ]
  go_wp2_with fail
  refine wp_loop_rounds 2 ?_
  rw [rounds_succ]
  go_wp2_with fail
  refine (merge_range base w w3 g n c d3 0 20 40 0 20 40 rfl rfl rfl H3.out.2.2 (Nat.le_trans hb H3.out.2.2.2.2.size) (by omega) (by omega) (by omega) (by omega) (so_same H3.out.1 (by omega) (so_same H2.out.1 (by omega) H1.out.2.1)) (so_same H3.out.1 (by omega) H2.out.2.1)).mono ?_
  rintro e w4 ⟨rfl, d4, p4, s4, r4⟩
  have H4 := Lib.hid (And.intro p4 (And.intro s4 r4))
  clear p4 s4 r4
  go_wp2_with fail
  rw [rounds_succ]
  go_wp2_with fail
  rw [rounds_succ]
  go_wp2_with fail
  go_end0
  exact ⟨rfl, d4, (permIn_trans _ _ _ 0 n (permIn_trans _ _ _ 0 n (permIn_trans _ _ _ 0 n (permIn_mono _ _ _ _ 0 n (by omega) (by omega) (by have := H0.out.2.2.1; omega) H1.out.1) (permIn_mono _ _ _ _ 0 n (by omega) (by omega) (by have := H1.out.2.2.1; omega) H2.out.1)) (permIn_mono _ _ _ _ 0 n (by omega) (by omega) (by have := H2.out.2.2.1; omega) H3.out.1)) (permIn_mono _ _ _ _ 0 n (by omega) (by omega) (by have := H3.out.2.2.1; omega) H4.out.1)), (so_upto (by omega) H4.out.2.1), H4.out.2.2⟩
set_option maxRecDepth 20000 in
set_option maxHeartbeats 8000000 in
theorem stable_D (base : Nat) (w : World) (g n c : Nat) (d : Array Sm) (h : RowIs base w w g n c d) (hb : base ≤ w.heap.size) (hn1 : 40 < n) (hn2 : n < 60) :
    Calls Try.prog 32 #[.slice (some ⟨g, 0, none⟩) n c, .int .i64 n, .func (.func 25) #[] #[]] w (PartE base w g n c d 0 n) := by
  have H0 := Lib.hid (And.intro (permIn_refl d 0 n) (And.intro trivial h))
  have z1 : 40 < (n : Int) := by omega
  have z2 : (n : Int) < 60 := by omega
  clear h
  go_enter Try.func32, Try.ntmps32
  go_wp2_with fail
  refine wp_loop_rounds 3 ?_
  rw [rounds_succ]
  go_wp2_with fail
  refine (ins_range base w w g n c d 0 20 0 20 rfl rfl H0.out.2.2 hb (by omega) (by omega) (by omega) (by omega)).mono ?_
  rintro e w1 ⟨rfl, d1, p1, s1, r1⟩
  have H1 := Lib.hid (And.intro p1 (And.intro s1 r1))
  clear p1 s1 r1
  go_wp2_with fail
  rw [rounds_succ]
  go_wp2_with fail
  refine (ins_range base w w1 g n c d1 20 40 20 40 rfl rfl H1.out.2.2 (Nat.le_trans hb H1.out.2.2.2.2.size) (by omega) (by omega) (by omega) (by omega)).mono ?_
  rintro e w2 ⟨rfl, d2, p2, s2, r2⟩
  have H2 := Lib.hid (And.intro p2 (And.intro s2 r2))
  clear p2 s2 r2
  go_wp2_with fail
  rw [rounds_succ]
  go_wp2_with fail
  refine (ins_range base w w2 g n c d2 40 n 40 (n : Int) rfl rfl H2.out.2.2 (Nat.le_trans hb H2.out.2.2.2.2.size) (by omega) (by omega) (by omega) (by omega)).mono ?_
  rintro e w3 ⟨rfl, d3, p3, s3, r3⟩
  have H3 := Lib.hid (And.intro p3 (And.intro s3 r3))
  clear p3 s3 r3
  go_wp2_with fail
  refine wp_loop_rounds 3 ?_
  rw [rounds_succ]
  go_wp2_with fail
  refine wp_loop_rounds 2 ?_
  rw [rounds_succ]
  go_wp2_with fail
  refine (merge_range base w w3 g n c d3 0 20 40 0 20 40 rfl rfl rfl H3.out.2.2 (Nat.le_trans hb H3.out.2.2.2.2.size) (by omega) (by omega) (by omega) (by omega) (so_same H3.out.1 (by omega) (so_same H2.out.1 (by omega) H1.out.2.1)) (so_same H3.out.1 (by omega) H2.out.2.1)).mono ?_
  rintro e w4 ⟨rfl, d4, p4, s4, r4⟩
  have H4 := Lib.hid (And.intro p4 (And.intro s4 r4))
  clear p4 s4 r4
  go_wp2_with fail
  rw [rounds_succ]
  go_wp2_with fail
  rw [rounds_succ]
  go_wp2_with fail
  refine wp_loop_rounds 1 ?_
  rw [rounds_succ]
  go_wp2_with fail
  refine (merge_range base w w4 g n c d4 0 40 n 0 40 (n : Int) rfl rfl rfl H4.out.2.2 (Nat.le_trans hb H4.out.2.2.2.2.size) (by omega) (by omega) (by omega) (by omega) H4.out.2.1 (so_same H4.out.1 (by omega) H3.out.2.1)).mono ?_
  rintro e w5 ⟨rfl, d5, p5, s5, r5⟩
  have H5 := Lib.hid (And.intro p5 (And.intro s5 r5))
  clear p5 s5 r5
  go_wp2_with fail
  rw [rounds_succ]
  go_wp2_with fail
  go_end0
  exact ⟨rfl, d5, (permIn_trans _ _ _ 0 n (permIn_trans _ _ _ 0 n (permIn_trans _ _ _ 0 n (permIn_trans _ _ _ 0 n (permIn_mono _ _ _ _ 0 n (by omega) (by omega) (by have := H0.out.2.2.1; omega) H1.out.1) (permIn_mono _ _ _ _ 0 n (by omega) (by omega) (by have := H1.out.2.2.1; omega) H2.out.1)) (permIn_mono _ _ _ _ 0 n (by omega) (by omega) (by have := H2.out.2.2.1; omega) H3.out.1)) (permIn_mono _ _ _ _ 0 n (by omega) (by omega) (by have := H3.out.2.2.1; omega) H4.out.1)) (permIn_mono _ _ _ _ 0 n (by omega) (by omega) (by have := H4.out.2.2.1; omega) H5.out.1)), H5.out.2.1, H5.out.2.2⟩
set_option maxRecDepth 20000 in
set_option maxHeartbeats 8000000 in
theorem stable_E (base : Nat) (w : World) (g n c : Nat) (d : Array Sm) (h : RowIs base w w g n c d) (hb : base ≤ w.heap.size) (hn1 : 60 ≤ n) (hn2 : n ≤ 60) :
    Calls Try.prog 32 #[.slice (some ⟨g, 0, none⟩) n c, .int .i64 n, .func (.func 25) #[] #[]] w (PartE base w g n c d 0 n) := by
  have H0 := Lib.hid (And.intro (permIn_refl d 0 n) (And.intro trivial h))
  have z1 : 60 ≤ (n : Int) := by omega
  have z2 : (n : Int) ≤ 60 := by omega
  clear h
  go_enter Try.func32, Try.ntmps32
  go_wp2_with fail
  refine wp_loop_rounds 4 ?_
  rw [rounds_succ]
  go_wp2_with fail
  refine (ins_range base w w g n c d 0 20 0 20 rfl rfl H0.out.2.2 hb (by omega) (by omega) (by omega) (by omega)).mono ?_
  rintro e w1 ⟨rfl, d1, p1, s1, r1⟩
  have H1 := Lib.hid (And.intro p1 (And.intro s1 r1))
  clear p1 s1 r1
  go_wp2_with fail
  rw [rounds_succ]
  go_wp2_with fail
  refine (ins_range base w w1 g n c d1 20 40 20 40 rfl rfl H1.out.2.2 (Nat.le_trans hb H1.out.2.2.2.2.size) (by omega) (by omega) (by omega) (by omega)).mono ?_
  rintro e w2 ⟨rfl, d2, p2, s2, r2⟩
  have H2 := Lib.hid (And.intro p2 (And.intro s2 r2))
  clear p2 s2 r2
  go_wp2_with fail
  rw [rounds_succ]
  go_wp2_with fail
  refine (ins_range base w w2 g n c d2 40 60 40 60 rfl rfl H2.out.2.2 (Nat.le_trans hb H2.out.2.2.2.2.size) (by omega) (by omega) (by omega) (by omega)).mono ?_
  rintro e w3 ⟨rfl, d3, p3, s3, r3⟩
  have H3 := Lib.hid (And.intro p3 (And.intro s3 r3))
  clear p3 s3 r3
  go_wp2_with fail
  rw [rounds_succ]
  go_wp2_with fail
  refine (ins_range base w w3 g n c d3 60 n 60 (n : Int) rfl rfl H3.out.2.2 (Nat.le_trans hb H3.out.2.2.2.2.size) (by omega) (by omega) (by omega) (by omega)).mono ?_
  rintro e w4 ⟨rfl, d4, p4, s4, r4⟩
  have H4 := Lib.hid (And.intro p4 (And.intro s4 r4))
  clear p4 s4 r4
  go_wp2_with fail
  refine wp_loop_rounds 3 ?_
  rw [rounds_succ]
  go_wp2_with fail
  refine wp_loop_rounds 2 ?_
  rw [rounds_succ]
  go_wp2_with fail
  refine (merge_range base w w4 g n c d4 0 20 40 0 20 40 rfl rfl rfl H4.out.2.2 (Nat.le_trans hb H4.out.2.2.2.2.size) (by omega) (by omega) (by omega) (by omega) (so_same H4.out.1 (by omega) (so_same H3.out.1 (by omega) (so_same H2.out.1 (by omega) H1.out.2.1))) (so_same H4.out.1 (by omega) (so_same H3.out.1 (by omega) H2.out.2.1))).mono ?_
  rintro e w5 ⟨rfl, d5, p5, s5, r5⟩
  have H5 := Lib.hid (And.intro p5 (And.intro s5 r5))
  clear p5 s5 r5
  go_wp2_with fail
  rw [rounds_succ]
  go_wp2_with fail
  rw [rounds_succ]
  go_wp2_with fail
  refine wp_loop_rounds 1 ?_
  rw [rounds_succ]
  go_wp2_with fail
  refine (merge_range base w w5 g n c d5 0 40 n 0 40 (n : Int) rfl rfl rfl H5.out.2.2 (Nat.le_trans hb H5.out.2.2.2.2.size) (by omega) (by omega) (by omega) (by omega) H5.out.2.1 (so_same H5.out.1 (by omega) (so_same H4.out.1 (by omega) (so_upto (by omega) H3.out.2.1)))).mono ?_
  rintro e w6 ⟨rfl, d6, p6, s6, r6⟩
  have H6 := Lib.hid (And.intro p6 (And.intro s6 r6))
  clear p6 s6 r6
  go_wp2_with fail
  rw [rounds_succ]
  go_wp2_with fail
  go_end0
  exact ⟨rfl, d6, (permIn_trans _ _ _ 0 n (permIn_trans _ _ _ 0 n (permIn_trans _ _ _ 0 n (permIn_trans _ _ _ 0 n (permIn_trans _ _ _ 0 n (permIn_mono _ _ _ _ 0 n (by omega) (by omega) (by have := H0.out.2.2.1; omega) H1.out.1) (permIn_mono _ _ _ _ 0 n (by omega) (by omega) (by have := H1.out.2.2.1; omega) H2.out.1)) (permIn_mono _ _ _ _ 0 n (by omega) (by omega) (by have := H2.out.2.2.1; omega) H3.out.1)) (permIn_mono _ _ _ _ 0 n (by omega) (by omega) (by have := H3.out.2.2.1; omega) H4.out.1)) (permIn_mono _ _ _ _ 0 n (by omega) (by omega) (by have := H4.out.2.2.1; omega) H5.out.1)) (permIn_mono _ _ _ _ 0 n (by omega) (by omega) (by have := H5.out.2.2.1; omega) H6.out.1)), H6.out.2.1, H6.out.2.2⟩
theorem stable_up (n : Nat) (h1 : 20 ≤ n) (h2 : n ≤ 60) : StableFor n := by
  intro base w A c a ho ha hbase
  obtain ⟨g, cap, hA, hb, hlt⟩ := ho.form (by omega)
  injection hA with hA h00 hc
  subst hA
  clear hc h00
  have hr : RowIs base w w g n c a.toArray := ⟨by simpa using ha, ho, Below.refl _ _⟩
  have HC : Hid (Calls Try.prog 32 #[.slice (some ⟨g, 0, none⟩) n c, .int .i64 n, .func (.func 25) #[] #[]] w (PartE base w g n c a.toArray 0 n)) := by
    show Calls Try.prog 32 #[.slice (some ⟨g, 0, none⟩) n c, .int .i64 n, .func (.func 25) #[] #[]] w (PartE base w g n c a.toArray 0 n)
    by_cases c1 : n ≤ 20
    · exact stable_A base w g n c _ hr hbase h1 c1
    · by_cases c2 : n < 40
      · exact stable_B base w g n c _ hr hbase (by omega) c2
      · by_cases c3 : n ≤ 40
        · exact stable_C base w g n c _ hr hbase (by omega) c3
        · by_cases c4 : n < 60
          · exact stable_D base w g n c _ hr hbase (by omega) c4
          · exact stable_E base w g n c _ hr hbase (by omega) h2
  have HA := Lib.hid ha
  clear hr ho ha hb hlt
  go_enter Try.func24, Try.ntmps24
  go_wp2_with fail
  refine HC.out.mono ?_
  rintro e w1 ⟨rfl, d, p, s, r⟩
  have ha := HA.out
  have hsz := r.1
  have hperm : d.toList.Perm a := by
    have h2 := p.2.2
    have e1 : d.extract 0 n = d := by rw [← hsz]; simp
    have e2 : a.toArray.extract 0 n = a.toArray := by
      have : a.toArray.size = n := by simpa using ha
      rw [← this]; simp
    rw [e1, e2] at h2
    simpa using h2
  have hs : SortedIn (ltOf cfT) 0 n d := fun i j hi hij hj => s i j hi hij hj
  have H : Hid (SortedE (ltOf cfT) base w (some ⟨g, 0, none⟩) n c a (.returned (.tuple #[])) w1) := ⟨rfl, d.toList, hperm, pairwise_of_sortedIn hs hsz, r.2.1, r.2.2⟩
  clear p s r hsz hperm hs ha
  go_wp2_with fail
  go_end0
  exact H.out
theorem stable_for (n : Nat) (h : n ≤ 60) : StableFor n := by
  rcases Nat.lt_or_ge n 20 with h1 | h1
  · exact stable_few n (by omega)
  · exact stable_up n h1 h
end Go.Proofs.Yteokepnkgdhkkaa
