/- The walk of tally's Top; the stable sort of few. -/
import Derived.Test.YteokepnkgdhkkaaRows
import Derived.WalkKit
import Derived.ProofKit
import Derived.Handy
import Derived.Deep.QuietTactic
import Derived.BigQuiet
import Derived.Deep.RegionWith
import Derived.Deep.RegionHeld3
import Derived.Deep.AppendLies
import Derived.WalkLawsBesides
import Derived.WalkSmall
import Derived.Deep.Cut
import Derived.Test.YteokepnkgdhkkaaTal8
import Derived.Test.YteokepnkgdhkkaaTal4
import Derived.Test.YteokepnkgdhkkaaInts
namespace Go.Proofs.Yteokepnkgdhkkaa
open Go.RowKit Go.Shelf Go.Sort
set_option linter.unusedVariables false
def big (x : Sm) : Int := wrap64 (x.se + x.ca)
def orI (x y : Int) : Int := if x ≠ 0 then x else y
def cfT (x y : Sm) : Int := orI (cmpI (big y) (big x)) (cmpI x.st y.st)
theorem ltT (x y : Sm) : ltOf cfT x y = true ↔ big y < big x ∨ (big y = big x ∧ x.st < y.st) := by
  unfold ltOf cfT orI cmpI
  rw [decide_eq_true_eq]
  repeat' split
  all_goals omega
theorem ltT_no (x y : Sm) : ltOf cfT x y = false ↔ ¬ (big y < big x ∨ (big y = big x ∧ x.st < y.st)) := by rw [← ltT, Bool.not_eq_true]
theorem swoT : Sort.SWO (ltOf cfT) where
  irrefl x := by rw [ltT_no]; omega
  trans x y z h1 h2 := by rw [ltT] at *; omega
  ntrans x y z h1 h2 := by rw [ltT_no] at *; omega
set_option maxHeartbeats 1000000 in
theorem topC_any (x y : Sm) (W : World) : Calls Try.prog 25 #[.agg (sa x), .agg (sa y)] W fun e w' => e = .returned (.int .i64 (cfT x y)) ∧ ∃ q os', w' = Sort.grow (W.drewN q) os' := by
  have bx := Blk.alloc (Blk.new W 33 (sa x)) (.cells (sa y) 33)
  have by_ := Blk.new (W.alloc (.cells (sa x) 33)) 33 (sa y)
  rw [World.size_alloc] at by_
  have cx : ∀ i u, (sa x)[i]? = some u → ((W.alloc (.cells (sa x) 33)).alloc (.cells (sa y) 33)).cell? ⟨W.heap.size, i, none⟩ = some u := fun i u h => (Blk.cell bx i).trans h
  have cy : ∀ i u, (sa y)[i]? = some u → ((W.alloc (.cells (sa x) 33)).alloc (.cells (sa y) 33)).cell? ⟨W.heap.size + 1, i, none⟩ = some u := fun i u h => (Blk.cell by_ i).trans h
  have cx0 := cx 0 (.int .i64 x.st) rfl
  have cx1 := cx 1 (.int .i64 x.se) rfl
  have cx2 := cx 2 (.int .i64 x.ca) rfl
  have cy0 := cy 0 (.int .i64 y.st) rfl
  have cy1 := cy 1 (.int .i64 y.se) rfl
  have cy2 := cy 2 (.int .i64 y.ca) rfl
  clear bx by_ cx cy
  have HE : Hid (∃ q os', (W.alloc (.cells (sa x) 33)).alloc (.cells (sa y) 33) = Sort.grow (W.drewN q) os') := ⟨0, _, by rw [Sort.alloc_eq_grow, Sort.alloc_eq_grow, Sort.grow_grow]; rfl⟩
  have HC : Hid (cfT x y = orI (cmpI (big y) (big x)) (cmpI x.st y.st)) := rfl
  by_cases h0 : cmpI (big y) (big x) = 0
  · have HF : Hid (cfT x y = cmpI x.st y.st) := by
      show _ = _
      rw [HC.out, h0]; rfl
    unfold big at h0
    go_enter Try.func25, Try.ntmps25
    go_wp2_with (first
      | (go_at_call_of 26 (Value.int .i64 x.st)
         refine (compare_any _ _ _).mono ?_
         rintro e w1 ⟨rfl, rfl⟩)
      | (go_at_call 26
         refine (compare_any _ _ _).mono ?_
         rintro e w1 ⟨rfl, rfl⟩
         rw [h0]))
    go_ret
    exact ⟨by rw [HF.out]; rfl, HE.out⟩
  · have HF : Hid (cfT x y = cmpI (big y) (big x)) := by
      show _ = _
      rw [HC.out]
      unfold orI
      rw [if_pos h0]
    have h1 : (cmpI (big y) (big x) != 0) = true := by simp [h0]
    unfold big at h1 h0 HF
    clear h0
    go_enter Try.func25, Try.ntmps25
    go_wp2_with (first
      | (go_at_call 26
         refine (compare_any _ _ _).mono ?_
         rintro e w1 ⟨rfl, rfl⟩))
    go_ret
    exact ⟨by rw [HF.out]; rfl, HE.out⟩
def StableFor (m : Nat) : Prop := ∀ (base : Nat) (w : World) (A : Option Addr) (c : Nat) (a : List Sm), w.ownsRow base 33 8 (.slice A m c) m (svs a) → a.length = m → base ≤ w.heap.size →
  Calls Try.prog 24 #[.slice A m c, .func (.func 25) #[] #[]] w (SortedE (ltOf cfT) base w A m c a)
theorem egT : ∀ args w, (callFunc 25 args).run Try.prog w = .ok (.enter 25 args) w := enters_of Try.func25 (by kernel_rfl) rfl
theorem cmpT (w : World) (blk m : Nat) : CmpLays Try.prog 25 #[] sv 8 cfT blk 0 m w := fun m' os dk _ x y => topC_any x y _
theorem ins_few (base : Nat) (w : World) (A : Option Addr) (m c : Nat) (a : List Sm) (ho : w.ownsRow base 33 8 (.slice A m c) m (svs a)) (hm : a.length = m) (hmn : m ≤ 100000) (hbase : base ≤ w.heap.size) :
    Calls Try.prog 36 #[.slice A m c, .int .i64 0, .int .i64 m, .func (.func 25) #[] #[]] w (SortedE (ltOf cfT) base w A m c a) := by
  rcases Nat.eq_zero_or_pos m with h0 | h0
  · subst h0
    have this := AnyF.insertionSortCmpFunc_none (P := Try.prog) (ρ := insS_ren) insS A c (.func (.func 25) #[] #[]) w
    change Calls Try.prog 36 _ _ _ at this
    refine this.mono ?_
    rintro e w' ⟨he, hw⟩
    subst hw
    exact ⟨he, a, List.Perm.refl _, by rw [List.eq_nil_of_length_eq_zero hm]; exact List.Pairwise.nil, ho, Below.refl _ _⟩
  · obtain ⟨blk, cap, hA, hb, hlt⟩ := ho.form h0
    injection hA with hA _ hc
    subst hA
    have es : a.toArray.size = m := by simp [hm]
    have hcon := AnyQ.insertionSortCmpFunc (P := Try.prog) (ρ := insS_ren) insS 8 agg33 size33 sv (fun _ => rfl) sv_one cfT 25 #[] blk 0 c 0 m a.toArray w egT (cmpT w blk _) (holdsK_of_own ho hm) hlt (Nat.zero_le _) (by rw [es]; exact Nat.le_refl _) (by rw [es]; omega)
    rw [es] at hcon
    change Calls Try.prog 36 _ _ _ at hcon
    refine hcon.mono ?_
    rintro e w' ⟨he, n, os, hw⟩
    obtain ⟨hp, hs⟩ := insertionSort_holds swoT a.toArray 0 m (Nat.zero_le _) (by rw [es]; exact Nat.le_refl _)
    generalize insertionSort (ltOf cfT) a.toArray 0 m = d' at *
    have hsz : d'.size = m := hp.1.trans es
    have hperm : d'.toList.Perm a := by
      have h2 := hp.2.2
      have e1 : d'.extract 0 m = d' := by rw [← hsz]; simp
      have e2 : a.toArray.extract 0 m = a.toArray := by rw [← es]; simp
      rw [e1, e2] at h2
      simpa using h2
    have hrow := own_of_sort ho (t := d'.toList) (by simpa using hsz) n os hbase
    rw [Array.toArray_toList, ← hw] at hrow
    exact ⟨he, d'.toList, hperm, pairwise_of_sortedIn hs hsz, hrow.1, hrow.2⟩
theorem stable_few (m : Nat) (hm : m ≤ 19) : StableFor m := by
  intro base w A c a ho ha hbase
  have HI := Lib.hid (ins_few base w A m c a ho ha (by omega) hbase)
  have HS : Hid (Calls Try.prog 32 #[.slice A m c, .int .i64 m, .func (.func 25) #[] #[]] w (SortedE (ltOf cfT) base w A m c a)) := by
    show Calls Try.prog 32 #[.slice A m c, .int .i64 m, .func (.func 25) #[] #[]] w (SortedE (ltOf cfT) base w A m c a)
    clear ho
    go_enter Try.func32, Try.ntmps32
    go_wp2_with fail
    refine wp_loop_rounds 1 ?_
    rw [rounds_succ]
    go_wp2_with fail
    refine HI.out.mono ?_
    rintro e w1 ⟨rfl, h⟩
    have H := Lib.hid h
    clear h
    go_wp2_with fail
    refine wp_loop_rounds 1 ?_
    rw [rounds_succ]
    go_wp2_with fail
    go_end0
    exact ⟨rfl, H.out⟩
  clear ho HI
  go_enter Try.func24, Try.ntmps24
  go_wp2_with fail
  refine HS.out.mono ?_
  rintro e w1 ⟨rfl, h⟩
  have H := Lib.hid h
  clear h
  go_wp2_with fail
  go_end0
  exact ⟨rfl, H.out⟩
end Go.Proofs.Yteokepnkgdhkkaa
