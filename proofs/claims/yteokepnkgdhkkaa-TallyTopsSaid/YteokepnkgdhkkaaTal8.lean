/- The library's sort at rows of sums: what it leaves; tally's own order of gather. -/
import Derived.Test.YteokepnkgdhkkaaRows
import Derived.WalkKit
import Derived.ProofKit
import Derived.Handy
import Derived.Deep.QuietTactic
import Derived.BigQuiet
import Derived.Deep.RegionWith
import Derived.Deep.RegionHeld3
import Derived.Deep.AppendLies
import Derived.WalkLawsBesides
import Derived.WalkSmall
import Derived.Shelf.SlSortCmp.NoneTotal
import Derived.Test.YteokepnkgdhkkaaTalM
import Derived.Test.YteokepnkgdhkkaaLay35
namespace Go.Proofs.Yteokepnkgdhkkaa
open Go.RowKit Go.Shelf Go.Sort
set_option linter.unusedVariables false
instance : Inhabited Sm := ⟨Sm.zero 0⟩
def cmpI (a b : Int) : Int := if a < b then -1 else if b < a then 1 else 0
theorem nan_any (a : Int) (w : World) : Calls Try.prog 33 #[.int .i64 a] w fun e w' => e = .returned (.bool false) ∧ w = w' := by
  go_enter Try.func33, Try.ntmps33
  go_wp2_with fail
  go_ret
  exact ⟨rfl, rfl⟩
theorem compare_any (a b : Int) (w : World) : Calls Try.prog 26 #[.int .i64 a, .int .i64 b] w fun e w' => e = .returned (.int .i64 (cmpI a b)) ∧ w = w' := by
  by_cases h1 : a < b
  · rw [show cmpI a b = -1 by unfold cmpI; rw [if_pos h1]]
    go_enter Try.func26, Try.ntmps26
    go_wp2_with (go_at_call 33; refine (nan_any _ _).mono ?_; rintro e w' ⟨rfl, rfl⟩)
    go_ret
    exact ⟨rfl, rfl⟩
  · by_cases h2 : b < a
    · rw [show cmpI a b = 1 by unfold cmpI; rw [if_neg h1, if_pos h2]]
      go_enter Try.func26, Try.ntmps26
      go_wp2_with (go_at_call 33; refine (nan_any _ _).mono ?_; rintro e w' ⟨rfl, rfl⟩)
      go_ret
      exact ⟨rfl, rfl⟩
    · rw [show cmpI a b = 0 by unfold cmpI; rw [if_neg h1, if_neg h2]]
      go_enter Try.func26, Try.ntmps26
      go_wp2_with (go_at_call 33; refine (nan_any _ _).mono ?_; rintro e w' ⟨rfl, rfl⟩)
      go_ret
      exact ⟨rfl, rfl⟩
def cfS (x y : Sm) : Int := cmpI x.st y.st
theorem by_any (x y : Sm) (W : World) : Calls Try.prog 31 #[.agg (sa x), .agg (sa y)] W fun e w' => e = .returned (.int .i64 (cfS x y)) ∧ ∃ q os', w' = Sort.grow (W.drewN q) os' := by
  have bx := Blk.alloc (Blk.new W 33 (sa x)) (.cells (sa y) 33)
  have by_ := Blk.new (W.alloc (.cells (sa x) 33)) 33 (sa y)
  have cx : ((W.alloc (.cells (sa x) 33)).alloc (.cells (sa y) 33)).cell? ⟨W.heap.size, 0, none⟩ = some (.int .i64 x.st) := Blk.cell bx 0
  have cy : ((W.alloc (.cells (sa x) 33)).alloc (.cells (sa y) 33)).cell? ⟨W.heap.size + 1, 0, none⟩ = some (.int .i64 y.st) := by
    have := Blk.cell by_ 0
    rw [World.size_alloc] at this
    exact this
  clear bx by_
  have HE : Hid (∃ q os', (W.alloc (.cells (sa x) 33)).alloc (.cells (sa y) 33) = Sort.grow (W.drewN q) os') := ⟨0, _, by rw [Sort.alloc_eq_grow, Sort.alloc_eq_grow, Sort.grow_grow]; rfl⟩
  go_enter Try.func31, Try.ntmps31
  go_wp2_with (first
    | (go_at_call 26
       refine (compare_any _ _ _).mono ?_
       rintro e w1 ⟨rfl, rfl⟩))
  go_ret
  exact ⟨rfl, HE.out⟩
/-- The row as the kit's sort holds it. -/
theorem holdsK_of_own {w : World} {base blk m c : Nat} {a : List Sm} (ho : w.ownsRow base 33 8 (.slice (some ⟨blk, 0, none⟩) m c) m (svs a)) (hm : a.length = m) : HoldsK sv 8 w blk 0 a.toArray := by
  intro j hj
  have hj' : j < m * 8 := by simpa [hm] using hj
  refine ⟨?_, ho.frozenAt _⟩
  rw [Nat.zero_add, ho.cellAt j hj', get_flatK _ _ _ _ (by simpa [hm] using hj')]
  have hk : j / 8 < a.length := by omega
  have e := svs_at a (j / 8) hk (j % 8) (Nat.mod_lt _ (by omega))
  rw [show j / 8 * 8 + j % 8 = j by omega] at e
  rw [e]
  rw [List.getElem!_toArray, getElem!_pos a (j / 8) hk]
  have hl : j % 8 < (sv a[j / 8]).length := by simp [sv]; omega
  rw [getElem!_pos (sv a[j / 8]) (j % 8) hl, List.getElem?_eq_getElem hl]
  rfl
theorem own_of_sort {w : World} {base blk m c : Nat} {a t : List Sm} (ho : w.ownsRow base 33 8 (.slice (some ⟨blk, 0, none⟩) m c) m (svs a)) (ht : t.length = m) (n : Nat) (os : Array Obj) (hbase : base ≤ w.heap.size) :
    (sortWorldK sv 8 w blk 0 n t.toArray os).ownsRow base 33 8 (.slice (some ⟨blk, 0, none⟩) m c) m (svs t) ∧ Below base w (sortWorldK sv 8 w blk 0 n t.toArray os) := by
  obtain ⟨hl, hcase⟩ := ho
  rcases hcase with ⟨hv, _⟩ | ⟨g, cap, cur, hv, hb, hh, hnc, hcm, hsz, htk⟩
  · simp at hv
  injection hv with hv1 _ hv3
  injection hv1 with hv1
  injection hv1 with hv1
  subst hv1 hv3
  have hk := lt_of_blk hh
  have hother : ∀ k, k < w.heap.size → k ≠ blk → (sortWorldK sv 8 w blk 0 n t.toArray os).heap[k]? = w.heap[k]? := fun k hk hne => by
    unfold sortWorldK putRowK Sort.grow Sort.putRow Sort.mapBlock Sort.ahead
    simp only
    rw [Array.getElem?_append_left (by simpa using hk), Array.getElem?_modify]
    simp [Ne.symm hne]
  have hsize : w.heap.size ≤ (sortWorldK sv 8 w blk 0 n t.toArray os).heap.size := by
    unfold sortWorldK putRowK Sort.grow Sort.putRow Sort.mapBlock Sort.ahead
    simp
  have hrow : (sortWorldK sv 8 w blk 0 n t.toArray os).heap[blk]? = some (.cells (Sort.putCells id 0 (flatK sv 8 t.toArray) cur) 33 (0, 0)) := by
    unfold sortWorldK putRowK Sort.grow Sort.putRow Sort.mapBlock Sort.ahead
    simp only
    rw [Array.getElem?_append_left (by simpa using hk), Array.getElem?_modify]
    simp [hh, Sort.onCells]
  refine ⟨⟨by rw [svs_length, ht], .inr ⟨blk, c, _, rfl, hb, hrow, hnc, hcm, by simp [Sort.putCells, hsz], ?_⟩⟩, ⟨rfl, rfl, rfl, hsize, fun k hk => hother k (by omega) (by omega)⟩⟩
  refine List.ext_getElem? fun j => ?_
  rw [List.getElem?_take]
  by_cases hj : j < m * 8
  · have hjc : j < cur.size := by
      rw [hsz]
      exact Nat.lt_of_lt_of_le hj (Nat.mul_le_mul_right 8 hnc)
    have hk2 : j / 8 < t.length := by omega
    rw [if_pos hj]
    have e1 : (Sort.putCells id 0 (flatK sv 8 t.toArray) cur).toList[j]? = some (flatK sv 8 t.toArray)[j]! := by
      rw [Array.getElem?_toList]
      unfold Sort.putCells
      rw [Array.getElem?_mapIdx, Array.getElem?_eq_getElem hjc]
      simp [ht, hj]
    rw [e1, get_flatK _ _ _ _ (by simpa [ht] using hj)]
    have e := svs_at t (j / 8) hk2 (j % 8) (Nat.mod_lt _ (by omega))
    rw [show j / 8 * 8 + j % 8 = j by omega] at e
    rw [e, List.getElem!_toArray, getElem!_pos t (j / 8) hk2]
    have hl2 : j % 8 < (sv t[j / 8]).length := by simp [sv]; omega
    rw [getElem!_pos (sv t[j / 8]) (j % 8) hl2, List.getElem?_eq_getElem hl2]
  · rw [if_neg hj, List.getElem?_eq_none (by rw [svs_length, ht]; omega)]
theorem agg33 (w : World) : (isAgg 33).run Try.prog w = .ok true w := by kernel_rfl
theorem size33 (w : World) : (Go.sizeOf 33).run Try.prog w = .ok 8 w := by kernel_rfl
theorem sv_one (x : Sm) : ∀ v ∈ sv x, v.oneCell' = true := by
  intro v hv
  simp [sv] at hv
  rcases hv with rfl | rfl | rfl | rfl | rfl | rfl | rfl | rfl <;> rfl
theorem ltS (x y : Sm) : ltOf cfS x y = true ↔ x.st < y.st := by
  unfold ltOf cfS cmpI
  rw [decide_eq_true_eq]
  split
  · omega
  · split <;> omega
theorem ltS_no (x y : Sm) : ltOf cfS x y = false ↔ ¬ x.st < y.st := by rw [← ltS, Bool.not_eq_true]
theorem swoS : Sort.SWO (ltOf cfS) where
  irrefl x := by rw [ltS_no]; omega
  trans x y z h1 h2 := by rw [ltS] at *; omega
  ntrans x y z h1 h2 := by rw [ltS_no] at *; omega
/-- Behind a sort of the row A: the same sums in another order. -/
def SortedE (lt : Sm → Sm → Bool) (base : Nat) (w : World) (A : Option Addr) (m c : Nat) (a : List Sm) (e : Ending) (w' : World) : Prop :=
  e = .returned (.tuple #[]) ∧ ∃ t : List Sm, t.Perm a ∧ t.Pairwise (fun x y => lt y x = false) ∧ w'.ownsRow base 33 8 (.slice A m c) m (svs t) ∧ Below base w w'
theorem pairwise_of_sortedIn {lt : Sm → Sm → Bool} {d : Array Sm} {n : Nat} (h : SortedIn lt 0 n d) (hn : d.size = n) : d.toList.Pairwise (fun x y => lt y x = false) := by
  rw [List.pairwise_iff_getElem]
  intro i j hi hj hij
  have := h i j (Nat.zero_le _) hij (by simpa [hn] using hj)
  have hi' : i < d.size := by simpa using hi
  have hj' : j < d.size := by simpa using hj
  rw [getElem!_pos d i hi', getElem!_pos d j hj'] at this
  simpa using this
theorem sort_any (base : Nat) (w : World) (A : Option Addr) (m c : Nat) (a : List Sm) (ho : w.ownsRow base 33 8 (.slice A m c) m (svs a)) (hm : a.length = m) (hmn : m ≤ 100000) (hbase : base ≤ w.heap.size) :
    Calls Try.prog 30 #[.slice A m c, .func (.func 31) #[] #[]] w (SortedE (ltOf cfS) base w A m c a) := by
  rcases Nat.eq_zero_or_pos m with h0 | h0
  · subst h0
    have this := AnyF.slices_SortFunc_none (P := Try.prog) (ρ := sortS_ren) { sortS with } A c (.func (.func 31) #[] #[]) w
    change Calls Try.prog 30 _ _ _ at this
    refine this.mono ?_
    rintro e w' ⟨he, hw⟩
    subst hw
    exact ⟨he, a, List.Perm.refl _, by rw [List.eq_nil_of_length_eq_zero hm]; exact List.Pairwise.nil, ho, Below.refl _ _⟩
  · obtain ⟨blk, cap, hA, hb, hlt⟩ := ho.form h0
    injection hA with hA _ hc
    subst hA
    have eg : ∀ args w, (callFunc 31 args).run Try.prog w = .ok (.enter 31 args) w := enters_of Try.func31 (by kernel_rfl) rfl
    have hcmp : CmpLays Try.prog 31 #[] sv 8 cfS blk 0 a.toArray.size w := fun m' os dk _ x y => by_any x y _
    have hcon := AnyQ.slices_SortFunc sortS 8 agg33 size33 sv (fun _ => rfl) sv_one cfS swoS 31 #[] blk 0 c a.toArray w eg hcmp (holdsK_of_own ho hm) hlt (by simp [hm]; omega)
    have es : a.toArray.size = m := by simp [hm]
    rw [es] at hcon
    change Calls Try.prog 30 _ _ _ at hcon
    refine hcon.mono ?_
    rintro e w' ⟨he, d', n, os, hp, hs, hw⟩
    have hsz : d'.size = m := hp.1.trans es
    have hperm : d'.toList.Perm a := by
      have h2 := hp.2.2
      rw [← es] at h2
      have e1 : d'.extract 0 a.toArray.size = d' := by rw [es, ← hsz]; simp
      rw [e1] at h2
      simpa using h2
    have hrow := own_of_sort ho (t := d'.toList) (by simpa using hsz) n os hbase
    rw [Array.toArray_toList, ← hw] at hrow
    exact ⟨he, d'.toList, hperm, pairwise_of_sortedIn hs hsz, hrow.1, hrow.2⟩
end Go.Proofs.Yteokepnkgdhkkaa
