/- What the library's sort leaves, under the order of timers. -/
import Derived.Test.YtjiodpbefimnlaaTim
import Derived.Shelf.SlSortCmp.NoneTotal
namespace Go.Proofs.Ytjiodpbefimnlaa
open Go.RowKit Go.Shelf
set_option linter.unusedVariables false
theorem sortWorld_other {α : Type} [Inhabited α] (enc : α → Value) (w : World) (blk off m : Nat) (dk : Array α) (os : Array Obj) (k : Nat) (hk : k < w.heap.size) (hne : k ≠ blk) : (sortWorld enc w blk off m dk os).heap[k]? = w.heap[k]? := by
  unfold sortWorld Sort.grow Sort.putRow Sort.mapBlock Sort.ahead
  simp only
  rw [Array.getElem?_append_left (by simpa using hk), Array.getElem?_modify]
  simp [Ne.symm hne]
theorem sortWorld_row {α : Type} [Inhabited α] (enc : α → Value) (w : World) (blk off m : Nat) (dk : Array α) (os : Array Obj) (cur : Array Value) (t : TypeId) (fr : Nat × Nat) (hb : w.heap[blk]? = some (.cells cur t fr)) :
    (sortWorld enc w blk off m dk os).heap[blk]? = some (.cells (Sort.putCells enc off dk cur) t fr) := by
  have hk := lt_of_blk hb
  unfold sortWorld Sort.grow Sort.putRow Sort.mapBlock Sort.ahead
  simp only
  rw [Array.getElem?_append_left (by simpa using hk), Array.getElem?_modify]
  simp [hb, Sort.onCells]
theorem sortWorld_only {α : Type} [Inhabited α] (enc : α → Value) (w : World) (blk off m : Nat) (dk : Array α) (os : Array Obj) : Only [blk] w (sortWorld enc w blk off m dk os) := by
  refine ⟨rfl, rfl, rfl, ?_, fun k hk hn => sortWorld_other enc w blk off m dk os k hk (by simpa using hn)⟩
  unfold sortWorld Sort.grow Sort.putRow Sort.mapBlock Sort.ahead
  simp
theorem putCells_get {α : Type} [Inhabited α] (enc : α → Value) (off : Nat) (dk : Array α) (cur : Array Value) (j : Nat) (hj : j < dk.size) (hc : off + j < cur.size) : (Sort.putCells enc off dk cur)[off + j]? = some (enc dk[j]!) := by
  unfold Sort.putCells
  rw [Array.getElem?_mapIdx, Array.getElem?_eq_getElem hc]
  simp [hj]

abbrev KeyI := {x : Int // (Lit.int .i64 x).wf = true}
instance : Inhabited KeyI := ⟨⟨0, by decide⟩⟩
def encK (x : KeyI) : Value := .int .i64 x.1
def cfK (f : Int → Option Int) (x y : KeyI) : Int := cmpT f x.1 y.1
theorem ltK (f : Int → Option Int) (x y : KeyI) : ltOf (cfK f) x y = true ↔ tmLt (x.1, (f x.1).getD 0) (y.1, (f y.1).getD 0) := by
  unfold ltOf cfK
  rw [decide_eq_true_eq, cmpT_lt]
theorem ltK_no (f : Int → Option Int) (x y : KeyI) : ltOf (cfK f) x y = false ↔ ¬ tmLt (x.1, (f x.1).getD 0) (y.1, (f y.1).getD 0) := by
  rw [← ltK, Bool.not_eq_true]
theorem swoK (f : Int → Option Int) : Sort.SWO (ltOf (cfK f)) where
  irrefl x := by rw [ltK_no]; exact tmLt_irrefl _
  trans x y z h1 h2 := by rw [ltK] at *; exact tmLt_trans h1 h2
  ntrans x y z h1 h2 := by rw [ltK_no] at *; unfold tmLt at *; simp only at *; omega
theorem totK (f : Int → Option Int) (x y : KeyI) (h1 : ltOf (cfK f) x y = false) (h2 : ltOf (cfK f) y x = false) : x = y := by
  rw [ltK_no] at *
  rcases tmLt_tri (x.1, (f x.1).getD 0) (y.1, (f y.1).getD 0) with h | h | h
  · exact absurd h h1
  · injection h with h _; exact Subtype.ext h
  · exact absurd h h2
def liftK (l : List Int) (h : ∀ x ∈ l, (Lit.int .i64 x).wf = true) : List KeyI := l.attach.map fun x => ⟨x.1, h x.1 x.2⟩
theorem liftK_map (l : List Int) (h : ∀ x ∈ l, (Lit.int .i64 x).wf = true) : (liftK l h).map (·.1) = l := by
  unfold liftK
  rw [List.map_map]
  exact List.attach_map_subtype_val l
theorem liftK_length (l : List Int) (h : ∀ x ∈ l, (Lit.int .i64 x).wf = true) : (liftK l h).length = l.length := by simp [liftK]
theorem liftK_get (l : List Int) (h : ∀ x ∈ l, (Lit.int .i64 x).wf = true) (i : Nat) (hi : i < l.length) : (liftK l h)[i]! = ⟨l[i], h _ (List.getElem_mem hi)⟩ := by
  rw [getElem!_pos _ i (by rw [liftK_length]; exact hi)]
  simp [liftK]
theorem perm_of_vals {a b : List KeyI} (h : (a.map (·.1)).Perm (b.map (·.1))) : a.Perm b := by
  have inj : ∀ x y : KeyI, x.1 = y.1 → x = y := fun x y e => Subtype.ext e
  classical
  rw [List.perm_iff_count]
  intro x
  have e : ∀ l : List KeyI, (l.map (·.1)).count x.1 = l.count x := fun l => by
    induction l with
    | nil => rfl
    | cons y r ih =>
      rw [List.map_cons, List.count_cons, List.count_cons, ih]
      by_cases hy : y = x
      · subst hy; simp
      · have : y.1 ≠ x.1 := fun e => hy (inj _ _ e)
        simp [this]
  rw [← e a, ← e b]
  exact h.count_eq _
theorem sorted_is (f : Int → Option Int) {a t : List Int} (ha : ∀ x ∈ a, (Lit.int .i64 x).wf = true) (ht : ∀ x ∈ t, (Lit.int .i64 x).wf = true) (hp : a.Perm t) (hs : t.Pairwise (fun x y => tmLt (x, (f x).getD 0) (y, (f y).getD 0))) :
    (liftK a ha).mergeSort (fun x y => !(ltOf (cfK f)) y x) = liftK t ht := by
  refine mergeSort_is _ (fun x y z h1 h2 => ?_) (fun x y => ?_) (fun x y h1 h2 => ?_) (perm_of_vals (by rw [liftK_map, liftK_map]; exact hp)) ?_
  · simp only [Bool.not_eq_true'] at *
    rw [ltK_no] at *
    unfold tmLt at *
    simp only at *
    omega
  · rw [Bool.or_eq_true, Bool.not_eq_true', Bool.not_eq_true', ltK_no, ltK_no]
    unfold tmLt
    simp only
    omega
  · simp only [Bool.not_eq_true'] at *
    exact (totK f y x h1 h2).symm
  · unfold liftK
    rw [List.pairwise_map]
    have : t.attach.Pairwise (fun x y => tmLt (x.1, (f x.1).getD 0) (y.1, (f y.1).getD 0)) := by
      have h2 := hs
      rw [← List.attach_map_subtype_val t, List.pairwise_map] at h2
      exact h2
    refine this.imp fun h => ?_
    rw [Bool.not_eq_true', ltK_no]
    unfold tmLt at *
    simp only at *
    omega

def Sorted_ (base : Nat) (w : World) (A : Option Addr) (m c : Nat) (t : List Int) (e : Ending) (w' : World) : Prop :=
  e = .returned (.tuple #[]) ∧ Held w' 3 1 A m c (nums t) ∧ Below base w w'
theorem sort_any (B g mb cnt base : Nat) (f : Int → Option Int) (w : World) (hB : w.cell? ⟨B, 0, none⟩ = some (.pointer (some ⟨g, 0, none⟩))) (hg : w.cell? ⟨g, 0, none⟩ = some (.map (some mb))) (hm : MapI w mb f cnt)
    (A : Option Addr) (m c : Nat) (a t : List Int) (ho : w.ownsRow base 3 1 (.slice A m c) m (nums a)) (hBn : ∀ cs, ¬ Blk w B 3 cs) (hgn : ∀ cs, ¬ Blk w g 3 cs) (hma : a.length = m) (hmn : m ≤ 100000) (hbase : base ≤ w.heap.size)
    (ha : ∀ x ∈ a, (Lit.int .i64 x).wf = true) (ht : ∀ x ∈ t, (Lit.int .i64 x).wf = true) (hp : a.Perm t) (hs : t.Pairwise (fun x y => tmLt (x, (f x).getD 0) (y, (f y).getD 0))) :
    Calls Try.prog 27 #[.slice A m c, .func (.func 24) #[] #[.pointer (some ⟨B, 0, none⟩)]] w (Sorted_ base w A m c t) := by
  rcases Nat.eq_zero_or_pos m with h0 | h0
  · subst h0
    have e1 : a = [] := List.eq_nil_of_length_eq_zero hma
    subst e1
    have e2 : t = [] := List.nil_perm.1 hp
    subst e2
    have := AnyF.slices_SortFunc_none (P := Try.prog) (ρ := sortI_ren) { sortI with } A c (.func (.func 24) #[] #[.pointer (some ⟨B, 0, none⟩)]) w
    change Calls Try.prog 27 _ _ _ at this
    refine this.mono ?_
    rintro e w' ⟨he, hw⟩
    subst hw
    exact ⟨he, Held.of_own ho, Below.refl _ _⟩
  · obtain ⟨hl, hcase⟩ := ho
    rcases hcase with ⟨hv, hn⟩ | ⟨blk, cap, cur, hv, hb, hh, hnc, hcm, hsz, htk⟩
    · omega
    injection hv with hv1 hv2 hv3
    subst hv1 hv3
    have hcur : ∀ j, j < m → cur[j]? = some (.int .i64 (a[j]!)) := fun j hj => by
      have e : (cur.toList.take (m * 1))[j]? = (nums a)[j]? := by rw [htk]
      rw [List.getElem?_take, if_pos (by omega)] at e
      rw [← Array.getElem?_toList, e]
      have hja : j < a.length := by omega
      rw [getElem!_pos a j hja]
      simp [nums, hja]
    have hblk := lt_of_blk hh
    have hH : Sort.Holds encK w blk 0 (liftK a ha).toArray := by
      intro j hj
      have hj' : j < a.length := by simpa [liftK_length] using hj
      have e := hcur j (by omega)
      refine ⟨?_, Blk.frozen (w := w) (g := blk) (t := 3) (cs := cur) hh _⟩
      rw [Blk.cell (w := w) (g := blk) (t := 3) (cs := cur) hh, Nat.zero_add, e]
      rw [List.getElem!_toArray, liftK_get a ha j hj', getElem!_pos a j hj']
      rfl
    have hne1 : B ≠ blk := fun e => hBn cur (by rw [e]; exact hh)
    have hne2 : g ≠ blk := fun e => hgn cur (by rw [e]; exact hh)
    have hne3 : mb ≠ blk := fun e => by
      have := MapV.blk_ne hm (g := blk) (ty := 3) (cs := cur) hh
      exact this e.symm
    have hBl := lt_of_cell hB
    have hgl := lt_of_cell hg
    have cell_eq : ∀ (m' : Nat) (os : Array Obj) (dk : Array KeyI) (k o : Nat), k < w.heap.size → k ≠ blk → (sortWorld encK w blk 0 m' dk os).cell? ⟨k, o, none⟩ = w.cell? ⟨k, o, none⟩ := fun m' os dk k o hk hne => by
      unfold World.cell?
      rw [sortWorld_other encK w blk 0 m' dk os k hk hne]
    have hcmp : CmpLays1 Try.prog 24 #[.pointer (some ⟨B, 0, none⟩)] encK (cfK f) blk 0 (liftK a ha).toArray.size w := by
      intro m' os dk hdk x y
      exact before_any x.1 y.1 B g mb cnt f (sortWorld encK w blk 0 m' dk os) ((cell_eq m' os dk B 0 hBl hne1).trans hB) ((cell_eq m' os dk g 0 hgl hne2).trans hg) (MapV.same hm (sortWorld_other encK w blk 0 m' dk os mb (MapV.lt hm) hne3)) x.2 y.2
    have eg : ∀ args w, (callFunc 24 args).run Try.prog w = .ok (.enter 24 args) w := enters_of Try.func24 (by kernel_rfl) rfl
    have hcon := Any.slices_SortFunc_total sortI encK (fun _ => rfl) (cfK f) (swoK f) 24 #[.pointer (some ⟨B, 0, none⟩)] blk 0 c (liftK a ha).toArray w eg hcmp hH hblk (by simp [liftK_length]; omega) (totK f)
    have es : (liftK a ha).toArray.size = m := by simp [liftK_length, hma]
    rw [es] at hcon
    change Calls Try.prog 27 _ _ _ at hcon
    refine hcon.mono ?_
    rintro e w' ⟨he, n, os, hw⟩
    have e2 : (liftK a ha).toArray.toList.mergeSort (fun x y => !(ltOf (cfK f)) y x) = liftK t ht := sorted_is f ha ht hp hs
    rw [e2] at hw
    have htl : t.length = m := by rw [← hma]; exact hp.length_eq.symm
    have hrow := sortWorld_row encK w blk 0 n (liftK t ht).toArray os cur 3 (0, 0) hh
    rw [← hw] at hrow
    refine ⟨he, ⟨by simp [nums, htl], hnc, by simp only [maxLen] at hcm; omega, fun h => (by cases h), fun _ => ⟨blk, 0, _, rfl, hrow, fun j u hu => ?_⟩⟩, ?_⟩
    · have hj : j < t.length := by
        have := (List.getElem?_eq_some_iff.1 hu).1
        simpa [nums] using this
      have hjc : 0 + j < cur.size := by
        have := hcur j (by omega)
        have := (Array.getElem?_eq_some_iff.1 this).1
        omega
      have := putCells_get encK 0 (liftK t ht).toArray cur j (by simpa [liftK_length] using hj) hjc
      rw [this, List.getElem!_toArray, liftK_get t ht j hj]
      have : (nums t)[j]? = some (.int .i64 t[j]) := by simp [nums, hj]
      rw [this] at hu
      exact hu
    · rw [hw]
      exact (sortWorld_only encK w blk 0 n (liftK t ht).toArray os).below hbase (by simp; exact hb)
end Go.Proofs.Ytjiodpbefimnlaa
