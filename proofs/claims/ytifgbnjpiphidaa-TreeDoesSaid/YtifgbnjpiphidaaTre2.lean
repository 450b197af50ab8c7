/- The walk of tree's Kids. -/
import Derived.Test.YtifgbnjpiphidaaRows
import Derived.WalkKit
import Derived.ProofKit
import Derived.Handy
import Derived.Deep.QuietTactic
import Derived.BigQuiet
import Derived.Deep.RegionWith
import Derived.Deep.RegionHeld3
import Derived.Deep.AppendLies
import Derived.WalkLawsBesides
import Derived.WalkSmall
import Derived.Deep.Cut
import Derived.Test.YtifgbnjpiphidaaTre
import Derived.Test.YtifgbnjpiphidaaLay14
namespace Go.Proofs.Ytifgbnjpiphidaa
open Go.RowKit Go.Shelf Go.Sort
set_option linter.unusedVariables false
def SortedE (base : Nat) (w : World) (A : Option Addr) (m c : Nat) (a : List Int) (e : Ending) (w' : World) : Prop :=
  e = .returned (.tuple #[]) ∧ w'.ownsRow base 3 1 (.slice A m c) m (nums (sortI a)) ∧ Below base w w'
theorem sort_any (base : Nat) (w : World) (A : Option Addr) (m c : Nat) (a : List Int) (ho : w.ownsRow base 3 1 (.slice A m c) m (nums a)) (hm : a.length = m) (hmn : m ≤ 1000000) (hbase : base ≤ w.heap.size) :
    Calls Try.prog 34 #[.slice A m c] w (SortedE base w A m c a) := by
  rcases Nat.eq_zero_or_pos m with h0 | h0
  · subst h0
    have this := Any.slices_Sort_int_none (P := Try.prog) (ρ := sortO_ren) sortO A c w
    change Calls Try.prog 34 _ _ _ at this
    refine this.mono ?_
    rintro e w' ⟨he, hw⟩
    subst hw
    have : a = [] := List.eq_nil_of_length_eq_zero hm
    subst this
    exact ⟨he, by rw [show sortI ([] : List Int) = [] by simp [sortI]]; exact ho, Below.refl _ _⟩
  · obtain ⟨hl, hcase⟩ := ho
    rcases hcase with ⟨hv, hn⟩ | ⟨blk, cap, cur, hv, hb, hh, hnc, hcm, hsz, htk⟩
    · omega
    injection hv with hv1 _ hv3
    subst hv1 hv3
    have hblk := lt_of_blk hh
    have hcur : ∀ j (hj : j < a.length), cur[j]? = some (.int .i64 a[j]) := fun j hj => by
      have e : (cur.toList.take (m * 1))[j]? = (nums a)[j]? := by rw [htk]
      rw [List.getElem?_take, if_pos (by omega)] at e
      rw [← Array.getElem?_toList, e]
      simp [nums, hj]
    have hH : Holds (Value.int .i64) w blk 0 a.toArray := by
      intro j hj
      have hj' : j < a.length := by simpa using hj
      refine ⟨?_, Blk.frozen (w := w) (g := blk) (t := 3) (cs := cur) hh _⟩
      rw [Blk.cell (w := w) (g := blk) (t := 3) (cs := cur) hh, Nat.zero_add, hcur j hj', List.getElem!_toArray, getElem!_pos a j hj']
    have hcon := Any.slices_Sort_int (P := Try.prog) (ρ := sortO_ren) sortO blk 0 c a w hH hblk (by omega)
    rw [hm] at hcon
    change Calls Try.prog 34 _ _ _ at hcon
    refine hcon.mono ?_
    rintro e w' ⟨he, n, os, hw⟩
    have ets : (a.mergeSort fun x y => decide (x ≤ y)) = sortI a := rfl
    rw [ets] at hw
    have htl : (sortI a).length = m := by rw [sortI_length]; exact hm
    unfold SortedE
    generalize sortI a = t at *
    have hother : ∀ k, k < w.heap.size → k ≠ blk → w'.heap[k]? = w.heap[k]? := fun k hk hne => by
      rw [hw]
      unfold Sort.grow Sort.putRow Sort.mapBlock Sort.ahead
      simp only
      rw [Array.getElem?_append_left (by simpa using hk), Array.getElem?_modify]
      simp [Ne.symm hne]
    have hsize : w.heap.size ≤ w'.heap.size := by
      rw [hw]
      unfold Sort.grow Sort.putRow Sort.mapBlock Sort.ahead
      simp
    have hrow : w'.heap[blk]? = some (.cells (Sort.putCells (Value.int .i64) 0 t.toArray cur) 3 (0, 0)) := by
      rw [hw]
      unfold Sort.grow Sort.putRow Sort.mapBlock Sort.ahead
      simp only
      rw [Array.getElem?_append_left (by simpa using hblk), Array.getElem?_modify]
      simp [hh, Sort.onCells]
    have hos : w'.os = w.os ∧ w'.tape = w.tape ∧ w'.output = w.output := by
      rw [hw]
      exact ⟨rfl, rfl, rfl⟩
    refine ⟨he, ⟨by rw [nums_length, htl], .inr ⟨blk, c, _, rfl, hb, hrow, hnc, hcm, by simp [Sort.putCells, hsz], ?_⟩⟩, ⟨hos.1, hos.2.1, hos.2.2, hsize, fun k hk => hother k (by omega) (by omega)⟩⟩
    refine List.ext_getElem? fun j => ?_
    rw [List.getElem?_take]
    by_cases hj : j < m * 1
    · have hjc : j < cur.size := by omega
      have hj2 : j < t.length := by omega
      rw [if_pos hj, Array.getElem?_toList]
      unfold Sort.putCells
      rw [Array.getElem?_mapIdx, Array.getElem?_eq_getElem hjc]
      simp [hj2, nums]
    · rw [if_neg hj, List.getElem?_eq_none (by rw [nums_length, htl]; omega)]
def IntsAre (w : World) (l : List Int) (e : Ending) (w' : World) : Prop :=
  ∃ A c, e = .returned (.slice A l.length c) ∧ Held w' 3 1 A l.length c (nums l) ∧ Below w.heap.size w w'
def IntsOwn (w : World) (l : List Int) (e : Ending) (w' : World) : Prop :=
  ∃ A c, e = .returned (.slice A l.length c) ∧ w'.ownsRow w.heap.size 3 1 (.slice A l.length c) l.length (nums l) ∧ Below w.heap.size w w'
theorem kids_nil (x : Int) (w : World) : Calls Try.prog 20 #[.pointer none, .int .i64 x] w (IntsAre w []) := by
  go_enter Try.func20, Try.ntmps20
  go_wp2_with fail
  go_ret
  exact ⟨none, 0, rfl, Held.nil_ _ _ _, Below.refl _ _⟩
/-- What has come out when left says what is still to come. -/
structure OutK (l : List Nd) (o : Int) (left : Int → Bool) (a : List Int) : Prop where
  nd : a.Nodup
  mem : ∀ x, x ∈ a ↔ left x = false ∧ ∃ p, getN l x = some p ∧ p.on = o
theorem OutK.start (l : List Nd) (o : Int) : OutK l o (fun x => ((getN l x).map enN).isSome) [] :=
  ⟨List.nodup_nil, fun x => by
    constructor
    · intro h; cases h
    · rintro ⟨h, p, hp, _⟩
      rw [hp] at h
      cases h⟩
theorem OutK.skip {l : List Nd} {o : Int} {left : Int → Bool} {a : List Int} {x : Int} {p : Nd} (h : OutK l o left a) (hx : left x = true) (hp : getN l x = some p) (hn : p.on ≠ o) : OutK l o (fun z => left z && !decide (z = x)) a := by
  obtain ⟨h1, h2⟩ := h
  refine ⟨h1, fun y => ?_⟩
  rw [h2]
  constructor
  · rintro ⟨a1, a2⟩
    exact ⟨by rw [a1]; rfl, a2⟩
  · rintro ⟨a1, q, a2, a3⟩
    by_cases hy : y = x
    · subst hy
      rw [hp] at a2
      injection a2 with a2
      exact absurd (a2 ▸ a3) hn
    · exact ⟨by simpa [hy] using a1, q, a2, a3⟩
theorem OutK.take {l : List Nd} {o : Int} {left : Int → Bool} {a : List Int} {x : Int} {p : Nd} (h : OutK l o left a) (hx : left x = true) (hp : getN l x = some p) (hn : p.on = o) : OutK l o (fun z => left z && !decide (z = x)) (a ++ [x]) := by
  obtain ⟨h1, h2⟩ := h
  have hxa : x ∉ a := fun hm => by
    have := ((h2 x).1 hm).1
    rw [hx] at this
    cases this
  refine ⟨List.nodup_append.2 ⟨h1, by simp, fun y hy z hz => ?_⟩, fun y => ?_⟩
  · simp at hz
    subst hz
    exact fun e => hxa (e ▸ hy)
  · rw [List.mem_append, h2, List.mem_singleton]
    constructor
    · rintro (⟨a1, a2⟩ | rfl)
      · exact ⟨by rw [a1]; rfl, a2⟩
      · exact ⟨by simp, p, hp, hn⟩
    · rintro ⟨a1, a2⟩
      by_cases hy : y = x
      · exact .inr hy
      · exact .inl ⟨by simpa [hy] using a1, a2⟩
theorem OutK.done {l : List Nd} {o : Int} {left : Int → Bool} {a : List Int} (h : OutK l o left a) (hl : ∀ x, left x = false) (hs : Uq l) : sortI a = kidsL l o := by
  unfold kidsL
  refine sortI_congr ?_
  refine (List.perm_ext_iff_of_nodup h.nd ?_).2 fun x => ?_
  · unfold List.Nodup
    rw [List.pairwise_map]
    exact List.Pairwise.filter _ hs
  · rw [h.mem, List.mem_map]
    constructor
    · rintro ⟨_, p, hp, ho⟩
      have := getN_mem hp
      exact ⟨p, List.mem_filter.2 ⟨this.1, by simpa using ho⟩, this.2⟩
    · rintro ⟨p, hp, rfl⟩
      rw [List.mem_filter] at hp
      exact ⟨hl _, p, getN_of_mem hs hp.1, by simpa using hp.2⟩
set_option maxHeartbeats 4000000 in
theorem kids_own (g b : Nat) (most : Int) (l : List Nd) (w : World) (k : Trs w g b most l) (o : Int) :
    Calls Try.prog 20 #[.pointer (some ⟨g, 0, none⟩), .int .i64 o] w (IntsOwn w (kidsL l o)) := by
  obtain ⟨i0, hi0, hz0, hz1, hz2⟩ := info_parts info_INT
  have HK := Lib.hid k
  have hfew := k.few
  have hgl := k.lt
  have c1 := Blk.cell k.blk 1
  simp at c1
  clear k
  go_enter Try.func20, Try.ntmps20
  go_wp2_with (first
    | (refine wpList_rangeV _ rfl (.tmp 14) _ rfl 3 60 Try.underlying3 Try.underlying52 b l.length _ rfl (by exact HK.out.map) ?_
       intro wR hR hgR hsR
       try simp only [Act.put, List.setIfInBounds_toArray, List.set_cons_zero, List.set_cons_succ]))
  have B1 : Below w.heap.size w wR := (Below.refl _ _).grown hgR (Nat.le_refl _) (by simp)
  have H1 := Lib.hid B1
  clear B1 hgR
  go_loopw [5] (fun s5 wr => ∃ (left : Int → Bool) (lc m c : Nat) (A : Option Addr) (a : List Int), s5 = .slice A m c ∧ a.length = m ∧ m + lc ≤ l.length ∧ wr.ownsRow wR.heap.size 3 1 (.slice A m c) m (nums a) ∧ RangeV Try.prog 3 wr b w.heap.size (fun x => (getN l x).map enN) l.length left lc ∧ OutK l o left a ∧ Below w.heap.size w wr ∧ wR.heap.size ≤ wr.heap.size) (fun _ wr => wr.rangeLeft b w.heap.size)
  case atStart => exact ⟨_, l.length, 0, 0, none, [], rfl, rfl, by omega, own_nil _ _ _ _, hR, OutK.start l o, H1.out, Nat.le_refl _⟩
  case round =>
    obtain ⟨left, lc, m, c, A, a, rfl, ha, hml, ho, hR2, hO, B3, hs3⟩ := hrel
    have HR := Lib.hid (And.intro hR2 (And.intro hO (And.intro ho ha)))
    have H3 := Lib.hid B3
    clear hR2 hO ho ha B3 hR
    go_wp2_with (first
      | (refine wpList_nextV _ enN rfl (.tmp 15) rfl 3 Try.underlying3 b w.heap.size l.length (getN l) left lc rfl (by exact HR.out.1) (fun hl0 hleft => ?_) (fun x t w4 lc4 hwf hlx hgx hR4 hlt4 hg4 hs4 hent => ?_)
         rotate_left
         have HS4 := Lib.hid (And.intro hs4 (And.intro hgx (And.intro hR4 hg4)))
         clear hs4 hgx hR4 hg4
         obtain ⟨tid, ton, twt⟩ := t
         by_cases hn : ton = o
         all_goals try simp only [Act.put, List.setIfInBounds_toArray, List.set_cons_zero, List.set_cons_succ])
      | (refine wpList_entryV _ rfl (.tmp 15) rfl rfl (by exact hent) ?_
         unfold enN
         try simp only [Act.put, List.setIfInBounds_toArray, List.set_cons_zero, List.set_cons_succ])
      | (at_builtin
         have ho4 : w4.ownsRow wR.heap.size 3 1 (.slice A m c) m (nums a) := own_only HR.out.2.2.1 ((Only.refl [w.heap.size] wr).grown HS4.out.2.2.2 (fun k hk => .inl (by simp at hk; simp [hk]))) (fun g' hg' => by have := ownBlock_ge HR.out.2.2.1 hg'; simp; omega)
         refine wpList_append_any _ rfl (.tmp 25) (.tmp 27) _ rfl wR.heap.size 3 i0 _ 1 8 Try.underlying46 hi0 hz0 hz1 hz2 rfl (by omega) (.slice A m c) m _ rfl ((ho4.alloc (.cells #[.int .i64 o, .int .i64 twt] 60)).alloc _) (w4.heap.size + 2) (some ⟨w4.heap.size + 1, 0, none⟩) 1 1 [.int .i64 x] rfl (by have := reads_num (w4.alloc (.cells #[.int .i64 o, .int .i64 twt] 60)) x; rw [World.size_alloc] at this; exact this) (by simp [Value.oneCell']) (by simp only [maxLen]; omega) (by omega) (by have := HS4.out.1; simp; omega) ?_
         intro v5 w5 ho5 hg5 hd5
         obtain ⟨A5, k5', rfl⟩ := slice_of_own' ho5
         have H5 := Lib.hid (And.intro ho4 (And.intro ho5 hg5))
         clear ho4 ho5 hg5 hd5
         try simp only [Act.put, List.setIfInBounds_toArray, List.set_cons_zero, List.set_cons_succ]))
    · have hs4 := HS4.out.1
      have hR4 := HS4.out.2.2.1
      have hg4 := HS4.out.2.2.2
      have hB3 := H3.out.size
      have b4 : Below w.heap.size wr w4 := (Below.refl _ _).grown hg4 (by omega) (fun k hk => by simp at hk; omega)
      have hge := fun {k : Nat} (hk : (Value.slice A m c).ownBlock = some k) => ownBlock_ge H5.out.1 hk
      have hg5 := H5.out.2.2
      have hne : ∀ k, k < wR.heap.size → some k ≠ (Value.slice A m c).ownBlock := fun k hk e => by have := hge e.symm; omega
      have r5 := ((hR4.alloc (.cells #[.int .i64 o, .int .i64 twt] 60)).alloc (.cells #[.int .i64 x] 3)).grown hg5 (hne _ (by omega)) (hne _ (by omega))
      have b5 : Below w.heap.size w w5 := (((H3.out.trans b4).alloc (by omega) (.cells #[.int .i64 o, .int .i64 twt] 60)).alloc (by simp; omega) (.cells #[.int .i64 x] 3)).grown hg5 (by simp; omega) (fun k hk => by have := hge hk; omega)
      have hs5 := hg5.size
      rw [World.size_alloc, World.size_alloc] at hs5
      have hlr := r5.left_eq
      have hlr2 := HR.out.1.left_eq
      have ho5 := H5.out.2.1
      have e1 : nums a ++ [.int .i64 x] = nums (a ++ [x]) := by rw [nums_append]; rfl
      rw [e1] at ho5
      go_roundw
      case rel => exact ⟨_, lc4, m + 1, k5', A5, a ++ [x], rfl, by rw [List.length_append, HR.out.2.2.2]; rfl, by omega, ho5, r5, HR.out.2.1.take hlx HS4.out.2.1 hn, b5, by omega⟩
      case measure => rw [hlr, hlr2]; exact hlt4
    · have hs4 := HS4.out.1
      have hR4 := HS4.out.2.2.1
      have hg4 := HS4.out.2.2.2
      have hB3 := H3.out.size
      have b4 : Below w.heap.size wr w4 := (Below.refl _ _).grown hg4 (by omega) (fun k hk => by simp at hk; omega)
      have ho4 : w4.ownsRow wR.heap.size 3 1 (.slice A m c) m (nums a) := own_only HR.out.2.2.1 ((Only.refl [w.heap.size] wr).grown HS4.out.2.2.2 (fun k hk => .inl (by simp at hk; simp [hk]))) (fun g' hg' => by have := ownBlock_ge HR.out.2.2.1 hg'; simp; omega)
      have ho5 := ho4.alloc (.cells #[.int .i64 ton, .int .i64 twt] 60)
      have r5 := hR4.alloc (.cells #[.int .i64 ton, .int .i64 twt] 60)
      have b5 := (H3.out.trans b4).alloc (by omega) (.cells #[.int .i64 ton, .int .i64 twt] 60)
      have hlr := r5.left_eq
      have hlr2 := HR.out.1.left_eq
      go_roundw
      case rel => exact ⟨_, lc4, m, c, A, a, rfl, HR.out.2.2.2, by omega, ho5, r5, HR.out.2.1.skip hlx HS4.out.2.1 hn, b5, by simp; omega⟩
      case measure => rw [hlr, hlr2]; exact hlt4
    · have hdone := HR.out.2.1.done hleft HK.out.uq
      have HS := Lib.hid (sort_any wR.heap.size wr A m c a HR.out.2.2.1 HR.out.2.2.2 (by omega) hs3)
      have hlen : (kidsL l o).length = m := by rw [← hdone, sortI_length]; exact HR.out.2.2.2
      refine HS.out.mono ?_
      rintro e w6 ⟨rfl, ho6, b6⟩
      have hb1 := H1.out.size
      rw [hdone] at ho6
      have HF := Lib.hid (And.intro ho6 (And.intro (H3.out.trans (b6.mono hb1)) hlen))
      clear ho6 b6 hlen HS hdone
      go_wp2_with fail
      go_ret
      exact ⟨A, c, by rw [HF.out.2.2]; rfl, by rw [HF.out.2.2]; exact own_base HF.out.1 (by have := H1.out.size; omega), HF.out.2.1⟩
theorem kids_any (g b : Nat) (most : Int) (l : List Nd) (w : World) (k : Trs w g b most l) (o : Int) :
    Calls Try.prog 20 #[.pointer (some ⟨g, 0, none⟩), .int .i64 o] w (IntsAre w (kidsL l o)) :=
  (kids_own g b most l w k o).mono fun _ _ ⟨A, c, h1, h2, h3⟩ => ⟨A, c, h1, Held.of_own h2, h3⟩
end Go.Proofs.Ytifgbnjpiphidaa
