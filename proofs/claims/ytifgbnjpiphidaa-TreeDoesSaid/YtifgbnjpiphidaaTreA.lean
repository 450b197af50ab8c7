/- The walks of the answer's tree: its rows, Find, May, set. -/
import Derived.Test.YtifgbnjpiphidaaTre9
import Derived.Test.YtifgbnjpiphidaaCut
import Derived.Deep.QuietTactic
import Derived.BigQuiet
import Derived.Deep.RegionWith
import Derived.Deep.RegionHeld3
import Derived.WalkLawsBesides
import Derived.WalkSmall
namespace Go.Proofs.Ytifgbnjpiphidaa
open Go.RowKit
set_option linter.unusedVariables false
theorem info_RE : (Try.prog.info? 63).map (fun i => (i.zero, i.size, i.bytes)) = some (some (.agg #[.int .i64 0, .int .i64 0, .int .i64 0]), 3, 24) := by kernel_rfl
def cellq (x : Nd) : List Value := [.int .i64 x.id, .int .i64 x.on, .int .i64 x.wt]
def prq (l : List Nd) : List Value := l.flatMap cellq
theorem prq_length (l : List Nd) : (prq l).length = l.length * 3 := by
  induction l with
  | nil => rfl
  | cons x r ih => simp only [prq, List.flatMap_cons, List.length_append, List.length_cons] at *; rw [ih]; simp [cellq]; omega
theorem prq_one (l : List Nd) : ∀ u ∈ prq l, u.oneCell' = true := by
  intro u hu
  obtain ⟨x, _, hx⟩ := List.mem_flatMap.1 hu
  simp only [cellq, List.mem_cons, List.not_mem_nil, or_false] at hx
  rcases hx with rfl | rfl | rfl <;> rfl
theorem prq_append (a b : List Nd) : prq (a ++ b) = prq a ++ prq b := by simp [prq]
theorem prq_take (l : List Nd) (i : Nat) : (prq l).take (i * 3) = prq (l.take i) := by
  induction l generalizing i with
  | nil => simp [prq]
  | cons x r ih =>
    cases i with
    | zero => simp [prq]
    | succ i =>
      have e : (i + 1) * 3 = i * 3 + 3 := by omega
      rw [e, List.take_succ_cons]
      show (cellq x ++ prq r).take _ = cellq x ++ prq (r.take i)
      rw [List.take_append]
      have e3 : (cellq x).length = 3 := rfl
      rw [e3, Nat.add_sub_cancel, ih, List.take_of_length_le (by rw [e3]; omega)]
theorem prq_drop (l : List Nd) (i : Nat) : (prq l).drop (i * 3) = prq (l.drop i) := by
  induction l generalizing i with
  | nil => simp [prq]
  | cons x r ih =>
    cases i with
    | zero => simp [prq]
    | succ i =>
      have e : (i + 1) * 3 = i * 3 + 3 := by omega
      rw [e, List.drop_succ_cons]
      show (cellq x ++ prq r).drop _ = prq (r.drop i)
      rw [List.drop_append]
      have e3 : (cellq x).length = 3 := rfl
      rw [e3, Nat.add_sub_cancel, ih, List.drop_of_length_le (by rw [e3]; omega), List.nil_append]
theorem prq_at (l : List Nd) (i : Nat) (h : i < l.length) : (prq l)[i * 3]? = some (.int .i64 l[i].id) ∧ (prq l)[i * 3 + 1]? = some (.int .i64 l[i].on) ∧ (prq l)[i * 3 + 2]? = some (.int .i64 l[i].wt) := by
  have e := prq_drop l i
  rw [List.drop_eq_getElem_cons h] at e
  have h0 := congrArg (fun x => x[0]?) e
  have h1 := congrArg (fun x => x[1]?) e
  have h2 := congrArg (fun x => x[2]?) e
  simp only [List.getElem?_drop, Nat.add_zero] at h0 h1 h2
  exact ⟨h0, h1, h2⟩
/-- The answer's tree: its block h; its row. -/
structure Rt (w : World) (h : Nat) (B : Option Addr) (c : Nat) (l : List Nd) : Prop where
  blk : Blk w h 39 #[.slice B l.length c]
  row : Held w 63 3 B l.length c (prq l)
  few : l.length ≤ 257
section
variable {w w' : World} {h c : Nat} {B : Option Addr} {l : List Nd}
theorem Rt.lt (k : Rt w h B c l) : h < w.heap.size := Blk.lt k.blk
theorem Rt.below (k : Rt w h B c l) (hb : Below w.heap.size w w') : Rt w' h B c l := ⟨Blk.below k.blk hb k.lt, k.row.below hb, k.few⟩
theorem Rt.drewN (k : Rt w h B c l) (n : Nat) : Rt (w.drewN n) h B c l := k.below (below_drewN (Below.refl _ _) n)
theorem Rt.alloc (k : Rt w h B c l) (o : Obj) : Rt (w.alloc o) h B c l := k.below ((Below.refl _ _).alloc (Nat.le_refl _) o)
theorem Rt.capb (k : Rt w h B c l) : l.length ≤ c ∧ c ≤ 9223372036854775807 := ⟨k.row.2.1, k.row.2.2.1⟩
theorem held_cells {A : Option Addr} {n : Nat} (k : Held w 63 3 A n c (prq l)) (i : Nat) (hi : i < l.length) : ∃ b off, A = some ⟨b, off, none⟩ ∧ b < w.heap.size ∧ w.cell? ⟨b, off + i * 3, none⟩ = some (.int .i64 l[i].id) ∧ w.cell? ⟨b, off + i * 3 + 1, none⟩ = some (.int .i64 l[i].on) ∧ w.cell? ⟨b, off + i * 3 + 2, none⟩ = some (.int .i64 l[i].wt) := by
  obtain ⟨e0, e1, e2⟩ := prq_at l i hi
  obtain ⟨b, off, hA, hb, h0⟩ := k.at_ e0
  obtain ⟨b', off', hA', hb', h1⟩ := k.at_ e1
  obtain ⟨b'', off'', hA'', hb'', h2⟩ := k.at_ e2
  rw [hA] at hA' hA''
  injection hA' with hA'
  injection hA' with e1 e2
  injection hA'' with hA''
  injection hA'' with e3 e4
  subst e1 e2 e3 e4
  exact ⟨b, off, hA, hb, h0, by rw [Nat.add_assoc]; exact h1, by rw [Nat.add_assoc]; exact h2⟩
theorem Rt.cells (k : Rt w h B c l) (i : Nat) (hi : i < l.length) : ∃ b off, B = some ⟨b, off, none⟩ ∧ b < w.heap.size ∧ w.cell? ⟨b, off + i * 3, none⟩ = some (.int .i64 l[i].id) ∧ w.cell? ⟨b, off + i * 3 + 1, none⟩ = some (.int .i64 l[i].on) ∧ w.cell? ⟨b, off + i * 3 + 2, none⟩ = some (.int .i64 l[i].wt) := held_cells k.row i hi
end
section
variable (h c : Nat) (x : Int) (B : Option Addr) (l : List Nd) (w : World) (k : Rt w h B c l)
include k
theorem rfind_no (hn0 : getN l x = none) : Calls Try.prog 35 #[.pointer (some ⟨h, 0, none⟩), .int .i64 x] w fun e w' => e = .returned (.int .i64 (-1)) ∧ w = w' := by
  have hn : ∀ (j : Nat) (hj : j < l.length), l[j].id ≠ x := fun j hj => getN_none.1 hn0 _ (List.getElem_mem hj)
  clear hn0
  have hlen := k.few
  have HK := Lib.hid k
  have HN := Lib.hid hn
  have hcap := k.capb
  have c2 := Blk.cell k.blk 0
  simp at c2
  clear k hn
  go_enter Try.func35, Try.ntmps35
  go_wp2_with fail
  go_loop [5] (fun iv => ∃ j : Nat, j ≤ l.length ∧ iv = .int .i64 j) (fun i => l.length - (intOf i).toNat)
  case atStart => exact ⟨0, by omega, rfl⟩
  case round =>
    obtain ⟨j, hj, rfl⟩ := hrel
    by_cases hlt : j < l.length
    · obtain ⟨b, off, hB, _, c0, _, _⟩ := HK.out.cells j hlt
      have hne : (l[j].id == x) = false := by rw [beq_eq_false_iff_ne]; exact HN.out j hlt
      have hj0 : (0 : Int) ≤ j := by omega
      have hj1 : (j : Int) < l.length := by omega
      generalize l[j].id = y at *
      subst hB
      go_wp2_with fail
      go_round
      case rel => exact ⟨j + 1, by omega, by go_num⟩
      case measure => simp [intOf]; omega
    · obtain rfl : j = l.length := by omega
      go_wp2_with fail
      go_ret
      exact ⟨rfl, rfl⟩
theorem rfind_at (i : Nat) (hi : i < l.length) (hs : Uq l) : Calls Try.prog 35 #[.pointer (some ⟨h, 0, none⟩), .int .i64 l[i].id] w fun e w' => e = .returned (.int .i64 (i : Nat)) ∧ w = w' := by
  have hlen := k.few
  have HK := Lib.hid k
  have hcap := k.capb
  have c2 := Blk.cell k.blk 0
  have HS := Lib.hid (fun (j : Nat) (hj : j < l.length) (hji : j < i) => List.pairwise_iff_getElem.1 hs j i hj hi hji)
  simp at c2
  have HI := Lib.hid (fun (j : Nat) (hj : j < l.length) (e : j = i) => show l[j].id = l[i].id by subst e; rfl)
  clear k hs
  generalize l[i].id = x at *
  go_enter Try.func35, Try.ntmps35
  go_wp2_with fail
  go_loop [5] (fun iv => ∃ j : Nat, j ≤ i ∧ iv = .int .i64 j) (fun iv => i - (intOf iv).toNat)
  case atStart => exact ⟨0, by omega, rfl⟩
  case round =>
    obtain ⟨j, hj, rfl⟩ := hrel
    have hlt : j < l.length := by omega
    obtain ⟨b, off, hB, _, c0, _, _⟩ := HK.out.cells j hlt
    have hj0 : (0 : Int) ≤ j := by omega
    have hj1 : (j : Int) < l.length := by omega
    rcases Nat.lt_or_ge j i with hji | hji
    · have hne : (l[j].id == x) = false := by rw [beq_eq_false_iff_ne]; exact HS.out j hlt hji
      generalize l[j].id = y at *
      subst hB
      go_wp2_with fail
      go_round
      case rel => exact ⟨j + 1, by omega, by go_num⟩
      case measure => simp [intOf]; omega
    · obtain rfl : j = i := by omega
      rw [HI.out j hlt rfl] at c0
      subst hB
      go_wp2_with fail
      go_ret
      exact ⟨rfl, rfl⟩
end
/-- What Find tells. -/
def FndE (l : List Nd) (x : Int) (w : World) (e : Ending) (w' : World) : Prop := ∃ f : Int, e = .returned (.int .i64 f) ∧ w = w' ∧ ((f = -1 ∧ getN l x = none) ∨ ∃ (i : Nat) (hi : i < l.length), f = i ∧ getN l x = some l[i])
theorem rfind_any (h c : Nat) (x : Int) (B : Option Addr) (l : List Nd) (w : World) (k : Rt w h B c l) (hu : Uq l) : Calls Try.prog 35 #[.pointer (some ⟨h, 0, none⟩), .int .i64 x] w (FndE l x w) := by
  cases hg : getN l x with
  | none => exact (rfind_no h c x B l w k hg).mono fun _ _ ⟨he, hw⟩ => ⟨_, he, hw, .inl ⟨rfl, hg⟩⟩
  | some p =>
    have hm := getN_mem hg
    obtain ⟨i, hi, hp⟩ := List.getElem_of_mem hm.1
    rw [← hm.2, ← hp]
    exact (rfind_at h c B l w k i hi hu).mono fun _ _ ⟨he, hw⟩ => ⟨_, he, hw, .inr ⟨i, hi, rfl, by rw [getN_of_mem hu (List.getElem_mem hi)]⟩⟩
def RowIs (w : World) (l : List Nd) (e : Ending) (w' : World) : Prop := ∃ B c, e = .returned (.slice B l.length c) ∧ Held w' 63 3 B l.length c (prq l) ∧ Below w.heap.size w w'
theorem prq_chg {x n s : Int} : ∀ (l : List Nd) (i : Nat) (h : i < l.length), prq (l.set i ⟨x, n, s⟩) = (((prq l).set (i * 3) (.int .i64 x)).set (i * 3 + 1) (.int .i64 n)).set (i * 3 + 2) (.int .i64 s)
  | [], i, h => absurd h (by simp)
  | y :: r, 0, _ => rfl
  | y :: r, i + 1, h => by
    have ih := prq_chg (x := x) (n := n) (s := s) r i (by simpa using h)
    have e0 : (i + 1) * 3 = i * 3 + 3 := by omega
    have e1 : (i + 1) * 3 + 1 = (i * 3 + 1) + 3 := by omega
    have e2 : (i + 1) * 3 + 2 = (i * 3 + 2) + 3 := by omega
    rw [e2, e1, e0]
    show cellq y ++ prq (r.set i ⟨x, n, s⟩) = _
    rw [ih]
    rfl
set_option maxHeartbeats 1000000 in
theorem set_any (B : Option Addr) (c i : Nat) (x n s : Int) (l : List Nd) (w : World) (h : Held w 63 3 B l.length c (prq l)) (hf : l.length ≤ 257) (hi : i < l.length) :
    Calls Try.prog 42 #[.slice B l.length c, .int .i64 i, .agg #[.int .i64 x, .int .i64 n, .int .i64 s]] w (RowIs w (l.set i ⟨x, n, s⟩)) := by
  obtain ⟨i0, hi0, hz0, hz1, hz2⟩ := info_parts info_RE
  have hc := h.2.1
  have hc2 := h.2.2.1
  have HR := Lib.hid ((reads_of_held h).alloc (Nat.le_refl _) (.cells #[.int .i64 x, .int .i64 n, .int .i64 s] 63))
  have HBX := Lib.hid (Blk.new w 63 #[.int .i64 x, .int .i64 n, .int .i64 s])
  have HB0 := Lib.hid ((Below.refl w.heap.size w).alloc (Nat.le_refl _) (.cells #[.int .i64 x, .int .i64 n, .int .i64 s] 63))
  have hi0' : (0 : Int) ≤ i := by omega
  have hi1 : (i : Int) < l.length := by omega
  clear h
  go_enter Try.func42, Try.ntmps42
  go_upto_region 1 with fail
  generalize w.alloc (.cells #[.int .i64 x, .int .i64 n, .int .i64 s] 63) = W at *
  have hWs := HB0.out.size
  have hWl := Blk.lt HBX.out
  go_wp2_with (first
    | (at_builtin
       refine wpList_append_any _ rfl (.tmp 8) (.tmp 9) _ rfl W.heap.size 63 i0 _ 3 24 Try.underlying37 hi0 hz0 hz1 hz2 rfl (by omega) (.slice (some ⟨W.heap.size, 0, none⟩) 0 0) 0 [] rfl (own_empty (Blk.new W 63 #[]) (Nat.le_refl _)) w.heap.size B l.length c _ rfl (HR.out.alloc hWs _) (prq_one _) (by simp only [maxLen]; omega) (by simp; omega) (by simp) ?_
       intro v1 w1 hn1 hg1 hd1
       obtain ⟨A1, k1, rfl⟩ := slice_of_own' hn1
       rw [Nat.zero_add, List.nil_append] at hn1
       have b1 : Below W.heap.size W w1 := ((Below.refl _ _).alloc (Nat.le_refl _) _).grown hg1 (by simp) (fun k hk => by simp [Value.ownBlock] at hk; omega)
       have bx := Blk.below HBX.out b1 hWl
       have x0 := Blk.cell bx 0
       have x1 := Blk.cell bx 1
       have x2 := Blk.cell bx 2
       simp at x0 x1 x2
       have H1 := Lib.hid (And.intro hn1 (HB0.out.trans (b1.mono hWs)))
       obtain ⟨gb, k', cur, hgA, hkk, hgb, hcur, hnk, hkm, hsz, htk⟩ : ∃ gb k' cur, A1 = some ⟨gb, 0, none⟩ ∧ k' = k1 ∧ W.heap.size ≤ gb ∧ w1.heap[gb]? = some (.cells cur 63 (0, 0)) ∧ l.length ≤ k' ∧ k' ≤ maxLen ∧ cur.size = k' * 3 ∧ cur.toList.take (l.length * 3) = prq l := by
         rcases hn1.2 with ⟨hv, h0⟩ | ⟨g, c, cur, hv, hg, hh, h1, h2, h3, h4⟩
         · omega
         · injection hv with e1 e2 e3
           exact ⟨g, c, cur, e1, e3.symm, hg, hh, h1, h2, h3, h4⟩
       subst hgA
       have HC := Lib.hid (And.intro hcur (And.intro hsz htk))
       have cb : Blk w1 gb 63 cur := hcur
       have g0 := Blk.frozen cb (i * 3)
       have g1 := Blk.frozen cb (i * 3 + 1)
       have g2 := Blk.frozen cb (i * 3 + 2)
       obtain ⟨u0, y0⟩ : ∃ u, w1.cell? ⟨gb, i * 3, none⟩ = some u := ⟨_, (Blk.cell cb (i * 3)).trans (Array.getElem?_eq_getElem (by omega))⟩
       obtain ⟨u1, y1⟩ : ∃ u, w1.cell? ⟨gb, i * 3 + 1, none⟩ = some u := ⟨_, (Blk.cell cb (i * 3 + 1)).trans (Array.getElem?_eq_getElem (by omega))⟩
       obtain ⟨u2, y2⟩ : ∃ u, w1.cell? ⟨gb, i * 3 + 2, none⟩ = some u := ⟨_, (Blk.cell cb (i * 3 + 2)).trans (Array.getElem?_eq_getElem (by omega))⟩
       subst hkk
       have hk3 : k' ≤ 9223372036854775807 := by unfold maxLen at hkm; omega
       clear hn1 hg1 hd1 b1 bx cb hcur hsz htk))
  go_ret
  have st := (((H1.out.1.stored (i * 3) (.int .i64 x)).1.stored (i * 3 + 1) (.int .i64 n)).1.stored (i * 3 + 2) (.int .i64 s)).1
  rw [← prq_chg l i hi] at st
  have hb := ((H1.out.2.setCell (p := ⟨gb, i * 3, none⟩) (by simp; omega) (.int .i64 x)).setCell (p := ⟨gb, i * 3 + 1, none⟩) (by simp; omega) (.int .i64 n)).setCell (p := ⟨gb, i * 3 + 2, none⟩) (by simp; omega) (.int .i64 s)
  refine ⟨some ⟨gb, 0, none⟩, k', by rw [List.length_set]; rfl, ?_, hb⟩
  rw [List.length_set]
  exact Held.of_own st
theorem may_ref (d : Dp) (w : World) : Calls Try.prog 36 #[.agg (da d)] w fun e w' => e = .returned (.bool (mayB d)) ∧ Below w.heap.size w w' := by
  obtain ⟨on, wt, ex⟩ := d
  have B1 : Hid (Below w.heap.size w (w.alloc (.cells #[.int .i64 on, .int .i64 wt, .bool ex] 30))) := (Below.refl _ _).alloc (Nat.le_refl _) _
  unfold da
  by_cases h1 : 0 ≤ on
  · by_cases h2 : on ≤ 2147483647
    · by_cases h3 : 1 ≤ wt
      · by_cases h4 : wt ≤ 256
        · rw [show mayB ⟨on, wt, ex⟩ = true from decide_eq_true ⟨h1, h2, h3, h4⟩]
          go_enter Try.func36, Try.ntmps36
          go_wp2_with fail
          go_ret
          exact ⟨rfl, B1.out⟩
        · rw [show mayB ⟨on, wt, ex⟩ = false from decide_eq_false (fun h => h4 h.2.2.2)]
          go_enter Try.func36, Try.ntmps36
          go_wp2_with fail
          go_ret
          exact ⟨rfl, B1.out⟩
      · rw [show mayB ⟨on, wt, ex⟩ = false from decide_eq_false (fun h => h3 h.2.2.1)]
        go_enter Try.func36, Try.ntmps36
        go_wp2_with fail
        go_ret
        exact ⟨rfl, B1.out⟩
    · rw [show mayB ⟨on, wt, ex⟩ = false from decide_eq_false (fun h => h2 h.2.1)]
      go_enter Try.func36, Try.ntmps36
      go_wp2_with fail
      go_ret
      exact ⟨rfl, B1.out⟩
  · rw [show mayB ⟨on, wt, ex⟩ = false from decide_eq_false (fun h => h1 h.1)]
    go_enter Try.func36, Try.ntmps36
    go_wp2_with fail
    go_ret
    exact ⟨rfl, B1.out⟩
end Go.Proofs.Ytifgbnjpiphidaa
