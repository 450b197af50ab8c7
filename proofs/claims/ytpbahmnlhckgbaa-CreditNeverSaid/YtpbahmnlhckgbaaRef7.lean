/- The walks of the answer's ledger. -/
import Derived.Test.YtpbahmnlhckgbaaCred7
import Derived.Test.YtpbahmnlhckgbaaCut
import Derived.Deep.QuietTactic
import Derived.BigQuiet
import Derived.Deep.RegionWith
import Derived.Deep.RegionHeld3
import Derived.WalkLawsBesides
import Derived.WalkSmall
namespace Go.Proofs.Ytpbahmnlhckgbaa
open Go.RowKit
set_option linter.unusedVariables false
theorem info_RE : (Try.prog.info? 68).map (fun i => (i.zero, i.size, i.bytes)) = some (some (.agg #[.int .i64 0, .int .i64 0, .int .i64 0]), 3, 24) := by kernel_rfl
def cellq (x : Ln) : List Value := [.int .i64 x.id, .int .i64 x.n, .int .i64 x.sp]
def prq (l : List Ln) : List Value := l.flatMap cellq
theorem prq_length (l : List Ln) : (prq l).length = l.length * 3 := by
  induction l with
  | nil => rfl
  | cons x r ih => simp only [prq, List.flatMap_cons, List.length_append, List.length_cons] at *; rw [ih]; simp [cellq]; omega
theorem prq_one (l : List Ln) : ∀ u ∈ prq l, u.oneCell' = true := by
  intro u hu
  obtain ⟨x, _, hx⟩ := List.mem_flatMap.1 hu
  simp only [cellq, List.mem_cons, List.not_mem_nil, or_false] at hx
  rcases hx with rfl | rfl | rfl <;> rfl
theorem prq_append (a b : List Ln) : prq (a ++ b) = prq a ++ prq b := by simp [prq]
theorem prq_take (l : List Ln) (i : Nat) : (prq l).take (i * 3) = prq (l.take i) := by
  induction l generalizing i with
  | nil => simp [prq]
  | cons x r ih =>
    cases i with
    | zero => simp [prq]
    | succ i =>
      have e : (i + 1) * 3 = i * 3 + 3 := by omega
      rw [e, List.take_succ_cons]
      show (cellq x ++ prq r).take _ = cellq x ++ prq (r.take i)
      rw [List.take_append]
      have e3 : (cellq x).length = 3 := rfl
      rw [e3, Nat.add_sub_cancel, ih, List.take_of_length_le (by rw [e3]; omega)]
theorem prq_drop (l : List Ln) (i : Nat) : (prq l).drop (i * 3) = prq (l.drop i) := by
  induction l generalizing i with
  | nil => simp [prq]
  | cons x r ih =>
    cases i with
    | zero => simp [prq]
    | succ i =>
      have e : (i + 1) * 3 = i * 3 + 3 := by omega
      rw [e, List.drop_succ_cons]
      show (cellq x ++ prq r).drop _ = prq (r.drop i)
      rw [List.drop_append]
      have e3 : (cellq x).length = 3 := rfl
      rw [e3, Nat.add_sub_cancel, ih, List.drop_of_length_le (by rw [e3]; omega), List.nil_append]
theorem prq_at (l : List Ln) (i : Nat) (h : i < l.length) : (prq l)[i * 3]? = some (.int .i64 l[i].id) ∧ (prq l)[i * 3 + 1]? = some (.int .i64 l[i].n) ∧ (prq l)[i * 3 + 2]? = some (.int .i64 l[i].sp) := by
  have e := prq_drop l i
  rw [List.drop_eq_getElem_cons h] at e
  have h0 := congrArg (fun x => x[0]?) e
  have h1 := congrArg (fun x => x[1]?) e
  have h2 := congrArg (fun x => x[2]?) e
  simp only [List.getElem?_drop, Nat.add_zero] at h0 h1 h2
  exact ⟨h0, h1, h2⟩
/-- The answer's ledger: its block h; its row. -/
structure Ref (base : Nat) (w : World) (h : Nat) (cn sp : Int) (B : Option Addr) (c : Nat) (l : List Ln) : Prop where
  blk : Blk w h 41 #[.int .i64 cn, .int .i64 sp, .slice B l.length c]
  row : Held w 68 3 B l.length c (prq l)
  few : l.length ≤ 64
  bas : base ≤ h
section
variable {base : Nat} {w w' : World} {h c : Nat} {cn sp : Int} {B : Option Addr} {l : List Ln}
theorem Ref.lt (k : Ref base w h cn sp B c l) : h < w.heap.size := Blk.lt k.blk
theorem Ref.below (k : Ref base w h cn sp B c l) (hb : Below w.heap.size w w') : Ref base w' h cn sp B c l := ⟨Blk.below k.blk hb k.lt, k.row.below hb, k.few, k.bas⟩
theorem Ref.drewN (k : Ref base w h cn sp B c l) (n : Nat) : Ref base (w.drewN n) h cn sp B c l := k.below (below_drewN (Below.refl _ _) n)
theorem Ref.alloc (k : Ref base w h cn sp B c l) (o : Obj) : Ref base (w.alloc o) h cn sp B c l := k.below ((Below.refl _ _).alloc (Nat.le_refl _) o)
theorem Ref.still (k : Ref base w h cn sp B c l) (s : Still w w') : Ref base w' h cn sp B c l := ⟨s.blk k.blk (by decide) (by decide) (by decide), s.held k.row (by decide) (by decide) (by decide), k.few, k.bas⟩
theorem Ref.capb (k : Ref base w h cn sp B c l) : l.length ≤ c ∧ c ≤ 9223372036854775807 := ⟨k.row.2.1, k.row.2.2.1⟩
theorem Ref.cells (k : Ref base w h cn sp B c l) (i : Nat) (hi : i < l.length) : ∃ b off, B = some ⟨b, off, none⟩ ∧ b < w.heap.size ∧ w.cell? ⟨b, off + i * 3, none⟩ = some (.int .i64 l[i].id) ∧ w.cell? ⟨b, off + i * 3 + 1, none⟩ = some (.int .i64 l[i].n) ∧ w.cell? ⟨b, off + i * 3 + 2, none⟩ = some (.int .i64 l[i].sp) := by
  obtain ⟨e0, e1, e2⟩ := prq_at l i hi
  obtain ⟨b, off, hA, hb, h0⟩ := k.row.at_ e0
  obtain ⟨b', off', hA', hb', h1⟩ := k.row.at_ e1
  obtain ⟨b'', off'', hA'', hb'', h2⟩ := k.row.at_ e2
  rw [hA] at hA' hA''
  injection hA' with hA'
  injection hA' with e1 e2
  injection hA'' with hA''
  injection hA'' with e3 e4
  subst e1 e2 e3 e4
  exact ⟨b, off, hA, hb, h0, by rw [Nat.add_assoc]; exact h1, by rw [Nat.add_assoc]; exact h2⟩
/-- A ledger stands while the answer's block is written. -/
theorem Led.ref {g cw cap : Nat} {M cn' sp' : Int} {A : Option Addr} {l' : List Ln} (k : Led base w g cw cn' sp' A cap l' M) {cs : Array Value} (hb : Blk w h 41 cs) (o : Only [h] w w') : Led base w' g cw cn' sp' A cap l' M := by
  have ne : ∀ {b : Nat} {t : TypeId} {cs : Array Value}, Blk w b t cs → t ≠ 41 → b ∉ [h] := fun hx ht hm => by
    simp at hm
    subst hm
    unfold Blk at hx hb
    rw [hx] at hb
    injection hb with hb
    injection hb with _ hb
    exact ht hb
  exact ⟨Blk.only k.blk o (ne k.blk (by decide)), own_only k.own o (fun z hz => by simp; rintro rfl; exact own_blk_ne k.own hb (by decide) hz), Blk.only k.con o (ne k.con (by decide)), fun x hx => ⟨Blk.only (k.wins x hx).1 o (ne (k.wins x hx).1 (by decide)), (k.wins x hx).2⟩, k.bds, k.dis, k.srt, k.few, k.cnb, k.spb, k.mb, k.bas⟩
end
section
variable (base h c : Nat) (cn sp x : Int) (B : Option Addr) (l : List Ln) (w : World) (k : Ref base w h cn sp B c l)
include k
theorem rfind_no (hn : ∀ (j : Nat) (hj : j < l.length), l[j].id ≠ x) : Calls Try.prog 38 #[.pointer (some ⟨h, 0, none⟩), .int .i64 x] w fun e w' => e = .returned (.int .i64 (-1)) ∧ w = w' := by
  have hlen := k.few
  have HK := Lib.hid k
  have HN := Lib.hid hn
  have hcap := k.capb
  have c2 := Blk.cell k.blk 2
  simp at c2
  clear k hn
  go_enter Try.func38, Try.ntmps38
  go_wp2_with fail
  go_loop [5] (fun iv => ∃ j : Nat, j ≤ l.length ∧ iv = .int .i64 j) (fun i => l.length - (intOf i).toNat)
  case atStart => exact ⟨0, by omega, rfl⟩
  case round =>
    obtain ⟨j, hj, rfl⟩ := hrel
    by_cases hlt : j < l.length
    · obtain ⟨b, off, hB, _, c0, _, _⟩ := HK.out.cells j hlt
      have hne : (l[j].id == x) = false := by rw [beq_eq_false_iff_ne]; exact HN.out j hlt
      have hj0 : (0 : Int) ≤ j := by omega
      have hj1 : (j : Int) < l.length := by omega
      generalize l[j].id = y at *
      subst hB
      go_wp2_with fail
      go_round
      case rel => exact ⟨j + 1, by omega, by go_num⟩
      case measure => simp [intOf]; omega
    · obtain rfl : j = l.length := by omega
      go_wp2_with fail
      go_ret
      exact ⟨rfl, rfl⟩
theorem rfind_at (i : Nat) (hi : i < l.length) (hs : Srt l) : Calls Try.prog 38 #[.pointer (some ⟨h, 0, none⟩), .int .i64 l[i].id] w fun e w' => e = .returned (.int .i64 (i : Nat)) ∧ w = w' := by
  have hlen := k.few
  have HK := Lib.hid k
  have hcap := k.capb
  have c2 := Blk.cell k.blk 2
  have HS := Lib.hid (fun (j : Nat) (hj : j < l.length) (hji : j < i) => hs j i hj hi hji)
  simp at c2
  have HI := Lib.hid (fun (j : Nat) (hj : j < l.length) (e : j = i) => show l[j].id = l[i].id by subst e; rfl)
  clear k hs
  generalize l[i].id = x at *
  go_enter Try.func38, Try.ntmps38
  go_wp2_with fail
  go_loop [5] (fun iv => ∃ j : Nat, j ≤ i ∧ iv = .int .i64 j) (fun iv => i - (intOf iv).toNat)
  case atStart => exact ⟨0, by omega, rfl⟩
  case round =>
    obtain ⟨j, hj, rfl⟩ := hrel
    have hlt : j < l.length := by omega
    obtain ⟨b, off, hB, _, c0, _, _⟩ := HK.out.cells j hlt
    have hj0 : (0 : Int) ≤ j := by omega
    have hj1 : (j : Int) < l.length := by omega
    rcases Nat.lt_or_ge j i with hji | hji
    · have hne : (l[j].id == x) = false := by rw [beq_eq_false_iff_ne]; have := HS.out j hlt hji; omega
      generalize l[j].id = y at *
      subst hB
      go_wp2_with fail
      go_round
      case rel => exact ⟨j + 1, by omega, by go_num⟩
      case measure => simp [intOf]; omega
    · obtain rfl : j = i := by omega
      rw [HI.out j hlt rfl] at c0
      subst hB
      go_wp2_with fail
      go_ret
      exact ⟨rfl, rfl⟩
theorem rfree_no (hn : ∀ (j : Nat) (hj : j < l.length), l[j].id ≠ x) : Calls Try.prog 37 #[.pointer (some ⟨h, 0, none⟩), .int .i64 x] w fun e w' => e = .returned (.int .i64 0) ∧ w = w' := by
  have HF := Lib.hid (rfind_no base h c cn sp x B l w k hn)
  clear k hn
  go_enter Try.func37, Try.ntmps37
  go_wp2_with fail
  refine HF.out.mono ?_
  rintro e w1 ⟨rfl, rfl⟩
  go_wp2_with fail
  go_ret
  exact ⟨rfl, rfl⟩
end
theorem low_any (a b : Int) (w : World) : Calls Try.prog 52 #[.int .i64 a, .int .i64 b] w fun e w' => e = .returned (.int .i64 (min a b)) ∧ w = w' := by
  by_cases h : a < b
  · have e : min a b = a := by omega
    rw [e]
    go_enter Try.func52, Try.ntmps52
    go_wp2_with fail
    go_ret
    exact ⟨rfl, rfl⟩
  · have e : min a b = b := by omega
    rw [e]
    go_enter Try.func52, Try.ntmps52
    go_wp2_with fail
    go_ret
    exact ⟨rfl, rfl⟩
theorem high_any (a b : Int) (w : World) : Calls Try.prog 51 #[.int .i64 a, .int .i64 b] w fun e w' => e = .returned (.int .i64 (max a b)) ∧ w = w' := by
  by_cases h : b < a
  · have e : max a b = a := by omega
    rw [e]
    go_enter Try.func51, Try.ntmps51
    go_wp2_with fail
    go_ret
    exact ⟨rfl, rfl⟩
  · have e : max a b = b := by omega
    rw [e]
    go_enter Try.func51, Try.ntmps51
    go_wp2_with fail
    go_ret
    exact ⟨rfl, rfl⟩
theorem right_any (n : Int) (w : World) : Calls Try.prog 14 #[.int .i64 n] w fun e w' => e = .returned (.bool (decide (0 ≤ n ∧ n ≤ 2147483647))) ∧ w = w' := by
  by_cases h1 : 0 ≤ n
  · by_cases h2 : n ≤ 2147483647
    · have e : decide (0 ≤ n ∧ n ≤ 2147483647) = true := by simp [h1, h2]
      rw [e]
      go_enter Try.func14, Try.ntmps14
      go_wp2_with fail
      go_ret
      exact ⟨rfl, rfl⟩
    · have e : decide (0 ≤ n ∧ n ≤ 2147483647) = false := by simp [h2]
      rw [e]
      clear e
      go_enter Try.func14, Try.ntmps14
      go_wp2_with fail
      go_ret
      exact ⟨rfl, rfl⟩
  · have e : decide (0 ≤ n ∧ n ≤ 2147483647) = false := by simp [h1]
    rw [e]
    clear e
    go_enter Try.func14, Try.ntmps14
    go_wp2_with fail
    go_ret
    exact ⟨rfl, rfl⟩
theorem right_yes (n : Int) (w : World) (h1 : 0 ≤ n) (h2 : n ≤ 2147483647) : Calls Try.prog 14 #[.int .i64 n] w fun e w' => e = .returned (.bool true) ∧ w = w' := by
  have h := right_any n w
  rwa [show decide (0 ≤ n ∧ n ≤ 2147483647) = true by simp [h1, h2]] at h
theorem right_no (n : Int) (w : World) (h1 : n < 0 ∨ 2147483647 < n) : Calls Try.prog 14 #[.int .i64 n] w fun e w' => e = .returned (.bool false) ∧ w = w' := by
  have h := right_any n w
  rwa [show decide (0 ≤ n ∧ n ≤ 2147483647) = false by simp; omega] at h
end Go.Proofs.Ytpbahmnlhckgbaa
