/- The walks of package credit: the ledger, its find. -/
import Derived.Test.YtpbahmnlhckgbaaRows
import Derived.WalkKit
import Derived.ProofKit
import Derived.Handy
import Derived.Test.YtpbahmnlhckgbaaMem
import Derived.Test.YtpbahmnlhckgbaaLift
import Derived.Test.YtpbahmnlhckgbaaApp
import Derived.Test.YtpbahmnlhckgbaaReads
import Derived.Test.YtpbahmnlhckgbaaOrd
import Derived.Test.YtpbahmnlhckgbaaRow
import Derived.Test.YtpbahmnlhckgbaaIns7
import Derived.Test.YtpbahmnlhckgbaaWin
import Derived.Deep.QuietTactic
import Derived.BigQuiet
import Derived.Deep.RegionWith
import Derived.Deep.RegionHeld3
import Derived.Deep.AppendLies
import Derived.WalkLawsBesides
import Derived.WalkSmall
namespace Go.Proofs.Ytpbahmnlhckgbaa
open Go.RowKit
set_option linter.unusedVariables false

/-- A stream: its number, its window's block, how much is in it, how much was spent. -/
structure Ln where
  id : Int
  w : Nat
  n : Int
  sp : Int
def cell3 (x : Ln) : List Value := [.int .i64 x.id, .pointer (some ⟨x.w, 0, none⟩), .int .i64 x.sp]
def prl (l : List Ln) : List Value := l.flatMap cell3
theorem prl_length (l : List Ln) : (prl l).length = l.length * 3 := by
  induction l with
  | nil => rfl
  | cons x r ih => simp only [prl, List.flatMap_cons, List.length_append, List.length_cons] at *; rw [ih]; simp [cell3]; omega
theorem prl_one (l : List Ln) : ∀ u ∈ prl l, u.oneCell' = true := by
  intro u hu
  obtain ⟨x, _, hx⟩ := List.mem_flatMap.1 hu
  simp only [cell3, List.mem_cons, List.not_mem_nil, or_false] at hx
  rcases hx with rfl | rfl | rfl <;> rfl
theorem prl_append (a b : List Ln) : prl (a ++ b) = prl a ++ prl b := by simp [prl]
theorem prl_take (l : List Ln) (i : Nat) : (prl l).take (i * 3) = prl (l.take i) := by
  induction l generalizing i with
  | nil => simp [prl]
  | cons x r ih =>
    cases i with
    | zero => simp [prl]
    | succ i =>
      have e : (i + 1) * 3 = i * 3 + 3 := by omega
      rw [e, List.take_succ_cons]
      show (cell3 x ++ prl r).take _ = cell3 x ++ prl (r.take i)
      rw [List.take_append]
      have e3 : (cell3 x).length = 3 := rfl
      rw [e3, Nat.add_sub_cancel, ih, List.take_of_length_le (by rw [e3]; omega)]
theorem prl_drop (l : List Ln) (i : Nat) : (prl l).drop (i * 3) = prl (l.drop i) := by
  induction l generalizing i with
  | nil => simp [prl]
  | cons x r ih =>
    cases i with
    | zero => simp [prl]
    | succ i =>
      have e : (i + 1) * 3 = i * 3 + 3 := by omega
      rw [e, List.drop_succ_cons]
      show (cell3 x ++ prl r).drop _ = prl (r.drop i)
      rw [List.drop_append]
      have e3 : (cell3 x).length = 3 := rfl
      rw [e3, Nat.add_sub_cancel, ih, List.drop_of_length_le (by rw [e3]; omega), List.nil_append]
theorem prl_at (l : List Ln) (i : Nat) (h : i < l.length) : (prl l)[i * 3]? = some (.int .i64 l[i].id) ∧ (prl l)[i * 3 + 1]? = some (.pointer (some ⟨l[i].w, 0, none⟩)) ∧ (prl l)[i * 3 + 2]? = some (.int .i64 l[i].sp) := by
  have e := prl_drop l i
  rw [List.drop_eq_getElem_cons h] at e
  have h0 := congrArg (fun x => x[0]?) e
  have h1 := congrArg (fun x => x[1]?) e
  have h2 := congrArg (fun x => x[2]?) e
  simp only [List.getElem?_drop, Nat.add_zero] at h0 h1 h2
  exact ⟨h0, h1, h2⟩
/-- Rising numbers. -/
def Srt (l : List Ln) : Prop := ∀ (i j : Nat) (hi : i < l.length) (hj : j < l.length), i < j → l[i].id < l[j].id
/-- A ledger: its block g, the connection's window's block cw; its row a block of its own, from base on; the windows of the streams. -/
structure Led (base : Nat) (w : World) (g cw : Nat) (cn sp : Int) (A : Option Addr) (cap : Nat) (l : List Ln) (M : Int) : Prop where
  blk : Blk w g 54 #[.pointer (some ⟨cw, 0, none⟩), .int .i64 sp, .slice A l.length cap]
  own : w.ownsRow base 60 3 (.slice A l.length cap) l.length (prl l)
  con : Win w cw cn
  wins : ∀ x ∈ l, Win w x.w x.n ∧ base ≤ x.w ∧ x.w ≠ cw
  bds : ∀ x ∈ l, -2147483647 ≤ x.n ∧ x.n ≤ 2147483647 ∧ 0 ≤ x.sp ∧ x.sp ≤ M ∧ 1 ≤ x.id ∧ x.id ≤ 2147483647
  dis : (l.map (·.w)).Nodup
  srt : Srt l
  few : l.length ≤ 64
  cnb : -2147483647 ≤ cn ∧ cn ≤ 2147483647
  spb : 0 ≤ sp ∧ sp ≤ M
  mb : M ≤ 1000000000000000000
  bas : base ≤ g ∧ base ≤ cw
section
variable {base : Nat} {w w' : World} {g cw cap : Nat} {cn sp M : Int} {A : Option Addr} {l : List Ln}
theorem Led.lt (k : Led base w g cw cn sp A cap l M) : g < w.heap.size := Blk.lt k.blk
theorem Led.below (k : Led base w g cw cn sp A cap l M) (hb : Below w.heap.size w w') : Led base w' g cw cn sp A cap l M :=
  ⟨Blk.below k.blk hb (Blk.lt k.blk), own_below k.own hb (Nat.le_refl _), Blk.below k.con hb (Blk.lt k.con), fun x hx => ⟨Blk.below (k.wins x hx).1 hb (Blk.lt (k.wins x hx).1), (k.wins x hx).2⟩, k.bds, k.dis, k.srt, k.few, k.cnb, k.spb, k.mb, k.bas⟩
theorem Led.drewN (k : Led base w g cw cn sp A cap l M) (n : Nat) : Led base (w.drewN n) g cw cn sp A cap l M := k.below (below_drewN (Below.refl _ _) n)
theorem Led.alloc (k : Led base w g cw cn sp A cap l M) (o : Obj) : Led base (w.alloc o) g cw cn sp A cap l M := k.below ((Below.refl _ _).alloc (Nat.le_refl _) o)
theorem Led.ne (k : Led base w g cw cn sp A cap l M) : (Value.slice A l.length cap).ownBlock ≠ some g := own_blk_ne k.own k.blk (by decide)
theorem Led.capb (k : Led base w g cw cn sp A cap l M) : l.length ≤ cap ∧ cap ≤ 9223372036854775807 := by
  rcases k.own.2 with ⟨hx, h0⟩ | ⟨g, c, cur, hx, _, _, h1, h2, _⟩
  · injection hx with h1 h2 h3; omega
  · injection hx with _ _ h3; subst h3; exact ⟨h1, by unfold maxLen at h2; omega⟩
/-- Element i's cells. -/
theorem Led.cells (k : Led base w g cw cn sp A cap l M) (i : Nat) (hi : i < l.length) : ∃ gb, A = some ⟨gb, 0, none⟩ ∧ gb < w.heap.size ∧ w.cell? ⟨gb, i * 3, none⟩ = some (.int .i64 l[i].id) ∧ w.cell? ⟨gb, i * 3 + 1, none⟩ = some (.pointer (some ⟨l[i].w, 0, none⟩)) ∧ w.cell? ⟨gb, i * 3 + 2, none⟩ = some (.int .i64 l[i].sp) := by
  have hh := Held.of_own k.own
  obtain ⟨e0, e1, e2⟩ := prl_at l i hi
  obtain ⟨b, off, hA, hb, h0⟩ := hh.at_ e0
  obtain ⟨b', off', hA', hb', h1⟩ := hh.at_ e1
  obtain ⟨b'', off'', hA'', hb'', h2⟩ := hh.at_ e2
  rcases k.own.2 with ⟨hx, _⟩ | ⟨gb, c, cur, hx, _⟩
  · injection hx with h1; rw [h1] at hA; cases hA
  · injection hx with hx1
    rw [hx1] at hA hA' hA''
    injection hA with hA
    injection hA with hA1 hA2
    injection hA' with hA'
    injection hA' with hA1' hA2'
    injection hA'' with hA''
    injection hA'' with hA1'' hA2''
    subst hA1 hA2 hA1' hA2' hA1'' hA2''
    rw [Nat.zero_add] at h0 h1 h2
    exact ⟨gb, hx1, hb, h0, h1, h2⟩
end

def cmpI (a b : Int) : Int := if a < b then -1 else if b < a then 1 else 0
theorem cmpI_lt {a b : Int} (h : a < b) : cmpI a b = -1 := if_pos h
theorem cmpI_gt {a b : Int} (h : b < a) : cmpI a b = 1 := by unfold cmpI; rw [if_neg (by omega), if_pos h]
theorem cmpI_eq (a : Int) : cmpI a a = 0 := by unfold cmpI; rw [if_neg (by omega), if_neg (by omega)]
theorem isNaN_any (a : Int) (w : World) : Calls Try.prog 53 #[.int .i64 a] w fun e w' => e = .returned (.bool false) ∧ w = w' := by
  go_enter Try.func53, Try.ntmps53
  go_wp2_with fail
  go_ret
  exact ⟨rfl, rfl⟩
theorem compare_any (a b : Int) (w : World) : Calls Try.prog 44 #[.int .i64 a, .int .i64 b] w fun e w' => e = .returned (.int .i64 (cmpI a b)) ∧ w = w' := by
  rcases Int.lt_trichotomy a b with h | h | h
  · rw [cmpI_lt h]
    go_enter Try.func44, Try.ntmps44
    go_wp2_with (go_at_call 53; refine (isNaN_any _ _).mono ?_; rintro e w1 ⟨rfl, rfl⟩)
    go_ret
    exact ⟨rfl, rfl⟩
  · subst h
    rw [cmpI_eq]
    go_enter Try.func44, Try.ntmps44
    go_wp2_with (go_at_call 53; refine (isNaN_any _ _).mono ?_; rintro e w1 ⟨rfl, rfl⟩)
    go_ret
    exact ⟨rfl, rfl⟩
  · rw [cmpI_gt h]
    have h1 : ¬ a < b := by omega
    go_enter Try.func44, Try.ntmps44
    go_wp2_with (go_at_call 53; refine (isNaN_any _ _).mono ?_; rintro e w1 ⟨rfl, rfl⟩)
    go_ret
    exact ⟨rfl, rfl⟩
theorem cmp_any (a x s : Int) (p : Value) (w : World) : Calls Try.prog 43 #[.agg #[.int .i64 a, p, .int .i64 s], .int .i64 x] w fun e w' => e = .returned (.int .i64 (cmpI a x)) ∧ Below w.heap.size w w' := by
  go_enter Try.func43, Try.ntmps43
  go_wp2_with (go_at_call 44; refine (compare_any _ _ _).mono ?_; rintro e w1 ⟨rfl, rfl⟩)
  go_ret
  exact ⟨rfl, (Below.refl _ _).alloc (Nat.le_refl _) _⟩
end Go.Proofs.Ytpbahmnlhckgbaa
