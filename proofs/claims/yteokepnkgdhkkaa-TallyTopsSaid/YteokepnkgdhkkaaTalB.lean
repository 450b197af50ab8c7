/- Sums in memory: a sum's cells, a row of sums. -/
import Derived.Test.YteokepnkgdhkkaaRows
import Derived.WalkKit
import Derived.ProofKit
import Derived.Handy
import Derived.Test.YteokepnkgdhkkaaMem
import Derived.Test.YteokepnkgdhkkaaLift
import Derived.Test.YteokepnkgdhkkaaApp
import Derived.Test.YteokepnkgdhkkaaReads
import Derived.Test.YteokepnkgdhkkaaOrd
import Derived.Test.YteokepnkgdhkkaaMaps
import Derived.Test.YteokepnkgdhkkaaTalL
import Derived.Deep.QuietTactic
import Derived.BigQuiet
import Derived.Deep.RegionWith
import Derived.Deep.RegionHeld3
import Derived.Deep.AppendLies
import Derived.WalkLawsBesides
import Derived.WalkSmall
namespace Go.Proofs.Yteokepnkgdhkkaa
open Go.RowKit
set_option linter.unusedVariables false
/-- The cells of a sum. -/
def sv (a : Sm) : List Value := [.int .i64 a.st, .int .i64 a.se, .int .i64 a.ca, .int .i64 a.mo, .bool a.ou, .bool a.inn, .int .i64 a.op, .int .i64 a.dn]
def sa (a : Sm) : Array Value := #[.int .i64 a.st, .int .i64 a.se, .int .i64 a.ca, .int .i64 a.mo, .bool a.ou, .bool a.inn, .int .i64 a.op, .int .i64 a.dn]
theorem ret_cell8 {P : Program} {fn : Func} {R : Ending → World → Prop} {a : Act} {W : World} {p : Tmp} {ty t : TypeId} {g : Nat} {x : Sm} (h : fn.results = #[.cell p ty]) (hd : a.defers = [])
    (hp : a.tmps.getD p undef = .pointer (some ⟨g, 0, none⟩)) (hB : Blk W g t (sa x))
    (hl : ∀ W' : World, Blk W' g t (sa x) → (loadVar ty ⟨g, 0, none⟩).run P W' = .ok (.agg (sa x)) W')
    (hR : R (.returned (.agg (sa x))) W) : bodyPost P fn R .ret a W := by
  refine bodyPost_ret (v := .agg (sa x)) ?_ hd hR
  have hr : (results fn a.tmps).run P W = ((asAddr (a.tmps.getD p undef)).run P W).andThen fun a w₁ => (loadVar ty a).run P w₁ := by
    simp only [results, h]
    simp [Sem.run_bind, Result.andThen]
  rw [hr, hp]
  show (loadVar ty ⟨g, 0, none⟩).run P W = _
  exact hl W hB
def set8 (w : World) (g : Nat) (x : Sm) : World :=
  (((((((w.setCell ⟨g, 0, none⟩ (.int .i64 x.st)).setCell ⟨g, 1, none⟩ (.int .i64 x.se)).setCell ⟨g, 2, none⟩ (.int .i64 x.ca)).setCell ⟨g, 3, none⟩ (.int .i64 x.mo)).setCell ⟨g, 4, none⟩ (.bool x.ou)).setCell ⟨g, 5, none⟩ (.bool x.inn)).setCell ⟨g, 6, none⟩ (.int .i64 x.op)).setCell ⟨g, 7, none⟩ (.int .i64 x.dn)
theorem sa_set (z x : Sm) : ((((((((sa z).setIfInBounds 0 (.int .i64 x.st)).setIfInBounds 1 (.int .i64 x.se)).setIfInBounds 2 (.int .i64 x.ca)).setIfInBounds 3 (.int .i64 x.mo)).setIfInBounds 4 (.bool x.ou)).setIfInBounds 5 (.bool x.inn)).setIfInBounds 6 (.int .i64 x.op)).setIfInBounds 7 (.int .i64 x.dn) = sa x := by
  unfold sa
  simp only [List.setIfInBounds_toArray, List.set_cons_zero, List.set_cons_succ]
theorem Blk.set8 {w : World} {g : Nat} {t : TypeId} {z : Sm} (h : Blk w g t (sa z)) (x : Sm) : Blk (set8 w g x) g t (sa x) := by
  rw [← sa_set z x]
  exact Blk.set_ (Blk.set_ (Blk.set_ (Blk.set_ (Blk.set_ (Blk.set_ (Blk.set_ (Blk.set_ h 0 _) 1 _) 2 _) 3 _) 4 _) 5 _) 6 _) 7 _
theorem below_set8 {B : Nat} {w0 w : World} {g : Nat} (k : Below B w0 w) (hg : B ≤ g) (x : Sm) : Below B w0 (set8 w g x) :=
  (((((((k.setCell (p := ⟨g, 0, none⟩) hg _).setCell (p := ⟨g, 1, none⟩) hg _).setCell (p := ⟨g, 2, none⟩) hg _).setCell (p := ⟨g, 3, none⟩) hg _).setCell (p := ⟨g, 4, none⟩) hg _).setCell (p := ⟨g, 5, none⟩) hg _).setCell (p := ⟨g, 6, none⟩) hg _).setCell (p := ⟨g, 7, none⟩) hg _
theorem load8 {t : TypeId} {g : Nat} {x : Sm} (W' : World) (hW' : Blk W' g t (sa x)) : (loadVar 33 ⟨g, 0, none⟩).run Try.prog W' = .ok (.agg (sa x)) W' := by
  have q0 := Blk.cell hW' 0
  have q1 := Blk.cell hW' 1
  have q2 := Blk.cell hW' 2
  have q3 := Blk.cell hW' 3
  have q4 := Blk.cell hW' 4
  have q5 := Blk.cell hW' 5
  have q6 := Blk.cell hW' 6
  have q7 := Blk.cell hW' 7
  simp [sa] at q0 q1 q2 q3 q4 q5 q6 q7
  simp [go_sem, sa, q0, q1, q2, q3, q4, q5, q6, q7]
/-- The cells of a row of sums. -/
def svs (l : List Sm) : List Value := l.flatMap sv
theorem svs_nil : svs [] = [] := rfl
theorem svs_cons (x : Sm) (l : List Sm) : svs (x :: l) = sv x ++ svs l := rfl
theorem svs_append (a b : List Sm) : svs (a ++ b) = svs a ++ svs b := by simp [svs]
theorem svs_length (l : List Sm) : (svs l).length = l.length * 8 := by
  induction l with
  | nil => rfl
  | cons x r ih => rw [svs_cons, List.length_append, ih, List.length_cons, Nat.succ_mul, Nat.add_comm]; rfl
theorem svs_take (l : List Sm) (k : Nat) : (svs l).take (k * 8) = svs (l.take k) := by
  induction l generalizing k with
  | nil => simp [svs]
  | cons x r ih =>
    cases k with
    | zero => simp [svs]
    | succ k =>
      rw [svs_cons, List.take_succ_cons, svs_cons, Nat.succ_mul, Nat.add_comm, List.take_append, List.take_of_length_le (by simp [sv])]
      rw [show 8 + k * 8 - (sv x).length = k * 8 by simp [sv], ih]
theorem svs_drop (l : List Sm) (k : Nat) : (svs l).drop (k * 8) = svs (l.drop k) := by
  induction l generalizing k with
  | nil => simp [svs]
  | cons x r ih =>
    cases k with
    | zero => simp
    | succ k =>
      rw [svs_cons, List.drop_succ_cons, Nat.succ_mul, Nat.add_comm, List.drop_append, List.drop_of_length_le (by simp [sv]), List.nil_append]
      rw [show 8 + k * 8 - (sv x).length = k * 8 by simp [sv], ih]
theorem svs_at (l : List Sm) (i : Nat) (hi : i < l.length) (j : Nat) (hj : j < 8) : (svs l)[i * 8 + j]? = (sv l[i])[j]? := by
  have h := svs_drop l i
  have e : (svs l)[i * 8 + j]? = ((svs l).drop (i * 8))[j]? := by rw [List.getElem?_drop]
  rw [e, h, List.drop_eq_getElem_cons hi, svs_cons, List.getElem?_append_left (by simpa [sv] using hj)]
theorem svs_one {l : List Sm} : ∀ u ∈ svs l, u.oneCell' = true := by
  intro u hu
  unfold svs at hu
  obtain ⟨x, _, hx⟩ := List.mem_flatMap.1 hu
  simp [sv] at hx
  rcases hx with rfl | rfl | rfl | rfl | rfl | rfl | rfl | rfl <;> rfl
/-- A slice that reads as the sums l, below B. -/
structure Sms (w : World) (B : Nat) (A : Option Addr) (n cap : Nat) (l : List Sm) : Prop where
  reads : Reads w B 8 A n (svs l)
  len : l.length = n
  cap_ge : n ≤ cap
  cap_le : cap ≤ 9223372036854775807
section
variable {w w' : World} {B B' n cap : Nat} {A : Option Addr} {l : List Sm}
theorem Sms.nil_ (w : World) (B : Nat) : Sms w B none 0 0 [] := ⟨Reads.none_, rfl, Nat.le_refl _, by omega⟩
theorem Sms.below (h : Sms w B A n cap l) (hb : Below B w w') : Sms w' B A n cap l := ⟨h.reads.below hb, h.len, h.cap_ge, h.cap_le⟩
theorem Sms.more (h : Sms w B A n cap l) (hB : B ≤ B') : Sms w B' A n cap l := ⟨h.reads.more hB, h.len, h.cap_ge, h.cap_le⟩
theorem Sms.drewN (h : Sms w B A n cap l) (k : Nat) : Sms (w.drewN k) B A n cap l := ⟨h.reads, h.len, h.cap_ge, h.cap_le⟩
theorem Sms.drew (h : Sms w B A n cap l) : Sms w.drew B A n cap l := ⟨h.reads, h.len, h.cap_ge, h.cap_le⟩
theorem Sms.alloc (h : Sms w B A n cap l) (hB : B ≤ w.heap.size) (o : Obj) : Sms (w.alloc o) B A n cap l := ⟨h.reads.alloc hB o, h.len, h.cap_ge, h.cap_le⟩
theorem Sms.setCell (h : Sms w B A n cap l) {p : Addr} (hB : B ≤ p.block) (u : Value) : Sms (w.setCell p u) B A n cap l := ⟨h.reads.setCell hB u, h.len, h.cap_ge, h.cap_le⟩
theorem Sms.of_own {base c : Nat} (h : w.ownsRow base 33 8 (.slice A n c) n (svs l)) : Sms w w.heap.size A n c l := by
  have hl : l.length = n := by
    have h1 := h.1
    rw [svs_length] at h1
    omega
  have hc := (Held.of_own h).2
  exact ⟨Reads.of_own h, hl, hc.1, hc.2.1⟩
theorem Sms.cell_ (h : Sms w B A n cap l) (i : Nat) (hi : i < l.length) : ∃ b off, A = some ⟨b, off, none⟩ ∧ b < B ∧ ∀ (j : Nat) (u : Value), j < 8 → (sv l[i])[j]? = some u → w.cell? ⟨b, off + i * 8 + j, none⟩ = some u := by
  have hn : 0 < n := by have := h.len; omega
  obtain ⟨ad, hA, hb, hc⟩ := h.reads.2 hn
  have hs : ad.spot = none := by
    have h0 := svs_at l 0 (by omega) 0 (by omega)
    have := hc (0 * 8 + 0) _ (h0.trans rfl)
    have := spot_of_cell this
    simpa [Addr.add] using this
  obtain ⟨b, off, sp⟩ := ad
  simp only at hs
  subst hs
  refine ⟨b, off, hA, hb, fun j u hj hu => ?_⟩
  have := hc (i * 8 + j) u ((svs_at l i hi j hj).trans hu)
  rw [add_plain_] at this
  rw [Nat.add_assoc]
  exact this
/-- The eight cells of element i. -/
theorem Sms.at_ (h : Sms w B A n cap l) (i : Nat) (hi : i < l.length) : ∃ b off, A = some ⟨b, off, none⟩ ∧ b < B ∧ w.cell? ⟨b, off + i * 8, none⟩ = some (.int .i64 l[i].st) ∧ w.cell? ⟨b, off + i * 8 + 1, none⟩ = some (.int .i64 l[i].se) ∧ w.cell? ⟨b, off + i * 8 + 2, none⟩ = some (.int .i64 l[i].ca) ∧ w.cell? ⟨b, off + i * 8 + 3, none⟩ = some (.int .i64 l[i].mo) ∧
      w.cell? ⟨b, off + i * 8 + 4, none⟩ = some (.bool l[i].ou) ∧ w.cell? ⟨b, off + i * 8 + 5, none⟩ = some (.bool l[i].inn) ∧ w.cell? ⟨b, off + i * 8 + 6, none⟩ = some (.int .i64 l[i].op) ∧ w.cell? ⟨b, off + i * 8 + 7, none⟩ = some (.int .i64 l[i].dn) := by
  obtain ⟨b, off, hA, hb, hc⟩ := h.cell_ i hi
  exact ⟨b, off, hA, hb, hc 0 _ (by omega) rfl, hc 1 _ (by omega) rfl, hc 2 _ (by omega) rfl, hc 3 _ (by omega) rfl, hc 4 _ (by omega) rfl, hc 5 _ (by omega) rfl, hc 6 _ (by omega) rfl, hc 7 _ (by omega) rfl⟩
theorem Sms.cut (h : Sms w B A n cap l) {k c : Nat} (hk : k ≤ n) (hc : k ≤ c) (hc2 : c ≤ 9223372036854775807) : Sms w B A k c (l.take k) := by
  refine ⟨⟨by rw [svs_length, List.length_take, h.len]; congr 1; omega, fun hk0 => ?_⟩, by rw [List.length_take, h.len]; omega, hc, hc2⟩
  obtain ⟨ad, hA, hb, hcell⟩ := h.reads.2 (by omega)
  refine ⟨ad, hA, hb, fun j u hu => hcell j u ?_⟩
  rw [← svs_take, List.getElem?_take] at hu
  split at hu
  · exact hu
  · cases hu
end
def SumsAre (w : World) (l : List Sm) (e : Ending) (w' : World) : Prop :=
  ∃ A c, e = .returned (.slice A l.length c) ∧ Sms w' w'.heap.size A l.length c l ∧ Below w.heap.size w w'
end Go.Proofs.Yteokepnkgdhkkaa
