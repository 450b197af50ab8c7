/- Moves in memory; the bounds of gathered sums. -/
import Derived.Test.YteokepnkgdhkkaaRows
import Derived.WalkKit
import Derived.ProofKit
import Derived.Handy
import Derived.Deep.QuietTactic
import Derived.BigQuiet
import Derived.Deep.RegionWith
import Derived.Deep.RegionHeld3
import Derived.Deep.AppendLies
import Derived.WalkLawsBesides
import Derived.WalkSmall
import Derived.Test.YteokepnkgdhkkaaTal2
namespace Go.Proofs.Yteokepnkgdhkkaa
open Go.RowKit
set_option linter.unusedVariables false
theorem plusL_bd {l : List Sm} {x : Sm} {M K : Int} (hM : 0 ≤ M) (hK : 0 ≤ K) (h : ∀ a ∈ l, a.bd M) (hx : x.bd K) : ∀ a ∈ plusL l x, a.bd (M + K) := by
  induction l with
  | nil =>
    intro a ha
    unfold plusL at ha
    rw [List.mem_singleton.1 ha]
    exact Sm.bd_mono hx (by omega)
  | cons p r ih =>
    intro a ha
    unfold plusL at ha
    have hp := h p (by simp)
    split at ha
    · rcases List.mem_cons.1 ha with e | e
      · rw [e]; exact Sm.bd_mono hp (by omega)
      · exact ih (fun b hb => h b (by simp [hb])) a e
    · split at ha
      · rcases List.mem_cons.1 ha with e | e
        · rw [e, Int.add_comm]; exact Sm.bd_add hx hp
        · exact Sm.bd_mono (h a (by simp [e])) (by omega)
      · rcases List.mem_cons.1 ha with e | e
        · rw [e]; exact Sm.bd_mono hx (by omega)
        · exact Sm.bd_mono (h a e) (by omega)
theorem gatherL_bd {l : List Sm} {K : Int} (hK : 0 ≤ K) (h : ∀ a ∈ l, a.bd K) : ∀ a ∈ gatherL l, a.bd (l.length * K) := by
  have : ∀ (r : List Sm) (acc : List Sm) (M : Int), 0 ≤ M → (∀ a ∈ r, a.bd K) → (∀ a ∈ acc, a.bd M) → ∀ a ∈ r.foldl plusL acc, a.bd (M + r.length * K) := by
    intro r
    induction r with
    | nil => intro acc M hM _ ha a hm; simpa using ha a hm
    | cons x r ih =>
      intro acc M hM hr ha a hm
      have := ih (plusL acc x) (M + K) (by omega) (fun b hb => hr b (by simp [hb])) (plusL_bd hM hK ha (hr x (by simp))) a hm
      rw [List.length_cons]
      have e : M + ((r.length + 1 : Nat) : Int) * K = M + K + r.length * K := by
        rw [Int.natCast_add, Int.add_mul]; omega
      rw [e]
      exact this
  have h2 := this l [] 0 (by omega) h (fun a ha => by cases ha)
  simpa [gatherL] using h2
theorem foldl_plus_length (r : List Sm) : ∀ acc : List Sm, (r.foldl plusL acc).length ≤ acc.length + r.length := by
  induction r with
  | nil => intro acc; simp
  | cons x r ih =>
    intro acc
    have := ih (plusL acc x)
    have h2 := @length_plus acc x
    rw [List.foldl_cons, List.length_cons]
    omega
theorem gatherL_length (l : List Sm) : (gatherL l).length ≤ l.length := by
  have := foldl_plus_length l []
  simpa [gatherL] using this
theorem gatherL_take (l : List Sm) (k : Nat) (hk : k < l.length) : gatherL (l.take (k + 1)) = plusL (gatherL (l.take k)) l[k] := by
  rw [List.take_succ_eq_append_getElem hk, gatherL_snoc]
def mv (m : Mv) : List Value := [.int .i64 m.wh, .int .i64 m.st, .int .i64 m.n, .string m.s, .bool m.e]
/-- The cells of a row of moves. -/
def mvs (l : List Mv) : List Value := l.flatMap mv
theorem mvs_nil : mvs [] = [] := rfl
theorem mvs_cons (x : Mv) (l : List Mv) : mvs (x :: l) = mv x ++ mvs l := rfl
theorem mvs_append (a b : List Mv) : mvs (a ++ b) = mvs a ++ mvs b := by simp [mvs]
theorem mvs_length (l : List Mv) : (mvs l).length = l.length * 5 := by
  induction l with
  | nil => rfl
  | cons x r ih => rw [mvs_cons, List.length_append, ih, List.length_cons, Nat.succ_mul, Nat.add_comm]; rfl
theorem mvs_take (l : List Mv) (k : Nat) : (mvs l).take (k * 5) = mvs (l.take k) := by
  induction l generalizing k with
  | nil => simp [mvs]
  | cons x r ih =>
    cases k with
    | zero => simp [mvs]
    | succ k =>
      rw [mvs_cons, List.take_succ_cons, mvs_cons, Nat.succ_mul, Nat.add_comm, List.take_append, List.take_of_length_le (by simp [mv])]
      rw [show 5 + k * 5 - (mv x).length = k * 5 by simp [mv], ih]
theorem mvs_drop (l : List Mv) (k : Nat) : (mvs l).drop (k * 5) = mvs (l.drop k) := by
  induction l generalizing k with
  | nil => simp [mvs]
  | cons x r ih =>
    cases k with
    | zero => simp
    | succ k =>
      rw [mvs_cons, List.drop_succ_cons, Nat.succ_mul, Nat.add_comm, List.drop_append, List.drop_of_length_le (by simp [mv]), List.nil_append]
      rw [show 5 + k * 5 - (mv x).length = k * 5 by simp [mv], ih]
theorem mvs_at (l : List Mv) (i : Nat) (hi : i < l.length) (j : Nat) (hj : j < 5) : (mvs l)[i * 5 + j]? = (mv l[i])[j]? := by
  have h := mvs_drop l i
  have e : (mvs l)[i * 5 + j]? = ((mvs l).drop (i * 5))[j]? := by rw [List.getElem?_drop]
  rw [e, h, List.drop_eq_getElem_cons hi, mvs_cons, List.getElem?_append_left (by simpa [mv] using hj)]
theorem mvs_one {l : List Mv} : ∀ u ∈ mvs l, u.oneCell' = true := by
  intro u hu
  unfold mvs at hu
  obtain ⟨x, _, hx⟩ := List.mem_flatMap.1 hu
  simp [mv] at hx
  rcases hx with rfl | rfl | rfl | rfl | rfl <;> rfl
/-- A slice that reads as the moves l, below B. -/
structure Mvs (w : World) (B : Nat) (A : Option Addr) (n cap : Nat) (l : List Mv) : Prop where
  reads : Reads w B 5 A n (mvs l)
  len : l.length = n
  cap_ge : n ≤ cap
  cap_le : cap ≤ 9223372036854775807
section
variable {w w' : World} {B B' n cap : Nat} {A : Option Addr} {l : List Mv}
theorem Mvs.nil_ (w : World) (B : Nat) : Mvs w B none 0 0 [] := ⟨Reads.none_, rfl, Nat.le_refl _, by omega⟩
theorem Mvs.below (h : Mvs w B A n cap l) (hb : Below B w w') : Mvs w' B A n cap l := ⟨h.reads.below hb, h.len, h.cap_ge, h.cap_le⟩
theorem Mvs.more (h : Mvs w B A n cap l) (hB : B ≤ B') : Mvs w B' A n cap l := ⟨h.reads.more hB, h.len, h.cap_ge, h.cap_le⟩
theorem Mvs.drewN (h : Mvs w B A n cap l) (k : Nat) : Mvs (w.drewN k) B A n cap l := ⟨h.reads, h.len, h.cap_ge, h.cap_le⟩
theorem Mvs.drew (h : Mvs w B A n cap l) : Mvs w.drew B A n cap l := ⟨h.reads, h.len, h.cap_ge, h.cap_le⟩
theorem Mvs.alloc (h : Mvs w B A n cap l) (hB : B ≤ w.heap.size) (o : Obj) : Mvs (w.alloc o) B A n cap l := ⟨h.reads.alloc hB o, h.len, h.cap_ge, h.cap_le⟩
theorem Mvs.setCell (h : Mvs w B A n cap l) {p : Addr} (hB : B ≤ p.block) (u : Value) : Mvs (w.setCell p u) B A n cap l := ⟨h.reads.setCell hB u, h.len, h.cap_ge, h.cap_le⟩
theorem Mvs.of_own {base c : Nat} (h : w.ownsRow base 45 5 (.slice A n c) n (mvs l)) : Mvs w w.heap.size A n c l := by
  have hl : l.length = n := by
    have h1 := h.1
    rw [mvs_length] at h1
    omega
  have hc := (Held.of_own h).2
  exact ⟨Reads.of_own h, hl, hc.1, hc.2.1⟩
theorem Mvs.cell_ (h : Mvs w B A n cap l) (i : Nat) (hi : i < l.length) : ∃ b off, A = some ⟨b, off, none⟩ ∧ b < B ∧ ∀ (j : Nat) (u : Value), j < 5 → (mv l[i])[j]? = some u → w.cell? ⟨b, off + i * 5 + j, none⟩ = some u := by
  have hn : 0 < n := by have := h.len; omega
  obtain ⟨ad, hA, hb, hc⟩ := h.reads.2 hn
  have hs : ad.spot = none := by
    have h0 := mvs_at l 0 (by omega) 0 (by omega)
    have := hc (0 * 5 + 0) _ (h0.trans rfl)
    have := spot_of_cell this
    simpa [Addr.add] using this
  obtain ⟨b, off, sp⟩ := ad
  simp only at hs
  subst hs
  refine ⟨b, off, hA, hb, fun j u hj hu => ?_⟩
  have := hc (i * 5 + j) u ((mvs_at l i hi j hj).trans hu)
  rw [add_plain_] at this
  rw [Nat.add_assoc]
  exact this
/-- The cells of element i. -/
theorem Mvs.at_ (h : Mvs w B A n cap l) (i : Nat) (hi : i < l.length) : ∃ b off, A = some ⟨b, off, none⟩ ∧ b < B ∧ w.cell? ⟨b, off + i * 5, none⟩ = some (.int .i64 l[i].wh) ∧ w.cell? ⟨b, off + i * 5 + 1, none⟩ = some (.int .i64 l[i].st) ∧ w.cell? ⟨b, off + i * 5 + 2, none⟩ = some (.int .i64 l[i].n) ∧ w.cell? ⟨b, off + i * 5 + 3, none⟩ = some (.string l[i].s) ∧ w.cell? ⟨b, off + i * 5 + 4, none⟩ = some (.bool l[i].e) := by
  obtain ⟨b, off, hA, hb, hc⟩ := h.cell_ i hi
  exact ⟨b, off, hA, hb, hc 0 _ (by omega) rfl, hc 1 _ (by omega) rfl, hc 2 _ (by omega) rfl, hc 3 _ (by omega) rfl, hc 4 _ (by omega) rfl⟩
theorem Mvs.cut (h : Mvs w B A n cap l) {k c : Nat} (hk : k ≤ n) (hc : k ≤ c) (hc2 : c ≤ 9223372036854775807) : Mvs w B A k c (l.take k) := by
  refine ⟨⟨by rw [mvs_length, List.length_take, h.len]; congr 1; omega, fun hk0 => ?_⟩, by rw [List.length_take, h.len]; omega, hc, hc2⟩
  obtain ⟨ad, hA, hb, hcell⟩ := h.reads.2 (by omega)
  refine ⟨ad, hA, hb, fun j u hu => hcell j u ?_⟩
  rw [← mvs_take, List.getElem?_take] at hu
  split at hu
  · exact hu
  · cases hu
end
/-- A law's row as what is read. -/
theorem reads_rows {w : World} {n cap sz : Nat} {A : Option Addr} {E : List Value → Prop} {C : Nat → List Value} (hz : 0 < sz)
    (h : ∀ i, i < n → E (C i) ∧ (C i).length = sz ∧ ∃ b off, A = some ⟨b, off, none⟩ ∧ b < w.heap.size ∧ ∀ (j : Nat) (u : Value), (C i)[j]? = some u → w.cell? ⟨b, off + i * sz + j, none⟩ = some u) :
    Reads w w.heap.size sz A n ((List.range n).flatMap C) := by
  have hl : ∀ k, k ≤ n → ((List.range k).flatMap C).length = k * sz := by
    intro k
    induction k with
    | zero => intro _; simp
    | succ k ih =>
      intro hk
      rw [List.range_succ, List.flatMap_append, List.length_append, ih (by omega), Nat.succ_mul]
      simp [(h k (by omega)).2.1]
  have hg : ∀ k, k ≤ n → ∀ j u, ((List.range k).flatMap C)[j]? = some u → ∃ i jj, i < k ∧ j = i * sz + jj ∧ (C i)[jj]? = some u := by
    intro k
    induction k with
    | zero => intro _ j u hu; simp at hu
    | succ k ih =>
      intro hk j u hu
      rw [List.range_succ, List.flatMap_append] at hu
      rcases Nat.lt_or_ge j (k * sz) with h1 | h1
      · rw [List.getElem?_append_left (by rw [hl k (by omega)]; exact h1)] at hu
        obtain ⟨i, jj, a, b, c⟩ := ih (by omega) j u hu
        exact ⟨i, jj, by omega, b, c⟩
      · rw [List.getElem?_append_right (by rw [hl k (by omega)]; exact h1), hl k (by omega)] at hu
        exact ⟨k, j - k * sz, by omega, by omega, by simpa using hu⟩
  refine ⟨hl n (Nat.le_refl _), fun hn => ?_⟩
  obtain ⟨_, _, b, off, hA, hb, _⟩ := h 0 hn
  refine ⟨⟨b, off, none⟩, hA, hb, fun j u hu => ?_⟩
  obtain ⟨i, jj, hi, rfl, hc⟩ := hg n (Nat.le_refl _) j u hu
  obtain ⟨_, _, b', off', hA', _, hcell⟩ := h i hi
  rw [hA] at hA'
  injection hA' with hA'
  injection hA' with e1 e2
  subst e1 e2
  rw [add_plain_, ← Nat.add_assoc]
  exact hcell jj u hc
theorem flatMap_range {α : Type} {C : Nat → List Value} {enc : α → List Value} {L : List α} {n : Nat} (hn : L.length = n) (h : ∀ (i : Nat) (hi : i < L.length), C i = enc L[i]) : (List.range n).flatMap C = L.flatMap enc := by
  subst hn
  have : ∀ k, (hk : k ≤ L.length) → (List.range k).flatMap C = (L.take k).flatMap enc := by
    intro k
    induction k with
    | zero => intro _; simp
    | succ k ih =>
      intro hk
      rw [List.range_succ, List.flatMap_append, ih (by omega), List.take_succ_eq_append_getElem (by omega), List.flatMap_append]
      congr 1
      simp [h k (by omega)]
  have h2 := this L.length (Nat.le_refl _)
  rwa [List.take_length] at h2
end Go.Proofs.Yteokepnkgdhkkaa
