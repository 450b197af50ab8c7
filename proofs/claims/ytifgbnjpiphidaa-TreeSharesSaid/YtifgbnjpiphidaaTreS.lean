/- Plain law of TreeShares: a node with so many below it, removed. -/
import Derived.Test.YtifgbnjpiphidaaTreP
namespace Go.Proofs.Ytifgbnjpiphidaa
set_option linter.unusedVariables false
def shL (w : Int) (v : Nat → Int) (k : Nat) : List Nd := ⟨1, 0, w⟩ :: (List.range k).map (fun i : Nat => (⟨(i : Int) + 2, 1, v i⟩ : Nd))
def psum (v : Nat → Int) (k : Nat) : Int := ((List.range k).map v).sum
theorem psum_zero (v : Nat → Int) : psum v 0 = 0 := rfl
theorem psum_succ (v : Nat → Int) (k : Nat) : psum v (k + 1) = psum v k + v k := by
  unfold psum
  rw [List.range_succ, List.map_append, List.sum_append]
  simp
theorem psum_ge (v : Nat → Int) (hv : ∀ i, 1 ≤ v i ∧ v i ≤ 256) (k : Nat) : (k : Int) ≤ psum v k ∧ psum v k ≤ 256 * k := by
  induction k with
  | zero => simp [psum_zero]
  | succ k ih => have := hv k; rw [psum_succ]; omega
theorem shL_one (w : Int) (v : Nat → Int) (k : Nat) : getN (shL w v k) 1 = some ⟨1, 0, w⟩ := by
  unfold shL
  rw [getN_cons, if_pos rfl]
theorem shL_uq (w : Int) (v : Nat → Int) (k : Nat) : Uq (shL w v k) := by
  unfold shL Uq
  refine List.pairwise_cons.2 ⟨fun p hp => ?_, ?_⟩
  · obtain ⟨i, hi, rfl⟩ := List.mem_map.1 hp
    show (1 : Int) ≠ (i : Int) + 2
    omega
  · rw [List.pairwise_map]
    have := List.nodup_range (n := k)
    exact this.imp fun {a b} h => by
      show (a : Int) + 2 ≠ (b : Int) + 2
      omega
theorem shL_at (w : Int) (v : Nat → Int) (k i : Nat) (hi : i < k) : getN (shL w v k) ((i : Int) + 2) = some ⟨(i : Int) + 2, 1, v i⟩ :=
  getN_of_mem (shL_uq w v k) (a := ⟨(i : Int) + 2, 1, v i⟩) (List.mem_cons_of_mem _ (List.mem_map.2 ⟨i, by simpa using hi, rfl⟩))
theorem shL_no (w : Int) (v : Nat → Int) (k : Nat) : getN (shL w v k) ((k : Int) + 2) = none := by
  refine getN_none.2 fun p hp => ?_
  rcases List.mem_cons.1 hp with rfl | hp
  · show (1 : Int) ≠ (k : Int) + 2
    omega
  · obtain ⟨i, hi, rfl⟩ := List.mem_map.1 hp
    have := List.mem_range.1 hi
    show (i : Int) + 2 ≠ (k : Int) + 2
    omega
theorem shL_length (w : Int) (v : Nat → Int) (k : Nat) : (shL w v k).length = k + 1 := by simp [shL]
theorem shL_start (w : Int) (v : Nat → Int) : layL [] 1 (knownL [] ⟨0, w, false⟩) = shL w v 0 := by simp [layL, knownL, putN, getN, shL]
theorem shL_more (w : Int) (v : Nat → Int) (k : Nat) : layL (shL w v k) ((k : Int) + 2) (knownL (shL w v k) ⟨1, v k, false⟩) = shL w v (k + 1) := by
  have e : knownL (shL w v k) ⟨1, v k, false⟩ = ⟨1, v k, false⟩ := by
    unfold knownL
    rw [if_neg]
    rintro ⟨_, h⟩
    simp only [shL_one] at h
    cases h
  rw [e]
  unfold layL putN
  simp only [Bool.false_eq_true, if_false, shL_no, Option.isSome_none]
  unfold shL
  rw [List.range_succ, List.map_append]
  rfl
theorem shL_all (w : Int) (v : Nat → Int) (k : Nat) : allW (shL w v k) 1 = psum v k := by
  unfold allW shL psum
  rw [List.filter_cons]
  simp only [show decide ((0 : Int) = 1) = false from rfl, Bool.false_eq_true, if_false]
  congr 1
  rw [List.filter_eq_self.2 (fun p hp => by
    obtain ⟨i, hi, rfl⟩ := List.mem_map.1 hp
    rfl), List.map_map]
  rfl
def shR (w : Int) (v : Nat → Int) (n : Nat) : List Nd := remL (shL w v n) 1 ⟨1, 0, w⟩
theorem shR_at (w : Int) (v : Nat → Int) (n i : Nat) (hi : i < n) : getN (shR w v n) ((i : Int) + 2) = some ⟨(i : Int) + 2, 0, shareI (v i) w (psum v n)⟩ := by
  have h := shL_at w v n i hi
  have hm := (mem_kids_of (shL_uq w v n) (getN_mem h).1).2 (show (1 : Int) = 1 from rfl)
  unfold shR remL
  rw [getN_drop, if_neg (by omega), getN_share, h, shL_all]
  simp only [Option.map_some]
  rw [if_pos hm]
theorem shR_length (w : Int) (v : Nat → Int) (n : Nat) : (shR w v n).length = n := by
  have h : ∃ p, getN (shareN (shL w v n) (kidsL (shL w v n) 1) ⟨1, 0, w⟩ (allW (shL w v n) 1)) 1 = some p := by
    rw [getN_share, shL_one]
    exact ⟨_, rfl⟩
  obtain ⟨p, hp⟩ := h
  unfold shR remL
  have hu : Uq (shareN (shL w v n) (kidsL (shL w v n) 1) ⟨1, 0, w⟩ (allW (shL w v n) 1)) := (shL_uq w v n).map _ (shareN_id _ _ _)
  rw [length_drop hu hp, length_share, shL_length]
  rfl
/-- What is gathered: so much, of which so many are 1. -/
def ShS (w : Int) (v : Nat → Int) (n k : Nat) (s t : Int) : Prop := 0 ≤ t ∧ t ≤ s ∧ s ≤ 256 * k ∧ psum v n * (s - t) ≤ w * psum v k
theorem ShS.start (w : Int) (v : Nat → Int) (n : Nat) : ShS w v n 0 0 0 := ⟨by omega, by omega, by simp, by simp [psum_zero]⟩
theorem psum_mono (v : Nat → Int) (hv : ∀ i, 1 ≤ v i ∧ v i ≤ 256) {k n : Nat} (h : k < n) : v k ≤ psum v n := by
  induction n with
  | zero => omega
  | succ n ih =>
    rw [psum_succ]
    have h1 := hv n
    have h2 := psum_ge v hv n
    rcases Nat.lt_or_ge k n with h3 | h3
    · have := ih h3; omega
    · obtain rfl : k = n := by omega
      omega
theorem ShS.one {w : Int} {v : Nat → Int} {n k : Nat} {s t : Int} (h : ShS w v n k s t) (hv : ∀ i, 1 ≤ v i ∧ v i ≤ 256) (hw : 1 ≤ w ∧ w ≤ 256) : ShS w v n (k + 1) (s + 1) (t + 1) := by
  obtain ⟨h1, h2, h3, h4⟩ := h
  refine ⟨by omega, by omega, by omega, ?_⟩
  rw [show s + 1 - (t + 1) = s - t by omega, psum_succ, Int.mul_add]
  have := hv k
  have h5 : 0 ≤ w * v k := Int.mul_nonneg (by omega) (by omega)
  omega
theorem ShS.more {w : Int} {v : Nat → Int} {n k : Nat} {s t : Int} (h : ShS w v n k s t) (hv : ∀ i, 1 ≤ v i ∧ v i ≤ 256) (hw : 1 ≤ w ∧ w ≤ 256) (hk : k < n) (hne : shareI (v k) w (psum v n) ≠ 1) : ShS w v n (k + 1) (s + shareI (v k) w (psum v n)) t := by
  obtain ⟨h1, h2, h3, h4⟩ := h
  have hb := share_bd (hv k).1 (psum_mono v hv hk) hw
  have e : shareI (v k) w (psum v n) = v k * w / psum v n := by
    unfold shareI at hne ⊢
    omega
  refine ⟨by omega, by omega, by omega, ?_⟩
  have h5 : psum v n * shareI (v k) w (psum v n) ≤ v k * w := by
    rw [e]
    exact Int.mul_ediv_self_le (by have := psum_ge v hv n; omega)
  rw [show s + shareI (v k) w (psum v n) - t = (s - t) + shareI (v k) w (psum v n) by omega, psum_succ, Int.mul_add, Int.mul_add, Int.mul_comm w (v k)]
  omega
theorem ShS.end_ {w : Int} {v : Nat → Int} {n : Nat} {s t : Int} (h : ShS w v n n s t) (hv : ∀ i, 1 ≤ v i ∧ v i ≤ 256) (hw : 1 ≤ w ∧ w ≤ 256) : s - t ≤ w := by
  obtain ⟨h1, h2, h3, h4⟩ := h
  have h5 := psum_ge v hv n
  rcases Nat.eq_zero_or_pos n with h0 | h0
  · subst h0
    simp at h3
    omega
  · rw [Int.mul_comm w] at h4
    exact Int.le_of_mul_le_mul_left h4 (by omega)
end Go.Proofs.Ytifgbnjpiphidaa
