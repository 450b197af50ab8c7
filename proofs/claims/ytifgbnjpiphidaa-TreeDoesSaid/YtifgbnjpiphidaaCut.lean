/- s[k:] and s[:k] of a slice that reads as a list: one equation of the run, whatever the capacity. -/
import Derived.WalkKit
import Derived.ProofKit
import Derived.Test.YtifgbnjpiphidaaMem
import Derived.Test.YtifgbnjpiphidaaApp
import Derived.Test.YtifgbnjpiphidaaReads
namespace Go.Proofs.Ytifgbnjpiphidaa
open Go.RowKit
theorem reads_of_held {w : World} {e : TypeId} {sz n c : Nat} {A : Option Addr} {xs : List Value} (h : Held w e sz A n c xs) : Reads w w.heap.size sz A n xs := by
  refine ⟨h.1, fun hn => ?_⟩
  obtain ⟨b, off, cur, hA, hb, hc⟩ := h.2.2.2.2 hn
  exact ⟨⟨b, off, none⟩, hA, lt_of_blk hb, h.cells_ _ hA⟩
theorem held_upTo {w : World} {e : TypeId} {sz n k m : Nat} {A : Option Addr} {xs : List Value} (h : Held w e sz A n k xs) (hm : m ≤ n) : Held w e sz A m k (xs.take (m * sz)) :=
  ⟨by rw [List.length_take, h.1, Nat.min_eq_left (Nat.mul_le_mul_right _ hm)], by have := h.2.1; omega, h.2.2.1, fun hA => by have := h.2.2.2.1 hA; omega, fun hp => by
    obtain ⟨b, off, cur, hA, hb, hc⟩ := h.2.2.2.2 (by omega)
    exact ⟨b, off, cur, hA, hb, fun j u hu => hc j u (by rw [List.getElem?_take] at hu; split at hu; exact hu; cases hu)⟩⟩
theorem held_upFrom {w : World} {e : TypeId} {sz n k m b off : Nat} {xs : List Value} (h : Held w e sz (some ⟨b, off, none⟩) n k xs) (hm : m ≤ n) : Held w e sz (if k = m then some ⟨b, off, none⟩ else some ⟨b, off + m * sz, none⟩) (n - m) (k - m) (xs.drop (m * sz)) := by
  obtain ⟨h1, h2, h3, h4, h5⟩ := h
  refine ⟨by rw [List.length_drop, h1, Nat.sub_mul], by omega, by omega, fun hA => (by split at hA <;> cases hA), fun hp => ?_⟩
  obtain ⟨b', off', cur, hA, hb, hc⟩ := h5 (by omega)
  injection hA with hA
  injection hA with hA1 hA2
  subst hA1 hA2
  rw [if_neg (by omega)]
  refine ⟨b, off + m * sz, cur, rfl, hb, fun j u hu => ?_⟩
  rw [Nat.add_assoc]
  exact hc _ u (by rw [List.getElem?_drop] at hu; exact hu)
theorem run_from {P : Program} {T e : TypeId} {sz : Nat} (ht : P.underlying T = some (.slice e)) (hs : (P.info? e).map (·.size) = some sz) (A : Option Addr) (n c m : Nat) (hm : m ≤ n) (hnc : n ≤ c) :
    ∃ X : Option Addr, (∀ W : World, (Instr.sliceAt T (.slice A n c) (some (.int .i64 m)) none none).run P W = .ok (.slice X (n - m) (c - m)) W) ∧ ∀ (w : World) (xs : List Value), Held w e sz A n c xs → Held w e sz X (n - m) (c - m) (xs.drop (m * sz)) := by
  have he : P.elem T = e := by simp [Program.elem, ht]
  have ht' : P.underlying T = some (.slice (P.elem T)) := by rw [he]; exact ht
  have hz : ∀ W : World, (sizeOf (P.elem T)).run P W = .ok sz W := fun W => by
    rw [he]
    cases hq : P.info? e with
    | none => simp [hq] at hs
    | some i =>
      have hi : i.size = sz := by simpa [hq] using hs
      simp [sizeOf, typeInfo, hq, hi]
  refine ⟨if c = m then A else A.map (·.add (m * sz)), fun W => ?_, fun w xs h => ?_⟩
  · rw [run_sliceAt_slice W T _ _ _ _ ht', run_slice_l W T A n c ht' .i64 m (by omega) (by omega), hz]
    simp [Result.andThen, sliced]
  · by_cases h0 : n - m = 0
    · refine ⟨by rw [List.length_drop, h.1, Nat.sub_mul], by omega, by have := h.2.2.1; omega, fun hA => ?_, fun hp => absurd hp (by omega)⟩
      cases A with
      | none => have := h.2.2.2.1 rfl; omega
      | some a => split at hA <;> cases hA
    · obtain ⟨b, off, cur, rfl, hb, hc⟩ := h.2.2.2.2 (by omega)
      have hh := held_upFrom h hm
      have ea : (some (⟨b, off, none⟩ : Addr)).map (·.add (m * sz)) = some ⟨b, off + m * sz, none⟩ := by
        simp only [Option.map_some, Addr.add]
        split
        · next e => rw [e]; rfl
        · rfl
      rw [ea]
      exact hh
theorem run_upto {P : Program} {T e : TypeId} {sz : Nat} (ht : P.underlying T = some (.slice e)) (hs : (P.info? e).map (·.size) = some sz) (A : Option Addr) (n c m : Nat) (hm : m ≤ c) (W : World) :
    (Instr.sliceAt T (.slice A n c) none (some (.int .i64 m)) none).run P W = .ok (.slice A m c) W := by
  have he : P.elem T = e := by simp [Program.elem, ht]
  have ht' : P.underlying T = some (.slice (P.elem T)) := by rw [he]; exact ht
  have hz : (sizeOf (P.elem T)).run P W = .ok sz W := by
    rw [he]
    cases hq : P.info? e with
    | none => simp [hq] at hs
    | some i =>
      have hi : i.size = sz := by simpa [hq] using hs
      simp [sizeOf, typeInfo, hq, hi]
  rw [run_sliceAt_slice W T _ _ _ _ ht', run_slice_h W T A n c ht' .i64 m (by omega) (by omega), hz]
  simp only [Result.andThen, sliced, Int.toNat_natCast, Nat.sub_zero, Nat.zero_mul]
  have e0 : A.map (·.add 0) = A := by
    cases A with
    | none => rfl
    | some a =>
      obtain ⟨b, o, s⟩ := a
      simp only [Option.map_some, Addr.add]
      split <;> simp_all
  rw [e0]
  split <;> rfl
end Go.Proofs.Ytifgbnjpiphidaa
