/- The walks of package queue: the laws' arguments. -/
import Derived.Test.YtlncapddimehiaaRows
import Derived.WalkKit
import Derived.ProofKit
import Derived.Handy
import Derived.Test.YtlncapddimehiaaMem
import Derived.Test.YtlncapddimehiaaLift
import Derived.Test.YtlncapddimehiaaApp
import Derived.Test.YtlncapddimehiaaReads
import Derived.Test.YtlncapddimehiaaOrd
import Derived.Test.YtlncapddimehiaaQueue
import Derived.Test.YtlncapddimehiaaQueue2
import Derived.Test.YtlncapddimehiaaQueue3
import Derived.Test.YtlncapddimehiaaQueue4
import Derived.Test.YtlncapddimehiaaQueue5
import Derived.Deep.QuietTactic
import Derived.BigQuiet
import Derived.Deep.RegionWith
import Derived.Deep.RegionHeld3
import Derived.Deep.AppendLies
import Derived.WalkLawsBesides
import Derived.WalkSmall
namespace Go.Proofs.Ytlncapddimehiaa
open Go.RowKit
set_option linter.unusedVariables false





open Go.WideShapes Go.ChangeShapes Go.Deep
/-- An act: a kind, a text. -/
def KS (cs : List Value) : Prop := ∃ (x : Int) (s : ByteArray), cs = [.int .i64 x, .string s] ∧ (-9223372036854775808 ≤ x ∧ x ≤ 9223372036854775807) ∧ s.size ≤ 9223372036854775807
theorem ks_of {H : Type} {enc : TypeId × Value → H} {P : Program} {w : World} {base : Nat} {spare : Nat → Bool} {held : Bool} {e it st : TypeId} {f0 f1 : Field} (he : P.underlying e = some (.struct #[f0, f1])) (hit : P.underlying it = some (.int .i64)) (hst : P.underlying st = some .string) (h1 : P.cellsOf it = 1) (h2 : P.cellsOf st = 1) (o0 : f0.offset = 0) (o1 : f1.offset = 1) (t0 : f0.type = it) (t1 : f1.type = st) :
    ∀ fuel cs x, cs.length = 2 → DataW.trod enc P w base spare held fuel e cs = some x → KS cs := by
  intro fuel cs x hl h
  match cs, hl with
  | [c0, c1], _ =>
    obtain ⟨_, _, g0⟩ := field_trod he h 0 f0 rfl 0 1 it o0 t0 h1
    obtain ⟨_, _, g1⟩ := field_trod he h 1 f1 rfl 1 1 st o1 t1 h2
    obtain ⟨x0, e0, _, w0⟩ := DataW.trod_int hit g0
    obtain ⟨s, e1, _, hs⟩ := DataW.trod_string hst g1
    simp at e0 e1
    exact ⟨x0, s, by rw [e0, e1], bounds_i64 w0, by unfold maxLen at hs; omega⟩
theorem ks_at {w : World} {A : Option Addr} {n i : Nat} {C : Nat → List Value}
    (h : ∀ i, i < n → KS (C i) ∧ (C i).length = 2 ∧ ∃ b off, A = some ⟨b, off, none⟩ ∧ b < w.heap.size ∧ ∀ (j : Nat) (u : Value), (C i)[j]? = some u → w.cell? ⟨b, off + i * 2 + j, none⟩ = some u) (hi : i < n) :
    ∃ b off x s, A = some ⟨b, off, none⟩ ∧ b < w.heap.size ∧ w.cell? ⟨b, off + i * 2, none⟩ = some (.int .i64 x) ∧ w.cell? ⟨b, off + i * 2 + 1, none⟩ = some (.string s) ∧
      (-9223372036854775808 ≤ x ∧ x ≤ 9223372036854775807) ∧ s.size ≤ 9223372036854775807 := by
  obtain ⟨⟨x, s, hc, hx, hs⟩, _, b, off, hA, hb, hcell⟩ := h i hi
  exact ⟨b, off, x, s, hA, hb, hcell 0 _ (by rw [hc]; rfl), hcell 1 _ (by rw [hc]; rfl), hx, hs⟩

theorem QAt.only2 {t : TypeId} {w w' : World} {g x y : Nat} {cap st : Int} {L : List ByteArray} {a b c : Int} {tx ty : TypeId} {cx cy : Array Value} (k : QAt t w g cap st L a b c) (o : Only [x, y] w w') (hx : g ≠ x) (hy : g ≠ y) (bx : Blk w x tx cx) (b_ : Blk w y ty cy) (nx : tx ≠ 9) (ny : ty ≠ 9) : QAt t w' g cap st L a b c := by
  obtain ⟨A, n, h1, h2⟩ := k
  exact ⟨A, n, h1.only o (by simp [hx, hy]), h2.only o (fun i hi _ => by
    simp at hi
    rcases hi with rfl | rfl
    · exact ⟨_, _, _, bx, nx⟩
    · exact ⟨_, _, _, b_, ny⟩)⟩
theorem Both.other {w w' : World} {g h g2 h2 : Nat} {cap st : Int} {L L2 : List ByteArray} {a b c a2 b2 c2 : Int} (k2 : Both w g2 h2 cap st L2 a2 b2 c2) (o : Only [g, h] w w') (k : Both w g h cap st L a b c) (n1 : g2 ≠ g) (n2 : h2 ≠ h) : Both w' g2 h2 cap st L2 a2 b2 c2 := by
  obtain ⟨cq, bq⟩ := k.q.blk
  obtain ⟨cr, br⟩ := k.r.blk
  obtain ⟨cq2, bq2⟩ := k2.q.blk
  obtain ⟨cr2, br2⟩ := k2.r.blk
  exact ⟨k2.q.only2 o n1 (Blk.ne_ bq2 br (by decide)) bq br (by decide) (by decide), k2.r.only2 o (Blk.ne_ br2 bq (by decide)) n2 bq br (by decide) (by decide)⟩
theorem Both.below {w w' : World} {g h : Nat} {cap st : Int} {L : List ByteArray} {a b c : Int} (k : Both w g h cap st L a b c) (hb : Below w.heap.size w w') : Both w' g h cap st L a b c := ⟨k.q.below hb, k.r.below hb⟩

/-- Two small numbers, and two slices of acts. -/
def FourOf (w : World) (v : Value) : Prop :=
  ∃ (a0 a1 : Int) (A : Option Addr) (n cap : Nat) (A' : Option Addr) (n' cap' : Nat) (C C' : Nat → List Value),
    v = .agg #[.int .u8 a0, .int .u8 a1, .slice A n cap, .slice A' n' cap'] ∧ 0 ≤ a0 ∧ a0 ≤ 255 ∧ 0 ≤ a1 ∧ a1 ≤ 255 ∧
    n ≤ cap ∧ cap ≤ 9223372036854775807 ∧ (∀ i, i < n → KS (C i) ∧ (C i).length = 2 ∧ ∃ b off, A = some ⟨b, off, none⟩ ∧ b < w.heap.size ∧ ∀ (j : Nat) (u : Value), (C i)[j]? = some u → w.cell? ⟨b, off + i * 2 + j, none⟩ = some u) ∧
    n' ≤ cap' ∧ cap' ≤ 9223372036854775807 ∧ (∀ i, i < n' → KS (C' i) ∧ (C' i).length = 2 ∧ ∃ b off, A' = some ⟨b, off, none⟩ ∧ b < w.heap.size ∧ ∀ (j : Nat) (u : Value), (C' i)[j]? = some u → w.cell? ⟨b, off + i * 2 + j, none⟩ = some u)

theorem rows_of_trod {H : Type} {enc : TypeId × Value → H} {P : Program} {w : World} {base : Nat} {spare : Nat → Bool} {held : Bool} {t e : TypeId} {sz : Nat} {E : List Value → Prop} {fuel : Nat} {cs : List Value} {x : DataW H × List MemPlace}
    (ht : P.underlying t = some (.slice e)) (hC : P.cellsOf e = sz) (hpos : 0 < sz)
    (hE : ∀ fuel cs x, cs.length = sz → DataW.trod enc P w base spare held fuel e cs = some x → E cs) (h : DataW.trod enc P w base spare held fuel t cs = some x) :
    ∃ v n C, cs = [v] ∧ RowsAt w v n sz E C := by
  rcases open_slice ht h with ⟨hcs, _⟩ | ⟨a', len', cap', m, n, D, Pl, hcs, _, hl, hm, hmm, _, hi⟩
  · exact ⟨_, 0, fun _ => [], hcs, none, 0, rfl, by omega, by omega, fun i hi => by omega⟩
  · have hlm : len' ≤ m := by rw [hmm]; split <;> omega
    rw [hC] at hi
    obtain ⟨C, hCs⟩ := choose_lt (α := List Value) (p := fun i cs => E cs ∧ cs.length = sz ∧ ∀ j, j < sz → w.cell? ((a'.add (i * sz)).add j) = cs[j]?) (n := len') (fun i hilt => by
      obtain ⟨cs', h1, h2⟩ := hi i (by omega)
      obtain ⟨_, hlen, hat⟩ := World.cells?_some h1
      exact ⟨cs', hE _ _ _ hlen h2, hlen, hat⟩)
    refine ⟨_, len', C, hcs, some a', cap', rfl, hl, by unfold maxLen at hm; omega, fun i hilt => ?_⟩
    obtain ⟨e1, e2, e3⟩ := hCs i hilt
    refine ⟨e1, e2, ?_⟩
    have hsp : a'.spot = none := by
      obtain ⟨_, f2, f3⟩ := hCs 0 (by omega)
      have := f3 0 hpos
      rw [List.getElem?_eq_getElem (by omega)] at this
      have := spot_of_cell this
      simpa [Addr.add] using this
    obtain ⟨b, off, sp⟩ := a'
    simp only at hsp
    subst hsp
    refine ⟨b, off, rfl, ?_, fun j u hu => ?_⟩
    · have := e3 0 hpos
      rw [List.getElem?_eq_getElem (by omega)] at this
      have := lt_of_cell this
      rw [add_plain_, add_plain_] at this
      exact this
    · have hj : j < sz := by
        rcases Nat.lt_or_ge j sz with h | h
        · exact h
        · rw [List.getElem?_eq_none (by omega)] at hu; cases hu
      have := e3 j hj
      rw [add_plain_, add_plain_, hu] at this
      exact this

theorem four_of_open {H : Type} {enc : TypeId × Value → H} {P : Program} {w : World} {base : Nat} {spare : Nat → Bool} {held : Bool} {r : Reach} {t ut lt e : TypeId} {f0 f1 f2 f3 : Field} {v : Value} {d : DataW H} {p : List MemPlace}
    (hs : P.underlying t = some (.struct #[f0, f1, f2, f3])) (hu : P.underlying ut = some (.int .u8)) (hl : P.underlying lt = some (.slice e)) (hC : P.cellsOf t = 4) (cu : P.cellsOf ut = 1) (cl : P.cellsOf lt = 1)
    (o0 : f0.offset = 0) (o1 : f1.offset = 1) (o2 : f2.offset = 2) (o3 : f3.offset = 3) (t0 : f0.type = ut) (t1 : f1.type = ut) (t2 : f2.type = lt) (t3 : f3.type = lt)
    (ce : P.cellsOf e = 2) (hE : ∀ fuel cs x, cs.length = 2 → DataW.trod enc P w base spare held fuel e cs = some x → KS cs)
    {b0 : Nat} (hv : Value.okWide P w r b0 t v) (h : DataW.Trod enc P w base spare held t v d p) : FourOf w v := by
  obtain ⟨cs, rfl, hsz⟩ := okWide_struct hs hv
  obtain ⟨l⟩ := cs
  obtain ⟨fuel, hf⟩ := h
  have hl4 : l.length = 4 := by simpa using hsz.trans hC
  have hf' : DataW.trod enc P w base spare held fuel t l = some (d, p) := by simpa [Value.cells] using hf
  match l, hl4 with
  | [c0, c1, c2, c3], _ =>
    obtain ⟨_, _, q0⟩ := field_trod hs hf' 0 f0 rfl 0 1 ut o0 t0 cu
    obtain ⟨_, _, q1⟩ := field_trod hs hf' 1 f1 rfl 1 1 ut o1 t1 cu
    obtain ⟨_, _, q2⟩ := field_trod hs hf' 2 f2 rfl 2 1 lt o2 t2 cl
    obtain ⟨_, _, q3⟩ := field_trod hs hf' 3 f3 rfl 3 1 lt o3 t3 cl
    obtain ⟨x0, e0, _, w0⟩ := DataW.trod_int hu q0
    obtain ⟨x1, e1, _, w1⟩ := DataW.trod_int hu q1
    obtain ⟨v2, n2, C2, e2, A2, k2, rfl, r21, r22, r23⟩ := rows_of_trod hl ce (by decide) hE q2
    obtain ⟨v3, n3, C3, e3, A3, k3, rfl, r31, r32, r33⟩ := rows_of_trod hl ce (by decide) hE q3
    simp at e0 e1 e2 e3
    subst e0 e1 e2 e3
    obtain ⟨b1, b2⟩ := bounds_u8 w0
    obtain ⟨b3, b4⟩ := bounds_u8 w1
    exact ⟨x0, x1, A2, n2, k2, A3, n3, k3, C2, C3, rfl, b1, b2, b3, b4, r21, r22, r23, r31, r32, r33⟩
end Go.Proofs.Ytlncapddimehiaa
