/- The walks of package queue a law's own rows beside a queue. -/
import Derived.Test.YtlncapddimehiaaRows
import Derived.WalkKit
import Derived.ProofKit
import Derived.Handy
import Derived.Test.YtlncapddimehiaaMem
import Derived.Test.YtlncapddimehiaaLift
import Derived.Test.YtlncapddimehiaaApp
import Derived.Test.YtlncapddimehiaaReads
import Derived.Test.YtlncapddimehiaaOrd
import Derived.Test.YtlncapddimehiaaQueue
import Derived.Test.YtlncapddimehiaaQueue2
import Derived.Test.YtlncapddimehiaaQueue3
import Derived.Test.YtlncapddimehiaaQueue4
import Derived.Test.YtlncapddimehiaaQueue5
import Derived.Test.YtlncapddimehiaaQueueF
import Derived.Deep.QuietTactic
import Derived.BigQuiet
import Derived.Deep.RegionWith
import Derived.Deep.RegionHeld3
import Derived.Deep.AppendLies
import Derived.WalkLawsBesides
import Derived.WalkSmall
namespace Go.Proofs.Ytlncapddimehiaa
open Go.RowKit
set_option linter.unusedVariables false





/-- What was accepted, what was taken, what is there. -/
structure QLaw (st : Int) (all took L : List ByteArray) : Prop where
  sub : (took ++ L).Sublist all
  err : st = 0 → all = took ++ L
  late : st = 2 → ∃ pre, all = pre ++ L
def PutOk (st : Int) (s : ByteArray) (L L' : List ByteArray) : Prop :=
  (L' = L ++ [s]) ∨ (st = 1 ∧ L' = L) ∨ (st = 2 ∧ L = [] ∧ L' = []) ∨ (st = 2 ∧ ∃ s0 L0, L = s0 :: L0 ∧ L' = L0 ++ [s])
theorem QLaw.put {st : Int} {all took L L' : List ByteArray} {s : ByteArray} (h : QLaw st all took L) (hp : PutOk st s L L') : QLaw st (all ++ [s]) took L' := by
  rcases hp with rfl | ⟨h1, rfl⟩ | ⟨h1, rfl, rfl⟩ | ⟨h1, s0, L0, rfl, rfl⟩
  · refine ⟨?_, fun e => ?_, fun e => ?_⟩
    · rw [← List.append_assoc]; exact h.sub.append (List.Sublist.refl _)
    · rw [h.err e, List.append_assoc]
    · obtain ⟨pre, hp⟩ := h.late e
      exact ⟨pre, by rw [hp, List.append_assoc]⟩
  · exact ⟨h.sub.trans (List.sublist_append_left _ _), fun e => by omega, fun e => by omega⟩
  · exact ⟨h.sub.trans (List.sublist_append_left _ _), fun e => by omega, fun e => ⟨all ++ [s], by simp⟩⟩
  · refine ⟨?_, fun e => by omega, fun e => ?_⟩
    · rw [← List.append_assoc]
      exact (((List.Sublist.refl took).append (List.sublist_cons_self s0 L0)).trans h.sub).append (List.Sublist.refl _)
    · obtain ⟨pre, hp⟩ := h.late e
      exact ⟨pre ++ [s0], by rw [hp]; simp⟩
theorem QLaw.take {st : Int} {all took L : List ByteArray} {s : ByteArray} (h : QLaw st all took (s :: L)) : QLaw st all (took ++ [s]) L := by
  refine ⟨by have := h.sub; simpa using this, fun e => by rw [h.err e]; simp, fun e => ?_⟩
  obtain ⟨pre, hp⟩ := h.late e
  exact ⟨pre ++ [s], by rw [hp]; simp⟩
theorem gr_eq {all took : List ByteArray} {i k : Nat} (h : (took.drop k).Sublist (all.drop i)) (hi : i < all.length) (hk : k < took.length) (e : all[i] = took[k]) : (took.drop (k + 1)).Sublist (all.drop (i + 1)) := by
  rw [List.drop_eq_getElem_cons hi, List.drop_eq_getElem_cons hk, e] at h
  exact List.cons_sublist_cons.1 h
theorem sub_ne {x y : ByteArray} {xs ys : List ByteArray} (h : (x :: xs).Sublist (y :: ys)) (e : y ≠ x) : (x :: xs).Sublist ys := by
  cases h with
  | cons _ h => exact h
  | cons_cons _ h => exact absurd rfl e
theorem gr_ne {all took : List ByteArray} {i k : Nat} (h : (took.drop k).Sublist (all.drop i)) (hi : i < all.length) (hk : k < took.length) (e : all[i] ≠ took[k]) : (took.drop k).Sublist (all.drop (i + 1)) := by
  rw [List.drop_eq_getElem_cons hk] at h ⊢
  rw [List.drop_eq_getElem_cons hi] at h
  exact sub_ne h e
theorem gr_end {all took : List ByteArray} {i k : Nat} (h : (took.drop k).Sublist (all.drop i)) (hi : all.length ≤ i) : took.length ≤ k := by
  rw [List.drop_eq_nil_of_le hi] at h
  have := List.sublist_nil.1 h
  have := congrArg List.length this
  simp at this
  omega

def blks (v : Value) : List Nat := v.ownBlock.toList
theorem mem_blks {v : Value} {x : Nat} : x ∈ blks v ↔ v.ownBlock = some x := by simp [blks]
theorem Only.of_grown {w w' : World} {v : Value} (h : w.grownBy w' v.ownBlock) : Only (blks v) w w' :=
  ⟨h.os, h.tape, h.output, h.size, fun k hk hn => h.block k hk (fun e => hn (mem_blks.2 e.symm))⟩
/-- A queue, and two rows of the law's own. -/
structure OMem (w0 : World) (g : Nat) (cap st : Int) (vA vT : Value) (all took L : List ByteArray) (M : Int) (w : World) : Prop where
  q : ∃ a b c, QF (blks vA ++ blks vT) w g cap st L a b c ∧ 0 ≤ a ∧ a ≤ M ∧ 0 ≤ b ∧ b ≤ M ∧ 0 ≤ c ∧ c ≤ M
  oA : w.ownsRow w0.heap.size 9 1 vA all.length (strs all)
  oT : w.ownsRow w0.heap.size 9 1 vT took.length (strs took)
  ne : ∀ x, vA.ownBlock = some x → vT.ownBlock ≠ some x
  bl : Below w0.heap.size w0 w
section
variable {w0 w w' : World} {g : Nat} {cap st M M' : Int} {vA vT v' : Value} {all took L L' : List ByteArray} {s : ByteArray}
theorem QF.blk {F : List Nat} {a b c : Int} (k : QF F w g cap st L a b c) : ∃ cs, Blk w g 50 cs := by
  obtain ⟨A, n, h, _⟩ := k
  exact ⟨_, h⟩
theorem Held.keepAt {e : TypeId} {sz n k : Nat} {A : Option Addr} {xs : List Value} (h : Held w e sz A n k xs) (hk : ∀ b, A = some b → w'.heap[b.block]? = w.heap[b.block]?) : Held w' e sz A n k xs :=
  ⟨h.1, h.2.1, h.2.2.1, h.2.2.2.1, fun hn => by
    obtain ⟨b, off, cur, hA, hb, hc⟩ := h.2.2.2.2 hn
    exact ⟨b, off, cur, hA, (hk _ hA).trans hb, hc⟩⟩
/-- New blocks, blocks of F, have turned; the blocks of F are others now. -/
theorem QF.turn {F F' : List Nat} {a b c : Int} (k : QF F w g cap st L a b c) (o : Only F w w') (hg : g ∉ F) (hF : ∀ i ∈ F', (i ∈ F ∨ w.heap.size ≤ i) ∧ i < w'.heap.size) : QF F' w' g cap st L a b c := by
  obtain ⟨A, n, h1, h2, h3, h4⟩ := k
  refine ⟨A, n, h1.only o hg, h2.keepAt (fun x hx => o.block _ (h3 x hx).2 (h3 x hx).1), fun x hx => ⟨fun hi => ?_, Nat.lt_of_lt_of_le (h3 x hx).2 o.size⟩, fun i hi => (hF i hi).2⟩
  rcases (hF _ hi).1 with h | h
  · exact (h3 x hx).1 h
  · have := (h3 x hx).2; omega
theorem OMem.le (k : OMem w0 g cap st vA vT all took L M w) (hM : M ≤ M') : OMem w0 g cap st vA vT all took L M' w := by
  obtain ⟨⟨a, b, c, q, h⟩, oA, oT, ne, bl⟩ := k
  exact ⟨⟨a, b, c, q, by omega⟩, oA, oT, ne, bl⟩
theorem OMem.below (k : OMem w0 g cap st vA vT all took L M w) (b : Below w.heap.size w w') : OMem w0 g cap st vA vT all took L M w' := by
  obtain ⟨⟨a, b', c, q, h⟩, oA, oT, ne, bl⟩ := k
  exact ⟨⟨a, b', c, q.below_ b, h⟩, own_below oA b (Nat.le_refl _), own_below oT b (Nat.le_refl _), ne, bl.trans (b.mono bl.size)⟩
theorem OMem.turn (k : OMem w0 g cap st vA vT all took L M w) {a' b' c' : Int} (hg : w0.heap.size ≤ g) (q' : QF (blks vA ++ blks vT) w' g cap st L' a' b' c') (o : Only [g] w w') (h : 0 ≤ a' ∧ a' ≤ M' ∧ 0 ≤ b' ∧ b' ≤ M' ∧ 0 ≤ c' ∧ c' ≤ M') : OMem w0 g cap st vA vT all took L' M' w' := by
  obtain ⟨⟨a, b, c, q, _⟩, oA, oT, ne, bl⟩ := k
  obtain ⟨cs, hb⟩ := q.blk
  exact ⟨⟨a', b', c', q', h⟩, own_only oA o (fun x hx => by simp; rintro rfl; exact own_blk_ne oA hb (by decide) hx), own_only oT o (fun x hx => by simp; rintro rfl; exact own_blk_ne oT hb (by decide) hx), ne, bonly bl o (by simpa using hg)⟩
theorem OMem.pushA (k : OMem w0 g cap st vA vT all took L M w) (hown : w'.ownsRow w0.heap.size 9 1 v' (all.length + 1) (strs all ++ [.string s])) (hg : w.grownBy w' vA.ownBlock) (hd : v'.ownBlock = vA.ownBlock ∨ v'.ownBlock = some w.heap.size) :
    OMem w0 g cap st v' vT (all ++ [s]) took L M w' := by
  obtain ⟨⟨a, b, c, q, h⟩, oA, oT, ne, bl⟩ := k
  obtain ⟨cs, hb⟩ := q.blk
  have o := Only.of_grown hg
  have o2 : Only (blks vA ++ blks vT) w w' := o.mono (fun i hi => .inl (by simp [hi]))
  have hgn : g ∉ blks vA ++ blks vT := by
    rw [List.mem_append, mem_blks, mem_blks]
    rintro (e | e)
    · exact own_blk_ne oA hb (by decide) e
    · exact own_blk_ne oT hb (by decide) e
  refine ⟨⟨a, b, c, q.turn o2 hgn (fun i hi => ?_), h⟩, by simpa [strs] using hown, own_only oT o (fun x hx => by rw [mem_blks]; exact fun e => ne x e hx), fun x hx => ?_, bonly bl o (fun i hi => ownBlock_ge oA (mem_blks.1 hi))⟩
  · rw [List.mem_append, mem_blks, mem_blks] at hi
    rcases hi with e | e
    · refine ⟨?_, own_lt hown e⟩
      rcases hd with hd | hd
      · exact .inl (by rw [List.mem_append, mem_blks, mem_blks]; exact .inl (hd ▸ e))
      · rw [hd] at e; injection e with e; exact .inr (by omega)
    · exact ⟨.inl (by rw [List.mem_append, mem_blks, mem_blks]; exact .inr e), Nat.lt_of_lt_of_le (own_lt oT e) hg.size⟩
  · rcases hd with hd | hd
    · rw [hd] at hx; exact ne x hx
    · rw [hd] at hx; injection hx with hx; intro e; have := own_lt oT e; omega
theorem OMem.pushT (k : OMem w0 g cap st vA vT all took L M w) (hown : w'.ownsRow w0.heap.size 9 1 v' (took.length + 1) (strs took ++ [.string s])) (hg : w.grownBy w' vT.ownBlock) (hd : v'.ownBlock = vT.ownBlock ∨ v'.ownBlock = some w.heap.size) :
    OMem w0 g cap st vA v' all (took ++ [s]) L M w' := by
  obtain ⟨⟨a, b, c, q, h⟩, oA, oT, ne, bl⟩ := k
  obtain ⟨cs, hb⟩ := q.blk
  have o := Only.of_grown hg
  have o2 : Only (blks vA ++ blks vT) w w' := o.mono (fun i hi => .inl (by simp [hi]))
  have hgn : g ∉ blks vA ++ blks vT := by
    rw [List.mem_append, mem_blks, mem_blks]
    rintro (e | e)
    · exact own_blk_ne oA hb (by decide) e
    · exact own_blk_ne oT hb (by decide) e
  refine ⟨⟨a, b, c, q.turn o2 hgn (fun i hi => ?_), h⟩, own_only oA o (fun x hx => by rw [mem_blks]; exact ne x hx), by simpa [strs] using hown, fun x hx => ?_, bonly bl o (fun i hi => ownBlock_ge oT (mem_blks.1 hi))⟩
  · rw [List.mem_append, mem_blks, mem_blks] at hi
    rcases hi with e | e
    · exact ⟨.inl (by rw [List.mem_append, mem_blks, mem_blks]; exact .inl e), Nat.lt_of_lt_of_le (own_lt oA e) hg.size⟩
    · refine ⟨?_, own_lt hown e⟩
      rcases hd with hd | hd
      · exact .inl (by rw [List.mem_append, mem_blks, mem_blks]; exact .inr (hd ▸ e))
      · rw [hd] at e; injection e with e; exact .inr (by omega)
  · rcases hd with hd | hd
    · rw [hd]; exact ne x hx
    · rw [hd]; intro e; injection e with e; have := own_lt oA hx; omega
end
/-- A slice's end, and its beginning. -/
theorem Held.cutTo {w : World} {e : TypeId} {n k m : Nat} {A : Option Addr} {xs : List Value} (h : Held w e 1 A n k xs) (hm : m ≤ n) : Held w e 1 A m k (xs.take m) :=
  ⟨by rw [List.length_take, h.1]; omega, by have := h.2.1; omega, h.2.2.1, fun hA => by have := h.2.2.2.1 hA; omega, fun hp => by
    obtain ⟨b, off, cur, hA, hb, hc⟩ := h.2.2.2.2 (by omega)
    exact ⟨b, off, cur, hA, hb, fun j u hu => hc j u (by rw [List.getElem?_take] at hu; split at hu; exact hu; cases hu)⟩⟩
theorem Held.cutFrom {w : World} {e : TypeId} {n k m b off : Nat} {xs : List Value} (h : Held w e 1 (some ⟨b, off, none⟩) n k xs) (hm : m ≤ n) : Held w e 1 (if k = m then some ⟨b, off, none⟩ else some ⟨b, off + m, none⟩) (n - m) (k - m) (xs.drop m) := by
  obtain ⟨h1, h2, h3, h4, h5⟩ := h
  refine ⟨by rw [List.length_drop, h1]; omega, by omega, by omega, fun hA => (by split at hA <;> cases hA), fun hp => ?_⟩
  obtain ⟨b', off', cur, hA, hb, hc⟩ := h5 (by omega)
  injection hA with hA
  injection hA with hA1 hA2
  subst hA1 hA2
  rw [if_neg (by omega)]
  exact ⟨b, off + m, cur, rfl, hb, fun j u hu => by rw [List.getElem?_drop] at hu; rw [Nat.add_assoc]; exact hc _ u hu⟩
theorem new_okF (cap st : Int) (w : World) (h0 : 0 ≤ cap) (h1 : cap ≤ 64) (h2 : 0 ≤ st) (h3 : st ≤ 2) : Calls Try.prog 6 #[.int .i64 cap, .int .i64 st] w fun e w' => e = .returned (.tuple #[.pointer (some ⟨w.heap.size, 0, none⟩), .int .i64 0]) ∧ QF [] w' w.heap.size cap st [] 0 0 0 ∧ Below w.heap.size w w' := by
  go_enter Try.func6, Try.ntmps6
  go_wp2_with fail
  go_ret2
  exact ⟨rfl, ⟨none, 0, Blk.new _ _ _, Held.nil_ _ _ _, ⟨fun b hb => (by cases hb), fun i hi => (by cases hi)⟩⟩, (Below.refl _ _).alloc (Nat.le_refl _) _⟩
set_option maxHeartbeats 1000000 in
/-- Put, whatever comes of it. -/
theorem put_allF {F : List Nat} (g : Nat) (cap st : Int) (L : List ByteArray) (a b c M : Int) (s : ByteArray) (w : World) (k : QF F w g cap st L a b c) (hc0 : 0 ≤ cap) (hcap : cap ≤ 64) (hs0 : 0 ≤ st) (hs2 : st ≤ 2) (hL : (L.length : Int) ≤ cap) (hb : 0 ≤ a ∧ a ≤ M ∧ 0 ≤ b ∧ b ≤ M ∧ 0 ≤ c ∧ c ≤ M) (hM : M ≤ 100000) :
    Calls Try.prog 9 #[.pointer (some ⟨g, 0, none⟩), .string s] w fun e w' => ∃ (v : Int) (L' : List ByteArray) (a' b' c' : Int), e = .returned (.int .i64 v) ∧ QF F w' g cap st L' a' b' c' ∧ Only [g] w w' ∧ (L'.length : Int) ≤ cap ∧ (0 ≤ a' ∧ a' ≤ M + 1 ∧ 0 ≤ b' ∧ b' ≤ M + 1 ∧ 0 ≤ c' ∧ c' ≤ M + 1) ∧ ((v = 0 ∧ L' = L) ∨ (1 ≤ v ∧ PutOk st s L L')) := by
  by_cases h : (L.length : Int) < cap
  · refine (put_keptF g cap st L a b c s w k h hcap (by omega) (by omega)).mono ?_
    rintro e w' ⟨rfl, q, o⟩
    exact ⟨1, _, _, _, _, rfl, q, o, by simp; omega, by omega, .inr ⟨by omega, .inl rfl⟩⟩
  · by_cases h0 : st = 0
    · subst h0
      refine (put_refusedF g cap L a b c s w k (by omega)).mono ?_
      rintro e w' ⟨rfl, q, o⟩
      exact ⟨0, _, _, _, _, rfl, q, o, hL, by omega, .inl ⟨rfl, rfl⟩⟩
    · by_cases h1 : st = 1
      · refine (put_droppedF g cap st L a b c s w k (by omega) (.inl h1) (by omega) (by omega) (by omega) (by omega)).mono ?_
        rintro e w' ⟨rfl, q, o⟩
        exact ⟨2, _, _, _, _, rfl, q, o, hL, by omega, .inr ⟨by omega, .inr (.inl ⟨h1, rfl⟩)⟩⟩
      · obtain rfl : st = 2 := by omega
        cases L with
        | nil =>
          refine (put_droppedF g cap 2 [] a b c s w k (by omega) (.inr ⟨rfl, by simp at h; omega⟩) (by omega) (by omega) (by omega) (by omega)).mono ?_
          rintro e w' ⟨rfl, q, o⟩
          exact ⟨2, _, _, _, _, rfl, q, o, hL, by omega, .inr ⟨by omega, .inr (.inr (.inl ⟨rfl, rfl, rfl⟩))⟩⟩
        | cons s0 L0 =>
          refine (put_pushedF g cap s0 L0 a b c s w k (by omega) (by simp at hL; omega) (by simp at hL; omega) (by omega) (by omega) (by omega) (by omega)).mono ?_
          rintro e w' ⟨rfl, q, o⟩
          exact ⟨3, _, _, _, _, rfl, q, o, by simp at hL ⊢; omega, by omega, .inr ⟨by omega, .inr (.inr (.inr ⟨rfl, s0, L0, rfl, rfl⟩))⟩⟩
end Go.Proofs.Ytlncapddimehiaa
