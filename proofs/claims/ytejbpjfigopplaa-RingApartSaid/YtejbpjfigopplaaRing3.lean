/- The walks of package ring: Write. -/
import Derived.Test.YtejbpjfigopplaaRows
import Derived.WalkKit
import Derived.ProofKit
import Derived.Handy
import Derived.Test.YtejbpjfigopplaaMem
import Derived.Test.YtejbpjfigopplaaLift
import Derived.Test.YtejbpjfigopplaaApp
import Derived.Test.YtejbpjfigopplaaReads
import Derived.Test.YtejbpjfigopplaaOrd
import Derived.Test.YtejbpjfigopplaaRing
import Derived.Test.YtejbpjfigopplaaRing2
import Derived.Deep.QuietTactic
import Derived.BigQuiet
import Derived.Deep.RegionWith
import Derived.Deep.RegionHeld3
import Derived.Deep.AppendLies
import Derived.WalkLawsBesides
import Derived.WalkSmall
import Derived.Lib.BufferWrite
namespace Go.Proofs.Ytejbpjfigopplaa
open Go.RowKit
set_option linter.unusedVariables false



theorem cells_of {w : World} {g : Nat} {a b : Array Value} {t t' : TypeId} (h : w.heap[g]? = some (.cells a t (0, 0))) (h' : w.heap[g]? = some (.cells b t' (0, 0))) : b = a := by
  rw [h] at h'
  injection h' with h'
  injection h' with h'
  exact h'.symm
/-- What copy of a string's first bytes leaves. -/
structure Copied (w w' : World) (g o k : Nat) (bs : List UInt8) (cur : Array Value) : Prop where
  row : ∃ cur' : Array Value, w'.heap[g]? = some (.cells cur' 5 (0, 0)) ∧ cur'.size = cur.size ∧ (∀ i, i < k → ∀ x, bs[i]? = some x → cur'[o + i]? = some (byteV x)) ∧ (∀ i, (i < o ∨ o + k ≤ i) → cur'[i]? = cur[i]?)
  only : Only [g] w w'

theorem run_copy_str {P : Program} (w : World) (dT sT ty elem : TypeId) (g o dLen dCap : Nat) (s : ByteArray) (cur : Array Value)
    (hu : P.underlying dT = some (.slice elem)) (hs : (P.info? elem).map (·.size) = some 1) (hg : w.heap[g]? = some (.cells cur 5 (0, 0))) (hfit : o + dLen ≤ cur.size) :
    ∃ w', (Builtin.copy_ #[dT, sT] ty #[.slice (some ⟨g, o, none⟩) dLen dCap, .string s]).run P w = .ok (goInt ((min s.size dLen : Nat) : Int)) w' ∧ Copied w w' g o (min s.size dLen) s.data.toList cur := by
  have hl2 : (Go.Lib.byteCells (s.data.toList.take (min s.size dLen))).length = min s.size dLen := by
    rw [Go.Lib.byteCells_length, List.length_take, ← Go.Lib.size_eq]; omega
  have hst := run_storeCells_at P g o 5 (Go.Lib.byteCells (s.data.toList.take (min s.size dLen))) 0 cur w hg (by rw [hl2]; omega) (Go.Lib.byteCells_one _)
  rw [hl2] at hst
  simp only [Nat.add_zero] at hst
  cases hq : P.info? elem with
  | none => simp [hq] at hs
  | some i =>
    refine ⟨w.setRow g (List.take o cur.toList ++ Go.Lib.byteCells (List.take (min s.size dLen) s.data.toList) ++ List.drop (o + min s.size dLen) cur.toList).toArray, ?_, ?_⟩
    · have htk : List.take (min s.size dLen) (List.map (fun b : UInt8 => Value.int IntKind.u8 (b.toNat : Int)) s.data.toList) = Go.Lib.byteCells (List.take (min s.size dLen) s.data.toList) := by simp [Go.Lib.byteCells, List.map_take]
      simp [Builtin.copy_, run_underlying hu, Builtin.lenOf, Builtin.firstCells, sizeOf, typeInfo, hq]
      rw [show s.size.min dLen = min s.size dLen from rfl, htk, hst]
      simp [Result.andThen]
    · have hne : (List.take o cur.toList ++ Go.Lib.byteCells (List.take (min s.size dLen) s.data.toList) ++ List.drop (o + min s.size dLen) cur.toList).length = cur.size := by
        simp only [List.length_append, hl2, List.length_take, List.length_drop, Array.length_toList]
        omega
      refine ⟨⟨_, setRow_heap w g cur _ 5 (0, 0) hg, by simpa using hne, fun i hi x hx => ?_, fun i hi => ?_⟩, ⟨rfl, rfl, rfl, by simp, fun k _ hk => setRow_other w g k _ (by simpa using hk)⟩⟩
      · rw [List.getElem?_toArray, List.append_assoc, List.getElem?_append_right (by simp; omega), List.getElem?_append_left (by rw [hl2]; simp; omega)]
        have hx' : (List.take (min s.size dLen) s.data.toList)[i]? = some x := by rw [List.getElem?_take, if_pos hi]; exact hx
        simp only [Go.Lib.byteCells, List.getElem?_map]
        rw [show o + i - (List.take o cur.toList).length = i by simp; omega, hx']
        rfl
      · rw [List.getElem?_toArray]
        rcases hi with hi | hi
        · rw [List.append_assoc, List.getElem?_append_left (by simp; omega), List.getElem?_take, if_pos hi, Array.getElem?_toList]
        · rw [List.getElem?_append_right (by simp only [List.length_append, hl2, List.length_take, Array.length_toList]; omega), List.getElem?_drop, Array.getElem?_toList]
          congr 1
          simp only [List.length_append, hl2, List.length_take, Array.length_toList]
          omega

theorem wp_copy_str {P : Program} (w : World) {o : Oper} {a : Act} {K : Act → World → Prop} {Q : Exit → Act → World → Prop} (d x : Operand) (dT sT elem : TypeId)
    (ho : o.op = .call { callee := .builtin .copy, args := #[d, x], argTypes := #[dT, sT] }) (hu : P.underlying dT = some (.slice elem)) (hs : (P.info? elem).map (·.size) = some 1)
    (g off dLen dCap : Nat) (s : ByteArray) (cur : Array Value) (hd : a.eval d = .slice (some ⟨g, off, none⟩) dLen dCap) (hx : a.eval x = .string s) (hg : w.heap[g]? = some (.cells cur 5 (0, 0))) (hfit : off + dLen ≤ cur.size)
    (h : ∀ w', Copied w w' g off (min s.size dLen) s.data.toList cur → K (a.put o.dst (goInt ((min s.size dLen : Nat) : Int))) w') : o.wp P a w K Q := by
  obtain ⟨w', hr, h2⟩ := run_copy_str (P := P) w dT sT o.type elem g off dLen dCap s cur hu hs hg hfit
  unfold Oper.wp execOp
  simp only [ho, resolve, invoke, builtin, Sem.run_bind, Sem.run_pure, Result.andThen_ok, List.map_toArray, List.map_cons, List.map_nil, hd, hx, hr]
  exact h w' h2

theorem mod_two {x c : Nat} (h : x < 2 * c) : x % c = if x < c then x else x - c := by
  split
  · next h1 => exact Nat.mod_eq_of_lt h1
  · next h1 => rw [Nat.mod_eq_sub_mod (by omega), Nat.mod_eq_of_lt (by omega)]
theorem write_row {cur cur1 cur2 : Array Value} {s bs : List UInt8} {f c n A k1 : Nat} (hf : f < c) (hl : s.length + n ≤ c) (hn : n ≤ bs.length) (hA : A = (f + s.length) % c) (hk : k1 = min n (c - A))
    (h0 : ∀ j, (h : j < s.length) → cur[(f + j) % c]? = some (byteV (s[j]'h)))
    (h1 : ∀ i, i < k1 → ∀ x, bs[i]? = some x → cur1[A + i]? = some (byteV x)) (h1' : ∀ i, (i < A ∨ A + k1 ≤ i) → cur1[i]? = cur[i]?)
    (h2 : ∀ i, i < n - k1 → ∀ x, bs[k1 + i]? = some x → cur2[i]? = some (byteV x)) (h2' : ∀ i, n - k1 ≤ i → cur2[i]? = cur1[i]?) :
    ∀ j, (h : j < (s ++ bs.take n).length) → cur2[(f + j) % c]? = some (byteV ((s ++ bs.take n)[j]'h)) := by
  intro j hj
  have hj' : j < s.length + n := by simp at hj; omega
  have eA : A = if f + s.length < c then f + s.length else f + s.length - c := by rw [hA]; exact mod_two (by omega)
  have ej : (f + j) % c = if f + j < c then f + j else f + j - c := mod_two (by omega)
  by_cases hs : j < s.length
  · rw [List.getElem_append_left hs, ← h0 j hs]
    have hp : n - k1 ≤ (f + j) % c := by rw [ej]; split at eA <;> split <;> omega
    have hq : (f + j) % c < A ∨ A + k1 ≤ (f + j) % c := by rw [ej]; split at eA <;> split <;> omega
    rw [h2' _ hp, h1' _ hq]
  · obtain ⟨i, rfl⟩ : ∃ i, j = s.length + i := ⟨j - s.length, by omega⟩
    have hi : i < n := by omega
    have hib : i < bs.length := by omega
    have hg : (s ++ bs.take n)[s.length + i]'hj = bs[i] := by
      rw [List.getElem_append_right (by omega)]
      simp
    rw [hg]
    by_cases hk1 : i < k1
    · have hp : (f + (s.length + i)) % c = A + i := by rw [ej]; split at eA <;> split <;> omega
      rw [hp, h2' _ (by split at eA <;> omega)]
      exact h1 i hk1 _ (List.getElem?_eq_getElem hib)
    · have hp : (f + (s.length + i)) % c = i - k1 := by rw [ej]; split at eA <;> split <;> omega
      rw [hp]
      exact h2 (i - k1) (by omega) _ (by rw [show k1 + (i - k1) = i by omega]; exact List.getElem?_eq_getElem hib)
theorem ext_get (t : ByteArray) (a b i : Nat) (hi : a + i < b) : (t.extract a b).data.toList[i]? = t.data.toList[a + i]? := by
  rw [ByteArray.data_extract, Array.getElem?_toList, Array.getElem?_toList, Array.getElem?_extract]
  split
  · rfl
  · next h => rw [Array.getElem?_eq_none (by omega)]
theorem ext_size (t : ByteArray) (a b : Nat) (h : b ≤ t.size) : (t.extract a b).size = b - a := by
  rw [ByteArray.size_extract]; omega

theorem Copied.one {c : Nat} {cur cur' : Array Value} {o k : Nat} {bs : List UInt8} (q3 : ∀ i, i < k → ∀ x, bs[i]? = some x → cur'[o + i]? = some (byteV x)) (q4 : ∀ i, (i < o ∨ o + k ≤ i) → cur'[i]? = cur[i]?) (hk : k ≤ bs.length)
    (h : ∀ (i : Nat) (u : Value), i < c → cur[i]? = some u → u.oneCell' = true) : ∀ (i : Nat) (u : Value), i < c → cur'[i]? = some u → u.oneCell' = true := by
  intro i u hic hu
  by_cases hi : i < o ∨ o + k ≤ i
  · rw [q4 i hi] at hu
    exact h i u hic hu
  · have hx : bs[i - o]? = some (bs[i - o]'(by omega)) := List.getElem?_eq_getElem (by omega)
    have := q3 (i - o) (by omega) _ hx
    rw [show o + (i - o) = i by omega, hu] at this
    injection this with this
    subst this
    rfl
def Wrote (w : World) (g gb c kq : Nat) (s : List UInt8) (t : ByteArray) (n : Nat) (e : Ending) (w' : World) : Prop :=
  e = .returned (.int .i64 n) ∧ (∃ f', RingAt w' g gb c kq (s ++ t.data.toList.take n) f') ∧ Only [g, gb] w w'
set_option maxRecDepth 20000 in
set_option maxHeartbeats 4000000 in
theorem write_any (g gb c kq f : Nat) (s : List UInt8) (t : ByteArray) (n : Nat) (w : World) (k : RingAt w g gb c kq s f) (hn : n = min t.size (c - s.length)) (ht : t.size ≤ 9223372036854775807) :
    Calls Try.prog 9 #[.pointer (some ⟨g, 0, none⟩), .string t] w (Wrote w g gb c kq s t n) := by
  have HL := Lib.hid (room_any g gb c kq f s w k)
  have HK := Lib.hid k
  have hl := k.len
  have hc := k.cap
  have c0 := Blk.cell k.blk 0
  have c1 := Blk.cell k.blk 1
  have c2 := Blk.cell k.blk 2
  have f2 := Blk.frozen k.blk 2
  simp at c0 c1 c2
  have hf := k.f0
  clear k
  rcases Nat.eq_zero_or_pos n with h0 | h0
  · subst h0
    have FIN : Wrote w g gb c kq s t 0 (.returned (.int .i64 0)) w := ⟨rfl, ⟨f, by simpa using HK.out⟩, Only.refl _ _⟩
    have HF := Lib.hid FIN
    have hm : t.size = 0 ∨ c = s.length := by omega
    clear hn FIN
    go_enter Try.func9, Try.ntmps9
    go_wp2_with fail
    refine HL.out.mono ?_
    rintro e w1 ⟨rfl, rfl⟩
    go_wp2_with fail
    all_goals go_ret
    all_goals exact HF.out
  · have hcc : 0 < c := by omega
    have hfc : f < c := by omega
    obtain ⟨r, hr⟩ : ∃ r : Nat, c = s.length + r := ⟨c - s.length, by omega⟩
    have hrr : (c : Int) - s.length = (r : Int) := by omega
    have hn' : n = min t.size r := by omega
    obtain ⟨A, eA, hAc, hAm⟩ : ∃ A : Nat, ((f : Int) + (s.length : Int)) % (c : Int) = (A : Int) ∧ A < c ∧ A = (f + s.length) % c := ⟨(f + s.length) % c, by simp, Nat.mod_lt _ hcc, rfl⟩
    have hrc : r ≤ c := by omega
    have hkq := HK.out.ck
    have hkb := HK.out.kb
    have hca : ¬ kq = A := by omega
    have hkq' : (c : Int) ≤ kq := by omega
    have hAq : (A : Int) ≤ kq := by omega
    have hAqn : A ≤ kq := by omega
    have hAle : A ≤ c := by omega
    have hAle' : (A : Int) ≤ c := by omega
    rw [hrr] at HL
    have HM := Lib.hid (And.intro hAm hr)
    obtain ⟨cur, hr1, hr2, hr3⟩ := HK.out.row
    have HR := Lib.hid (And.intro hr1 (And.intro hr2 hr3))
    clear hn hrr hAm hr hr1 hr2 hr3
    rcases (by omega : (n = t.size ∧ t.size ≤ r) ∨ (n = r ∧ r < t.size)) with ⟨rfl, hcase⟩ | ⟨hnr, hcase⟩
    · clear hn'
      have hcase' : (t.size : Int) ≤ r := by omega
      go_enter Try.func9, Try.ntmps9
      go_wp2_with fail
      refine HL.out.mono ?_
      rintro e w1 ⟨rfl, rfl⟩
      go_wp2_with fail
      go_quiet (fail)
      go_wp2_with fail
      refine wp_region_ord (fun w' => w'.cell? ⟨g, 0, none⟩ = some (.slice (some ⟨gb, 0, none⟩) c kq)) 10 [(true, 0), (true, 1), (true, 2), (true, 3), (true, 4), (true, 5), (true, 6), (true, 7), (true, 8), (false, 9)] default (by kernel_rfl) (by kernel_rfl) (fun d _ _ _ _ h => by cases d <;> exact h) ?_ ?_
      · exact c0
      simp only [List.map_cons, List.map_nil, List.getD_cons_succ, List.getD_cons_zero]
      repeat
        (refine heldL_take ?_ ?_ ?_
         rotate_left
         · intro w' hw'
           try dsimp only at hw'
           go_simp
           try with_reducible rfl
         try simp only [Act.put, List.setIfInBounds_toArray, List.set_cons_zero, List.set_cons_succ])
      refine heldL_move (fun K hK => ?_)
      refine wp_copy_str _ (.tmp 35) (.tmp 38) 22 9 5 (by rfl) Try.underlying22 (by kernel_rfl) gb A (c - A) (kq - A) t cur (by rfl) (by rfl) (by exact HR.out.1) (by have := HR.out.2.1; omega) ?_
      intro w2 cp2
      obtain ⟨⟨cur1, q1, q2, q3, q4⟩, o1⟩ := cp2
      have x2 := HK.out.blk.only (by exact (⟨o1.os, o1.tape, o1.output, o1.size, o1.block⟩ : Only [gb] w w2)) (by simp; exact Ne.symm HK.out.ne)
      have y0 := Blk.cell x2 0
      have y2 := Blk.cell x2 2
      have g2 := Blk.frozen x2 2
      simp at y0 y2
      refine hK.out _ _ ?_ (fun hS => ?_)
      · exact y0
      clear hK K hS
      try simp only [Act.put, List.setIfInBounds_toArray, List.set_cons_zero, List.set_cons_succ]
      refine heldL_last (fun K hK => ?_)
      go_simp
      refine hK _ _ ?_
      clear hK K
      try simp only [Act.put, List.setIfInBounds_toArray, List.set_cons_zero, List.set_cons_succ]
      obtain ⟨k1, ek1⟩ : ∃ k1 : Nat, k1 = min t.size (c - A) := ⟨_, rfl⟩
      have ek1' : (((min t.size (c - A) : Nat)) : Int) = (k1 : Int) := by rw [ek1]
      have hk1n : k1 ≤ t.size := by omega
      have HC1 := Lib.hid (And.intro q1 (And.intro q2 (And.intro q3 (And.intro q4 (And.intro o1 x2)))))
      have HEK := Lib.hid ek1
      clear q1 q2 q3 q4 o1 x2
      try rw [ek1']
      clear ek1' ek1
      go_wp2_with fail
      refine wp_region_ord (fun w' => w'.cell? ⟨g, 0, none⟩ = some (.slice (some ⟨gb, 0, none⟩) c kq)) 8 [(true, 0), (true, 1), (true, 2), (true, 3), (true, 4), (true, 5), (true, 6), (true, 7)] default (by kernel_rfl) (by kernel_rfl) (fun d _ _ _ _ h => by cases d <;> exact h) ?_ ?_
      · exact y0
      simp only [List.map_cons, List.map_nil, List.getD_cons_succ, List.getD_cons_zero]
      repeat
        (refine heldL_take ?_ ?_ ?_
         rotate_left
         · intro w' hw'
           try dsimp only at hw'
           go_simp
           try with_reducible rfl
         try simp only [Act.put, List.setIfInBounds_toArray, List.set_cons_zero, List.set_cons_succ])
      refine heldL_last (fun K hK => ?_)
      have hcs : cur1.size = kq := by rw [HC1.out.2.1]; exact HR.out.2.1
      refine wp_copy_str _ (.tmp 43) (.tmp 47) 22 9 5 (by rfl) Try.underlying22 (by kernel_rfl) gb 0 c kq (t.extract k1 t.size) cur1 (by rfl) (by rfl) (by exact HC1.out.1) (by omega) ?_
      intro w3 cp3
      refine hK _ _ ?_
      clear hK K
      try simp only [Act.put, List.setIfInBounds_toArray, List.set_cons_zero, List.set_cons_succ]
      obtain ⟨⟨cur2, q1, q2, q3, q4⟩, o1⟩ := cp3
      have o1' : Only [gb] w2 w3 := ⟨o1.os, o1.tape, o1.output, o1.size, o1.block⟩
      have x3 := HC1.out.2.2.2.2.2.only o1' (by simp; exact Ne.symm HK.out.ne)
      have z2 := Blk.cell x3 2
      have g3 := Blk.frozen x3 2
      simp at z2
      have hfin : ∀ (q : Nat) (x : Int), x = (s.length : Int) + t.size → Wrote w g gb c kq s t (t.size) (.returned (.int .i64 (t.size : Nat))) ((w3.setCell ⟨g, 2, none⟩ (.int .i64 x)).drewN q) := by
        rintro q x rfl
        have hA := HM.out.1
        have hcr := HM.out.2
        have hes : (t.extract k1 t.size).size = t.size - k1 := ext_size t k1 _ (by omega)
        have hrow := write_row (cur := cur) (cur1 := cur1) (cur2 := cur2) (s := s) (bs := t.data.toList) (f := f) (c := c) (n := t.size) (A := A) (k1 := k1) hfc (by omega) (by rw [← Go.Lib.size_eq]; omega) hA (by have := HEK.out; omega) HR.out.2.2
          (fun i hi x hx => HC1.out.2.2.1 i (by rw [← HEK.out]; exact hi) x hx)
          (fun i hi => HC1.out.2.2.2.1 i (by rw [← HEK.out]; exact hi))
          (fun i hi x hx => by have := q3 i (by omega) x (by rw [ext_get t k1 _ i (by omega)]; exact hx); rwa [Nat.zero_add] at this)
          (fun i hi => q4 i (.inr (by omega)))
        have hlen : (s ++ t.data.toList.take t.size).length = s.length + t.size := by rw [List.length_append, List.length_take, ← Go.Lib.size_eq]; omega
        have OA : Only [gb] w w2 := ⟨HC1.out.2.2.2.2.1.os, HC1.out.2.2.2.2.1.tape, HC1.out.2.2.2.2.1.output, HC1.out.2.2.2.2.1.size, HC1.out.2.2.2.2.1.block⟩
        have OO : Only [g, gb] w w3 := (OA.mono (T := [g, gb]) (fun i hi => .inl (by simp at hi; simp [hi]))).trans (T := [gb]) o1' (fun i hi => .inl (by simp at hi; simp [hi]))
        refine ⟨rfl, ⟨f, ⟨?_, ⟨cur2, ?_, by rw [q2, hcs], hrow⟩, by omega, hc, by omega, hkq, hkb, ?_⟩⟩, (OO.setCell (.inl (by simp)) _).drewN q⟩
        · have := (Blk.set_ x3 2 (.int .i64 ((s.length : Int) + t.size))).drewN q
          rw [hlen]
          simpa using this
        · have hne := HK.out.ne
          show (w3.setCell ⟨g, 2, none⟩ _).heap[gb]? = _
          rw [Below.heap_setCell _ _ _ _ (by simpa using hne)]
          exact q1
        · have hne := HK.out.ne
          intro cur' hcur'
          replace hcur' : (w3.setCell ⟨g, 2, none⟩ _).heap[gb]? = _ := hcur'
          rw [Below.heap_setCell _ _ _ _ (by simpa using hne)] at hcur'
          obtain rfl := cells_of q1 hcur'
          exact Copied.one q3 q4 (by rw [← Go.Lib.size_eq]; omega) (Copied.one HC1.out.2.2.1 HC1.out.2.2.2.1 (by rw [← Go.Lib.size_eq]; first | omega | (have := HES.out; omega)) (HK.out.ones cur HR.out.1))
      have HFIN := Lib.hid hfin
      clear hfin q1 q2 q3 q4 o1 o1' x3
      go_wp2_with fail
      go_ret
      exact HFIN.out 0 _ (by omega)
    · clear hn'
      have enr := hnr.symm
      clear hnr
      subst enr
      have hcase' : (r : Int) < t.size := by omega
      have hcase2 : r ≤ t.size := by omega
      have hes0 : (t.extract 0 r).size = r := ext_size t 0 r (by omega)
      have HES := Lib.hid hes0
      clear hes0
      go_enter Try.func9, Try.ntmps9
      go_wp2_with fail
      refine HL.out.mono ?_
      rintro e w1 ⟨rfl, rfl⟩
      go_wp2_with fail
      go_quiet (fail)
      go_wp2_with fail
      refine wp_region_ord (fun w' => w'.cell? ⟨g, 0, none⟩ = some (.slice (some ⟨gb, 0, none⟩) c kq)) 10 [(true, 0), (true, 1), (true, 2), (true, 3), (true, 4), (true, 5), (true, 6), (true, 7), (true, 8), (false, 9)] default (by kernel_rfl) (by kernel_rfl) (fun d _ _ _ _ h => by cases d <;> exact h) ?_ ?_
      · exact c0
      simp only [List.map_cons, List.map_nil, List.getD_cons_succ, List.getD_cons_zero]
      repeat
        (refine heldL_take ?_ ?_ ?_
         rotate_left
         · intro w' hw'
           try dsimp only at hw'
           go_simp
           try with_reducible rfl
         try simp only [Act.put, List.setIfInBounds_toArray, List.set_cons_zero, List.set_cons_succ])
      refine heldL_move (fun K hK => ?_)
      refine wp_copy_str _ (.tmp 35) (.tmp 38) 22 9 5 (by rfl) Try.underlying22 (by kernel_rfl) gb A (c - A) (kq - A) (t.extract 0 r) cur (by rfl) (by rfl) (by exact HR.out.1) (by have := HR.out.2.1; omega) ?_
      intro w2 cp2
      obtain ⟨⟨cur1, q1, q2, q3, q4⟩, o1⟩ := cp2
      rw [HES.out] at q3 q4
      have x2 := HK.out.blk.only (by exact (⟨o1.os, o1.tape, o1.output, o1.size, o1.block⟩ : Only [gb] w w2)) (by simp; exact Ne.symm HK.out.ne)
      have y0 := Blk.cell x2 0
      have y2 := Blk.cell x2 2
      have g2 := Blk.frozen x2 2
      simp at y0 y2
      refine hK.out _ _ ?_ (fun hS => ?_)
      · exact y0
      clear hK K hS
      try simp only [Act.put, List.setIfInBounds_toArray, List.set_cons_zero, List.set_cons_succ]
      refine heldL_last (fun K hK => ?_)
      go_simp
      refine hK _ _ ?_
      clear hK K
      try simp only [Act.put, List.setIfInBounds_toArray, List.set_cons_zero, List.set_cons_succ]
      obtain ⟨k1, ek1⟩ : ∃ k1 : Nat, k1 = min r (c - A) := ⟨_, rfl⟩
      have ek1' : (((min r (c - A) : Nat)) : Int) = (k1 : Int) := by rw [ek1]
      have hk1n : k1 ≤ r := by omega
      have HC1 := Lib.hid (And.intro q1 (And.intro q2 (And.intro q3 (And.intro q4 (And.intro o1 x2)))))
      have HEK := Lib.hid ek1
      clear q1 q2 q3 q4 o1 x2
      try rw [ek1']
      clear ek1' ek1
      go_wp2_with fail
      refine wp_region_ord (fun w' => w'.cell? ⟨g, 0, none⟩ = some (.slice (some ⟨gb, 0, none⟩) c kq)) 8 [(true, 0), (true, 1), (true, 2), (true, 3), (true, 4), (true, 5), (true, 6), (true, 7)] default (by kernel_rfl) (by kernel_rfl) (fun d _ _ _ _ h => by cases d <;> exact h) ?_ ?_
      · exact y0
      simp only [List.map_cons, List.map_nil, List.getD_cons_succ, List.getD_cons_zero]
      repeat
        (refine heldL_take ?_ ?_ ?_
         rotate_left
         · intro w' hw'
           try dsimp only at hw'
           go_simp
           try with_reducible rfl
         try simp only [Act.put, List.setIfInBounds_toArray, List.set_cons_zero, List.set_cons_succ])
      refine heldL_last (fun K hK => ?_)
      have hcs : cur1.size = kq := by rw [HC1.out.2.1]; exact HR.out.2.1
      refine wp_copy_str _ (.tmp 43) (.tmp 47) 22 9 5 (by rfl) Try.underlying22 (by kernel_rfl) gb 0 c kq (t.extract k1 r) cur1 (by rfl) (by rfl) (by exact HC1.out.1) (by omega) ?_
      intro w3 cp3
      refine hK _ _ ?_
      clear hK K
      try simp only [Act.put, List.setIfInBounds_toArray, List.set_cons_zero, List.set_cons_succ]
      obtain ⟨⟨cur2, q1, q2, q3, q4⟩, o1⟩ := cp3
      have o1' : Only [gb] w2 w3 := ⟨o1.os, o1.tape, o1.output, o1.size, o1.block⟩
      have x3 := HC1.out.2.2.2.2.2.only o1' (by simp; exact Ne.symm HK.out.ne)
      have z2 := Blk.cell x3 2
      have g3 := Blk.frozen x3 2
      simp at z2
      have hfin : ∀ (q : Nat) (x : Int), x = (s.length : Int) + r → Wrote w g gb c kq s t r (.returned (.int .i64 (r : Nat))) ((w3.setCell ⟨g, 2, none⟩ (.int .i64 x)).drewN q) := by
        rintro q x rfl
        have hA := HM.out.1
        have hcr := HM.out.2
        have hes : (t.extract k1 r).size = r - k1 := ext_size t k1 _ (by omega)
        have hrow := write_row (cur := cur) (cur1 := cur1) (cur2 := cur2) (s := s) (bs := t.data.toList) (f := f) (c := c) (n := r) (A := A) (k1 := k1) hfc (by omega) (by rw [← Go.Lib.size_eq]; omega) hA (by have := HEK.out; omega) HR.out.2.2
          (fun i hi x hx => HC1.out.2.2.1 i (by rw [← HEK.out]; exact hi) x (by rw [ext_get t 0 r i (by omega), Nat.zero_add]; exact hx))
          (fun i hi => HC1.out.2.2.2.1 i (by rw [← HEK.out]; exact hi))
          (fun i hi x hx => by have := q3 i (by omega) x (by rw [ext_get t k1 _ i (by omega)]; exact hx); rwa [Nat.zero_add] at this)
          (fun i hi => q4 i (.inr (by omega)))
        have hlen : (s ++ t.data.toList.take r).length = s.length + r := by rw [List.length_append, List.length_take, ← Go.Lib.size_eq]; omega
        have OA : Only [gb] w w2 := ⟨HC1.out.2.2.2.2.1.os, HC1.out.2.2.2.2.1.tape, HC1.out.2.2.2.2.1.output, HC1.out.2.2.2.2.1.size, HC1.out.2.2.2.2.1.block⟩
        have OO : Only [g, gb] w w3 := (OA.mono (T := [g, gb]) (fun i hi => .inl (by simp at hi; simp [hi]))).trans (T := [gb]) o1' (fun i hi => .inl (by simp at hi; simp [hi]))
        refine ⟨rfl, ⟨f, ⟨?_, ⟨cur2, ?_, by rw [q2, hcs], hrow⟩, by omega, hc, by omega, hkq, hkb, ?_⟩⟩, (OO.setCell (.inl (by simp)) _).drewN q⟩
        · have := (Blk.set_ x3 2 (.int .i64 ((s.length : Int) + r))).drewN q
          rw [hlen]
          simpa using this
        · have hne := HK.out.ne
          show (w3.setCell ⟨g, 2, none⟩ _).heap[gb]? = _
          rw [Below.heap_setCell _ _ _ _ (by simpa using hne)]
          exact q1
        · have hne := HK.out.ne
          intro cur' hcur'
          replace hcur' : (w3.setCell ⟨g, 2, none⟩ _).heap[gb]? = _ := hcur'
          rw [Below.heap_setCell _ _ _ _ (by simpa using hne)] at hcur'
          obtain rfl := cells_of q1 hcur'
          exact Copied.one q3 q4 (by rw [← Go.Lib.size_eq]; omega) (Copied.one HC1.out.2.2.1 HC1.out.2.2.2.1 (by rw [← Go.Lib.size_eq]; first | omega | (have := HES.out; omega)) (HK.out.ones cur HR.out.1))
      have HFIN := Lib.hid hfin
      clear hfin q1 q2 q3 q4 o1 o1' x3
      go_wp2_with fail
      go_ret
      exact HFIN.out 0 _ (by omega)
end Go.Proofs.Ytejbpjfigopplaa
