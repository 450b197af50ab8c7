/- A slice of the call's own that may begin anywhere in its block: resliced from the front, appended to. -/
import Derived.WalkKit
import Derived.ProofKit
import Derived.ArgAppend
import Derived.Laws.AppendOwn
import Derived.Test.YtdegdikkjaifiaaMem
import Derived.Test.YtdegdikkjaifiaaApp
import Derived.Test.YtdegdikkjaifiaaReads
import Derived.Test.YtdegdikkjaifiaaCut
namespace Go.Proofs.Ytdegdikkjaifiaa
open Go.RowKit
set_option linter.unusedVariables false
section
variable {P : Program} (w : World)
theorem run_append_room_off (t ty e : TypeId) (i : TypeInfo) (ht : P.underlying t = some (.slice e)) (hi : P.info? e = some i)
    (g off sLen sCap : Nat) (cur : Array Value) (hg : w.heap[g]? = some (.cells cur e (0, 0)))
    (a : Addr) (m c : Nat) (news : List Value) (hl : news.length = m * i.size) (hnews : ∀ j u, news[j]? = some u → w.cell? (a.add j) = some u) (h1 : ∀ u ∈ news, u.oneCell' = true)
    (hroom : sLen + m ≤ sCap) (hfit : off + sLen * i.size + news.length ≤ cur.size) :
    (Builtin.append_ #[t, t] ty #[.slice (some ⟨g, off, none⟩) sLen sCap, .slice (some a) m c]).run P w =
      .ok (.slice (some ⟨g, off, none⟩) (sLen + m) sCap) (w.setRow g (cur.toList.take (off + sLen * i.size) ++ news ++ cur.toList.drop (off + sLen * i.size + news.length)).toArray) := by
  have hf := run_firstCells_some (P := P) w i.size m a m c news hl hnews
  have hst := run_storeCells_at P g (off + sLen * i.size) e news 0 cur w hg (by simpa using hfit) h1
  simp only [Nat.add_zero] at hst
  simp [Builtin.append_, run_underlying ht, sizeOf, typeInfo, hi, Builtin.lenOf, hroom, hf, Addr.add_lit, hst]
end
/-- A slice of the call's own, from an offset on. -/
def OwnO (w : World) (base : Nat) (e : TypeId) (sz : Nat) (A : Option Addr) (n c : Nat) (xs : List Value) : Prop :=
  Held w e sz A n c xs ∧ c ≤ maxLen ∧ (A = none ∨ ∃ g off cur, A = some ⟨g, off, none⟩ ∧ base ≤ g ∧ w.heap[g]? = some (.cells cur e (0, 0)) ∧ off + c * sz ≤ cur.size ∧ ∀ (j : Nat) (u : Value), xs[j]? = some u → cur[off + j]? = some u)
section
variable {w w' : World} {base : Nat} {e : TypeId} {sz n c : Nat} {A : Option Addr} {xs : List Value}
theorem OwnO.nil_ (w : World) (base : Nat) (e : TypeId) (sz : Nat) : OwnO w base e sz none 0 0 [] := ⟨Held.nil_ _ _ _, Nat.zero_le _, .inl rfl⟩
theorem OwnO.of_own (h : w.ownsRow base e sz (.slice A n c) n xs) : OwnO w base e sz A n c xs := by
  refine ⟨Held.of_own h, ?_⟩
  rcases h.2 with ⟨hv, hn⟩ | ⟨g, cap, cur, hv, hg, hh, hnc, hcm, hsz, ht⟩
  · injection hv with h1 h2 h3
    exact ⟨by omega, .inl h1⟩
  · injection hv with h1 h2 h3
    subst h1 h3
    refine ⟨hcm, .inr ⟨g, 0, cur, rfl, hg, hh, by omega, fun j u hu => ?_⟩⟩
    rw [← ht, List.getElem?_take] at hu
    split at hu
    · rw [Nat.zero_add, ← Array.getElem?_toList]; exact hu
    · cases hu
theorem OwnO.keepA (k : OwnO w base e sz A n c xs) (hk : ∀ a off, A = some ⟨a, off, none⟩ → w'.heap[a]? = w.heap[a]?) : OwnO w' base e sz A n c xs := by
  obtain ⟨h1, h2, h3⟩ := k
  rcases h3 with rfl | ⟨g, off, cur, rfl, hg, hh, hf, hx⟩
  · exact ⟨⟨h1.1, h1.2.1, h1.2.2.1, h1.2.2.2.1, fun hn => absurd (h1.2.2.2.1 rfl).1 (by omega)⟩, h2, .inl rfl⟩
  · have he := (hk g off rfl).trans hh
    exact ⟨⟨h1.1, h1.2.1, h1.2.2.1, h1.2.2.2.1, fun _ => ⟨g, off, cur, rfl, he, hx⟩⟩, h2, .inr ⟨g, off, cur, rfl, hg, he, hf, hx⟩⟩
theorem OwnO.ltA (k : OwnO w base e sz A n c xs) {a off : Nat} (hA : A = some ⟨a, off, none⟩) : a < w.heap.size ∧ base ≤ a := by
  rcases k.2.2 with rfl | ⟨g, off', cur, rfl, hg, hh, hf, hx⟩
  · cases hA
  · injection hA with hA
    injection hA with e1 e2
    subst e1
    exact ⟨lt_of_blk hh, hg⟩
/-- Where nothing has turned in its block. -/
theorem OwnO.keep (h : OwnO w base e sz A n c xs) (hk : ∀ g cur, base ≤ g → w.heap[g]? = some (Obj.cells cur e (0, 0)) → w'.heap[g]? = w.heap[g]?) (hk2 : A = none → n = 0) : OwnO w' base e sz A n c xs := by
  obtain ⟨h1, h2, h3⟩ := h
  rcases h3 with rfl | ⟨g, off, cur, rfl, hg, hh, hf, hx⟩
  · exact ⟨⟨h1.1, h1.2.1, h1.2.2.1, h1.2.2.2.1, fun hn => absurd (h1.2.2.2.1 rfl).1 (by omega)⟩, h2, .inl rfl⟩
  · have he := (hk g cur hg hh).trans hh
    exact ⟨⟨h1.1, h1.2.1, h1.2.2.1, h1.2.2.2.1, fun _ => ⟨g, off, cur, rfl, he, hx⟩⟩, h2, .inr ⟨g, off, cur, rfl, hg, he, hf, hx⟩⟩
theorem OwnO.nn (h : OwnO w base e sz A n c xs) : A = none → n = 0 := fun e => (h.1.2.2.2.1 e).1
theorem OwnO.below (h : OwnO w base e sz A n c xs) (hb : Below w.heap.size w w') : OwnO w' base e sz A n c xs := h.keep (fun g cur _ hh => hb.block g (lt_of_blk hh)) h.nn
theorem OwnO.drewN (h : OwnO w base e sz A n c xs) (k : Nat) : OwnO (w.drewN k) base e sz A n c xs := h.below (below_drewN (Below.refl _ _) k)
theorem OwnO.alloc (h : OwnO w base e sz A n c xs) (o : Obj) : OwnO (w.alloc o) base e sz A n c xs := h.below ((Below.refl _ _).alloc (Nat.le_refl _) o)
/-- Only blocks of other types have turned. -/
theorem OwnO.only {S : List Nat} (h : OwnO w base e sz A n c xs) (k : Only S w w') (hS : ∀ g ∈ S, g < w.heap.size → ∃ t cs fr, w.heap[g]? = some (Obj.cells cs t fr) ∧ t ≠ e) : OwnO w' base e sz A n c xs :=
  h.keep (fun g cur _ hh => k.block g (lt_of_blk hh) (fun hm => by
    obtain ⟨t, cs, fr, h1, h2⟩ := hS g hm (lt_of_blk hh)
    rw [hh] at h1
    injection h1 with h1
    injection h1 with _ h1
    exact h2 h1.symm)) h.nn
variable {P : Program}
theorem OwnO.append {t ty : TypeId} {i : TypeInfo} {z : Value} {bytes : Nat} (h : OwnO w base e sz A n c xs) (ht : P.underlying t = some (.slice e)) (hi : P.info? e = some i) (hz : i.zero = some z)
    (hsize : i.size = sz) (hby : i.bytes = bytes) (hzs : z.cells.size = sz) (hsz : 0 < sz) {a : Addr} {m c' : Nat} {news : List Value} (hl : news.length = m * sz) (hnews : ∀ j u, news[j]? = some u → w.cell? (a.add j) = some u) (h1 : ∀ u ∈ news, u.oneCell' = true) (hm0 : 0 < m)
    (h63 : n + m ≤ maxLen) (hbytes : (n + m) * bytes ≤ 140737488355328) (hbase : base ≤ w.heap.size) :
    ∃ A' c'' w', (Builtin.append_ #[t, t] ty #[.slice A n c, .slice (some a) m c']).run P w = .ok (.slice A' (n + m) c'') w' ∧ OwnO w' base e sz A' (n + m) c'' (xs ++ news) ∧ w.grownBy w' ((Value.slice A n c).ownBlock) ∧ ∀ a off, A' = some ⟨a, off, none⟩ → (∃ off', A = some ⟨a, off', none⟩) ∨ w.heap.size ≤ a := by
  obtain ⟨hh, hcm, hA⟩ := h
  rcases hA with rfl | ⟨g, off, cur, rfl, hg, hcur, hf, hx⟩
  · obtain ⟨rfl, rfl⟩ := hh.2.2.2.1 rfl
    have hxs : xs = [] := List.eq_nil_of_length_eq_zero (by simpa using hh.1)
    subst hxs
    obtain ⟨v', w', hrun, h2, h3, _⟩ := run_append_own (P := P) w w.heap.size t ty e i z sz bytes ht hi hz hsize hby hzs hsz (.slice none 0 0) 0 [] (own_nil _ _ _ _) a m c' news hl hnews h1 h63 hbytes (Nat.le_refl _)
    obtain ⟨A1, k1, rfl⟩ := slice_of_own' h2
    exact ⟨A1, k1, w', hrun, OwnO.of_own (own_base h2 hbase), h3, fun a' off e => .inr (((OwnO.of_own h2).ltA e).2)⟩
  · by_cases hroom : n + m ≤ c
    · have hfit : off + n * i.size + news.length ≤ cur.size := by
        rw [hsize, hl]
        have : n * sz + m * sz ≤ c * sz := by rw [← Nat.add_mul]; exact Nat.mul_le_mul_right _ hroom
        omega
      have hr := run_append_room_off (P := P) w t ty e i ht hi g off n c cur hcur a m c' news (by rw [hsize]; exact hl) hnews h1 hroom hfit
      rw [hsize] at hr hfit
      have hle : off + n * sz ≤ cur.toList.length := by rw [Array.length_toList]; omega
      have hxs : ∀ (j : Nat) (u : Value), (xs ++ news)[j]? = some u → (cur.toList.take (off + n * sz) ++ news ++ cur.toList.drop (off + n * sz + news.length)).toArray[off + j]? = some u := fun j u hu => by
        rw [List.getElem?_toArray, List.append_assoc]
        by_cases hj : j < xs.length
        · rw [List.getElem?_append_left hj] at hu
          rw [List.getElem?_append_left (by rw [List.length_take, Nat.min_eq_left hle]; have := hh.1; omega), List.getElem?_take, if_pos (by have := hh.1; omega)]
          have := hx j u hu
          rw [← Array.getElem?_toList] at this
          exact this
        · rw [List.getElem?_append_right (by omega)] at hu
          have hjn : j - xs.length < news.length := (List.getElem?_eq_some_iff.1 hu).1
          rw [List.getElem?_append_right (by rw [List.length_take, Nat.min_eq_left hle]; have := hh.1; omega), List.length_take, Nat.min_eq_left hle, List.getElem?_append_left (by have := hh.1; omega)]
          rw [show off + j - (off + n * sz) = j - xs.length by have := hh.1; omega]
          exact hu
      refine ⟨some ⟨g, off, none⟩, c, _, hr, ⟨⟨by rw [List.length_append, hh.1, hl, Nat.add_mul], hroom, hh.2.2.1, fun e => (by cases e), fun _ => ⟨g, off, _, rfl, setRow_heap w g cur _ e _ hcur, hxs⟩⟩, hcm, .inr ⟨g, off, _, rfl, hg, setRow_heap w g cur _ e _ hcur, ?_, hxs⟩⟩, ⟨rfl, rfl, rfl, by simp, fun k _ hk => setRow_other w g k _ (fun e => hk (by simp [Value.ownBlock, e]))⟩, fun a' off' e => .inl ⟨off, by injection e with e; injection e with e1 e2; rw [e1]⟩⟩
      simp only [List.size_toArray, List.length_append, List.length_take, List.length_drop, Array.length_toList]
      omega
    · obtain ⟨v', w', hrun, h2, h3⟩ := run_append_arg_grows (P := P) w t ty e i z sz bytes ht hi hz hsize hby hzs hsz ⟨g, off, none⟩ n c xs hh.1 (hh.cells_ _ rfl) a m c' news hl hnews (by omega) h63 hbytes
      obtain ⟨A1, k1, rfl⟩ := slice_of_own' h2
      have ho := OwnO.of_own h2
      refine ⟨A1, k1, w', hrun, ⟨ho.1, ho.2.1, ?_⟩, ⟨h3.os, h3.tape, h3.output, h3.size, fun k hk _ => h3.block k hk (by simp)⟩, fun a' off' e => .inr ((ho.ltA e).2)⟩
      rcases ho.2.2 with r | ⟨g2, off2, cur2, q1, q2, q3⟩
      · exact .inl r
      · exact .inr ⟨g2, off2, cur2, q1, Nat.le_trans hbase q2, q3⟩
end
section
variable {P : Program} {w w' : World}
theorem wpList_append_run {ops : Array Oper} {rest : List Oper} {o : Oper} {a : Act} {Q : Exit → Act → World → Prop} (hgd : o.guard = none) (s x : Operand) (t : TypeId)
    (ho : o.op = .call { callee := .builtin .append, args := #[s, x], argTypes := #[t, t] }) {sv xv v : Value} (hs : a.eval s = sv) (hx : a.eval x = xv)
    (hr : (Builtin.append_ #[t, t] o.type #[sv, xv]).run P w = .ok v w') (h : wpList P ops Q rest (a.put o.dst v) w') : wpList P ops Q (o :: rest) a w :=
  wpList_plain hgd fun _ hK => by
    unfold Oper.wp execOp
    simp only [ho, resolve, invoke, builtin, Sem.run_bind, Sem.run_pure, Result.andThen_ok, List.map_toArray, List.map_cons, List.map_nil, hs, hx, hr]
    exact hK _ _ h
end
end Go.Proofs.Ytdegdikkjaifiaa
