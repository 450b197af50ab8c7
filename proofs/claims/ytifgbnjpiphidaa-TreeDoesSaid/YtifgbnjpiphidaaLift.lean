/- What every law's last step needs: arguments read again behind a call that wrote new memory alone; a slice of structs of ints opened. Plain lemmas, after the guide's own (extra-small 9, extra-structs 1). -/
import Derived.WalkKit
import Derived.ProofKit
import Derived.Below
import Derived.Deep.Slices
import Derived.Deep.Fields
import Derived.ChangeSame
import Derived.Carry
import Derived.OpenShut
import Derived.Test.YtifgbnjpiphidaaMem
namespace Go.Proofs.Ytifgbnjpiphidaa
open Go.RowKit Go.WideShapes Go.ChangeShapes Go.Deep
section
variable {H : Type} {enc : TypeId × Value → H} {P : Program}
theorem post_of_below {f : Func} {s : ChangeSpec} {apart fresh handsOn again : Bool} {W W' : World} {args : Array Value} {v : Value} {ds gs : List (DataW H)} {before pa pv : List MemPlace}
    (hW : DataW.Whole enc P f.params.toList s.vars apart W args.toList ds gs before)
    (hres : ∀ (b : Nat) (sp : Nat → Bool) (hd : Bool), DataW.TrodAll enc P W' b sp hd f.resultTypes.toList (v.resultList f.resultTypes.size) (s.fn H (ds ++ gs)).results [])
    (hargs : ∀ sp : Nat → Bool, (∀ p ∈ before, sp p.block = true) → DataW.TrodAll enc P W' 0 sp true f.params.toList args.toList (s.fn H (ds ++ gs)).args pa)
    (hvars : ∀ sp : Nat → Bool, (∀ p ∈ before, sp p.block = true) → DataW.TrodVars enc P W' sp s.vars (s.fn H (ds ++ gs)).vars pv)
    (hps : before = pa ++ pv) (hb : Below W.heap.size W W')
    (hok : ∀ (j : Nat) (t : TypeId) (r : Value), f.resultTypes[j]? = some t → (v.resultList f.resultTypes.size)[j]? = some r → Value.okWide P W' .any 0 t r) :
    s.post enc P f apart fresh handsOn again W args v W' := by
  have hlt : ∀ p ∈ before, p.block < W.heap.size := fun p hp => hW.lt p hp
  have hold : ∀ p ∈ before, (fun b => decide (b < W.heap.size)) p.block = true := fun p hp => by simpa using hlt p hp
  refine ⟨ds, gs, before, [], pa, pv, hW, hres _ _ _, hargs _ hold, hvars _ hold, World.keptBut_mono (fun p hp => ⟨hp, ?_⟩) (hb.frame (· ∈ before)), fun _ => ?_⟩
  · rw [hps, List.mem_append] at hp
    exact Or.inr hp
  · obtain ⟨_, _, _, _, _, hz, hn⟩ := hW
    refine ⟨hok, _, _, ([] ++ pa) ++ pv, ⟨[] ++ pa, pv, trodAll_append (hargs _ (fun _ _ => rfl)) (hres _ _ _), hvars _ (fun _ _ => rfl), rfl, ?_, ?_⟩, ?_⟩
    · intro b off hp
      have hin : MemPlace.cell b off ∈ before := by rw [hps]; simpa using hp
      rw [hb.frozen (hlt _ hin)]
      exact hz b off hin
    · intro ha
      have := hn ha
      rw [hps] at this
      simpa using this
    · intro p hp _
      rw [hps]
      simpa using hp

theorem below_trod {t : TypeId} (sp : Nat → Bool) (hl : laidOutB P = true) (hr : P.readableRec t = true) (hrow : t < P.types.size) {W W' : World} {v : Value} {d : DataW H} {ps : List MemPlace}
    (h : DataW.Trod enc P W 0 (fun _ => true) true t v d ps) (hb : Below W.heap.size W W') (hlt : ∀ x ∈ ps, x.block < W.heap.size) (hsp : ∀ x ∈ ps, sp x.block = true) :
    DataW.Trod enc P W' 0 sp true t v d ps :=
  WideElems.Trod_stays hl hr hrow h (fun x hx => hb.same (hlt x hx)) hsp

variable {w : World} {base : Nat} {spare : Nat → Bool} {held : Bool}
theorem open_slice_fields {t e : TypeId} {fs : Array Field} {fuel : Nat} {cs : List Value} {x : DataW H × List MemPlace} (ht : P.underlying t = some (.slice e)) (he : P.underlying e = some (.struct fs))
    (hone : oneCellFields P fs = true) (hC : P.cellsOf e = fs.size) (h : DataW.trod enc P w base spare held fuel t cs = some x) :
    (cs = [.slice none 0 0] ∧ x = (.nil, [])) ∨
    ∃ (a : Addr) (len cap m : Nat) (D : Nat → DataW H) (Pl : Nat → List MemPlace), cs = [.slice (some a) len cap] ∧ base ≤ a.block ∧ len ≤ cap ∧ cap ≤ maxLen ∧ m = (if spare a.block then cap else len) ∧
      x = (.slice ((List.range len).map D) ((List.range (m - len)).map fun j => D (len + j)), MemPlace.row a (m * fs.size) ++ (List.range m).flatMap Pl) ∧
      ∀ i, i < m → ∃ (ys : List (DataW H × List MemPlace)) (n : Nat), D i = .agg (ys.map (·.1)) ∧ Pl i = ys.flatMap (·.2) ∧ ys.length = fs.size ∧
        ∀ (j : Nat) (f : Field), fs[j]? = some f → ∃ (v : Value) (y : DataW H × List MemPlace), w.cell? (a.add (i * fs.size + j)) = some v ∧ ys[j]? = some y ∧ DataW.trod enc P w base spare held n f.type [v] = some y := by
  rcases open_slice ht h with h0 | ⟨a, len, cap, m, n, D, Pl, hcs, hb, hl, hm, hmm, hx, hi⟩
  · exact .inl h0
  · refine .inr ⟨a, len, cap, m, D, Pl, hcs, hb, hl, hm, hmm, by rw [hC] at hx; exact hx, fun i him => ?_⟩
    obtain ⟨cs', hc, ht'⟩ := hi i him
    rw [hC] at hc
    obtain ⟨ys, n', hn', hy, hlen, hyl, hf⟩ := DataW.trod_struct he ht'
    obtain ⟨_, hcl, hat⟩ := World.cells?_some hc
    simp only [Prod.mk.injEq] at hy
    refine ⟨ys, n', hy.1, hy.2, hyl, fun j f hj => ?_⟩
    obtain ⟨ho, hk⟩ := hone_of hone j f hj
    have hjl : j < fs.size := (Array.getElem?_eq_some_iff.1 hj).1
    have hcell := hat j hjl
    have hv : cs'[j]? = some (cs'[j]'(by omega)) := List.getElem?_eq_getElem (by omega)
    have h1 := hf j f hj
    rw [ho, hk] at h1
    have hone' : (cs'.drop j).take 1 = [cs'[j]'(by omega)] := by
      rw [List.drop_eq_getElem_cons (by omega)]
      rfl
    rw [hone'] at h1
    have hys : ys[j]? = some (ys[j]'(by omega)) := List.getElem?_eq_getElem (by omega)
    refine ⟨_, _, ?_, hys, h1.trans hys⟩
    rw [← Go.Deep.add_add, hcell, hv]
end

theorem spot_of_cell {w : World} {a : Addr} {v : Value} (h : w.cell? a = some v) : a.spot = none := World.cell?_spot h
theorem lt_of_cell {w : World} {a : Addr} {v : Value} (h : w.cell? a = some v) : a.block < w.heap.size := by
  rcases Nat.lt_or_ge a.block w.heap.size with hlt | hge
  · exact hlt
  · unfold World.cell? at h; rw [Array.getElem?_eq_none hge] at h; cases h
theorem add_plain_ (b off n : Nat) : (⟨b, off, none⟩ : Addr).add n = ⟨b, off + n, none⟩ := by
  unfold Addr.add; split
  · next h => subst h; rfl
  · rfl

theorem wf_i64_bd {n : Int} (h : (Lit.int .i64 n).wf = true) : -9223372036854775808 ≤ n ∧ n ≤ 9223372036854775807 := bounds_i64 h

/-- A slice whose elements are sz cells each: element i is the cells C i, of which E is known. -/
def RowsAt (w : World) (v : Value) (n sz : Nat) (E : List Value → Prop) (C : Nat → List Value) : Prop :=
  ∃ (A : Option Addr) (cap : Nat), v = .slice A n cap ∧ n ≤ cap ∧ cap ≤ 9223372036854775807 ∧
    ∀ i, i < n → E (C i) ∧ (C i).length = sz ∧ ∃ b off, A = some ⟨b, off, none⟩ ∧ b < w.heap.size ∧ ∀ (j : Nat) (u : Value), (C i)[j]? = some u → w.cell? ⟨b, off + i * sz + j, none⟩ = some u

section
variable {H : Type} {enc : TypeId × Value → H} {P : Program} {w : World} {base : Nat} {spare : Nat → Bool} {held : Bool}
theorem open_rows {r : Reach} {t e : TypeId} {v : Value} {d : DataW H} {p : List MemPlace} {sz : Nat} {E : List Value → Prop}
    (ht : P.underlying t = some (.slice e)) (hC : P.cellsOf e = sz) (hpos : 0 < sz)
    (hE : ∀ fuel cs x, cs.length = sz → DataW.trod enc P w base spare held fuel e cs = some x → E cs)
    {b0 : Nat} (hv : Value.okWide P w r b0 t v) (h : DataW.Trod enc P w base spare held t v d p) : ∃ n C, RowsAt w v n sz E C := by
  obtain ⟨a, len, cap, rfl⟩ := okWide_slice ht hv
  obtain ⟨fuel, hf'⟩ := h
  rcases open_slice ht hf' with ⟨hcs, _⟩ | ⟨a', len', cap', m, n, D, Pl, hcs, _, hl, hm, hmm, _, hi⟩
  · have : a = none ∧ len = 0 ∧ cap = 0 := by simpa [Value.cells] using hcs
    obtain ⟨rfl, rfl, rfl⟩ := this
    exact ⟨0, fun _ => [], none, 0, rfl, by omega, by omega, fun i hi => by omega⟩
  · have : a = some a' ∧ len = len' ∧ cap = cap' := by simpa [Value.cells] using hcs
    obtain ⟨rfl, rfl, rfl⟩ := this
    have hlm : len ≤ m := by rw [hmm]; split <;> omega
    rw [hC] at hi
    obtain ⟨C, hCs⟩ := choose_lt (α := List Value) (p := fun i cs => E cs ∧ cs.length = sz ∧ ∀ j, j < sz → w.cell? ((a'.add (i * sz)).add j) = cs[j]?) (n := len) (fun i hilt => by
      obtain ⟨cs', h1, h2⟩ := hi i (by omega)
      obtain ⟨_, hlen, hat⟩ := World.cells?_some h1
      exact ⟨cs', hE _ _ _ hlen h2, hlen, hat⟩)
    refine ⟨len, C, some a', cap, rfl, hl, by unfold maxLen at hm; omega, fun i hilt => ?_⟩
    obtain ⟨e1, e2, e3⟩ := hCs i hilt
    refine ⟨e1, e2, ?_⟩
    have hsp : a'.spot = none := by
      obtain ⟨_, f2, f3⟩ := hCs 0 (by omega)
      have := f3 0 hpos
      rw [List.getElem?_eq_getElem (by omega)] at this
      have := spot_of_cell this
      simpa [Addr.add] using this
    obtain ⟨b, off, sp⟩ := a'
    simp only at hsp
    subst hsp
    refine ⟨b, off, rfl, ?_, fun j u hu => ?_⟩
    · have := e3 0 hpos
      rw [List.getElem?_eq_getElem (by omega)] at this
      have := lt_of_cell this
      rw [add_plain_, add_plain_] at this
      exact this
    · have hj : j < sz := by
        rcases Nat.lt_or_ge j sz with h | h
        · exact h
        · rw [List.getElem?_eq_none (by omega)] at hu; cases hu
      have := e3 j hj
      rw [add_plain_, add_plain_, hu] at this
      exact this

theorem field_trod {t : TypeId} {fs : Array Field} {fuel : Nat} {cs : List Value} {x : DataW H × List MemPlace} (hs : P.underlying t = some (.struct fs)) (h : DataW.trod enc P w base spare held fuel t cs = some x)
    (j : Nat) (f : Field) (hf : fs[j]? = some f) (off c : Nat) (ty : TypeId) (hoff : f.offset = off) (hty : f.type = ty) (hc : P.cellsOf ty = c) :
    ∃ n y, DataW.trod enc P w base spare held n ty ((cs.drop off).take c) = some y := by
  obtain ⟨xs, n, _, _, _, hxl, hg⟩ := DataW.trod_struct hs h
  have h1 := hg j f hf
  have hj : j < fs.size := (Array.getElem?_eq_some_iff.1 hf).1
  rw [hoff, hty, hc, List.getElem?_eq_getElem (by omega)] at h1
  exact ⟨n, _, h1⟩
end

/-- The cells of ints. -/
def I64s (l : List Value) : Prop := ∃ zs : List Int, l = zs.map (Value.int .i64) ∧ ∀ z ∈ zs, -9223372036854775808 ≤ z ∧ z ≤ 9223372036854775807
def Two (cs : List Value) : Prop := ∃ x y : Int, cs = [.int .i64 x, .int .i64 y] ∧ (-9223372036854775808 ≤ x ∧ x ≤ 9223372036854775807) ∧ (-9223372036854775808 ≤ y ∧ y ≤ 9223372036854775807)
def Three (cs : List Value) : Prop := ∃ x y z : Int, cs = [.int .i64 x, .int .i64 y, .int .i64 z] ∧ (-9223372036854775808 ≤ x ∧ x ≤ 9223372036854775807) ∧ (-9223372036854775808 ≤ y ∧ y ≤ 9223372036854775807) ∧ (-9223372036854775808 ≤ z ∧ z ≤ 9223372036854775807)
def Four (cs : List Value) : Prop := ∃ x y z u : Int, cs = [.int .i64 x, .int .i64 y, .int .i64 z, .int .i64 u] ∧ (-9223372036854775808 ≤ x ∧ x ≤ 9223372036854775807) ∧ (-9223372036854775808 ≤ y ∧ y ≤ 9223372036854775807) ∧ (-9223372036854775808 ≤ z ∧ z ≤ 9223372036854775807) ∧ (-9223372036854775808 ≤ u ∧ u ≤ 9223372036854775807)
/-- One number of kind k. -/
def OneNum (k : IntKind) (cs : List Value) : Prop := ∃ x : Int, cs = [.int k x] ∧ (Lit.int k x).wf = true

section
variable {H : Type} {enc : TypeId × Value → H} {P : Program} {w : World} {base : Nat} {spare : Nat → Bool} {held : Bool}
theorem one_of {k : IntKind} {t : TypeId} (ht : P.underlying t = some (.int k)) : ∀ fuel cs x, cs.length = 1 → DataW.trod enc P w base spare held fuel t cs = some x → OneNum k cs := by
  intro fuel cs x _ h
  obtain ⟨n, rfl, _, hw⟩ := DataW.trod_int ht h
  exact ⟨n, rfl, hw⟩
theorem two_of {e it : TypeId} {f0 f1 : Field} (he : P.underlying e = some (.struct #[f0, f1])) (hit : P.underlying it = some (.int .i64)) (h1 : P.cellsOf it = 1) (o0 : f0.offset = 0) (o1 : f1.offset = 1) (t0 : f0.type = it) (t1 : f1.type = it) :
    ∀ fuel cs x, cs.length = 2 → DataW.trod enc P w base spare held fuel e cs = some x → Two cs := by
  intro fuel cs x hl h
  match cs, hl with
  | [c0, c1], _ =>
    obtain ⟨_, _, g0⟩ := field_trod he h 0 f0 rfl 0 1 it o0 t0 h1
    obtain ⟨_, _, g1⟩ := field_trod he h 1 f1 rfl 1 1 it o1 t1 h1
    obtain ⟨x0, e0, _, w0⟩ := DataW.trod_int hit g0
    obtain ⟨x1, e1, _, w1⟩ := DataW.trod_int hit g1
    simp at e0 e1
    exact ⟨x0, x1, by rw [e0, e1], bounds_i64 w0, bounds_i64 w1⟩
theorem three_of {e it : TypeId} {f0 f1 f2 : Field} (he : P.underlying e = some (.struct #[f0, f1, f2])) (hit : P.underlying it = some (.int .i64)) (h1 : P.cellsOf it = 1) (o0 : f0.offset = 0) (o1 : f1.offset = 1) (o2 : f2.offset = 2) (t0 : f0.type = it) (t1 : f1.type = it) (t2 : f2.type = it) :
    ∀ fuel cs x, cs.length = 3 → DataW.trod enc P w base spare held fuel e cs = some x → Three cs := by
  intro fuel cs x hl h
  match cs, hl with
  | [c0, c1, c2], _ =>
    obtain ⟨_, _, g0⟩ := field_trod he h 0 f0 rfl 0 1 it o0 t0 h1
    obtain ⟨_, _, g1⟩ := field_trod he h 1 f1 rfl 1 1 it o1 t1 h1
    obtain ⟨_, _, g2⟩ := field_trod he h 2 f2 rfl 2 1 it o2 t2 h1
    obtain ⟨x0, e0, _, w0⟩ := DataW.trod_int hit g0
    obtain ⟨x1, e1, _, w1⟩ := DataW.trod_int hit g1
    obtain ⟨x2, e2, _, w2⟩ := DataW.trod_int hit g2
    simp at e0 e1 e2
    exact ⟨x0, x1, x2, by rw [e0, e1, e2], bounds_i64 w0, bounds_i64 w1, bounds_i64 w2⟩
theorem four_of {e it : TypeId} {f0 f1 f2 f3 : Field} (he : P.underlying e = some (.struct #[f0, f1, f2, f3])) (hit : P.underlying it = some (.int .i64)) (h1 : P.cellsOf it = 1) (o0 : f0.offset = 0) (o1 : f1.offset = 1) (o2 : f2.offset = 2) (o3 : f3.offset = 3) (t0 : f0.type = it) (t1 : f1.type = it) (t2 : f2.type = it) (t3 : f3.type = it) :
    ∀ fuel cs x, cs.length = 4 → DataW.trod enc P w base spare held fuel e cs = some x → Four cs := by
  intro fuel cs x hl h
  match cs, hl with
  | [c0, c1, c2, c3], _ =>
    obtain ⟨_, _, g0⟩ := field_trod he h 0 f0 rfl 0 1 it o0 t0 h1
    obtain ⟨_, _, g1⟩ := field_trod he h 1 f1 rfl 1 1 it o1 t1 h1
    obtain ⟨_, _, g2⟩ := field_trod he h 2 f2 rfl 2 1 it o2 t2 h1
    obtain ⟨_, _, g3⟩ := field_trod he h 3 f3 rfl 3 1 it o3 t3 h1
    obtain ⟨x0, e0, _, w0⟩ := DataW.trod_int hit g0
    obtain ⟨x1, e1, _, w1⟩ := DataW.trod_int hit g1
    obtain ⟨x2, e2, _, w2⟩ := DataW.trod_int hit g2
    obtain ⟨x3, e3, _, w3⟩ := DataW.trod_int hit g3
    simp at e0 e1 e2 e3
    exact ⟨x0, x1, x2, x3, by rw [e0, e1, e2, e3], bounds_i64 w0, bounds_i64 w1, bounds_i64 w2, bounds_i64 w3⟩
end

/-- What the round i of a loop over such a slice needs. -/
theorem RowsAt.two {w : World} {A : Option Addr} {n i : Nat} {C : Nat → List Value}
    (h : ∀ i, i < n → Two (C i) ∧ (C i).length = 2 ∧ ∃ b off, A = some ⟨b, off, none⟩ ∧ b < w.heap.size ∧ ∀ (j : Nat) (u : Value), (C i)[j]? = some u → w.cell? ⟨b, off + i * 2 + j, none⟩ = some u) (hi : i < n) :
    ∃ b off x y, A = some ⟨b, off, none⟩ ∧ b < w.heap.size ∧ C i = [.int .i64 x, .int .i64 y] ∧ w.cell? ⟨b, off + i * 2, none⟩ = some (.int .i64 x) ∧ w.cell? ⟨b, off + i * 2 + 1, none⟩ = some (.int .i64 y) ∧
      (-9223372036854775808 ≤ x ∧ x ≤ 9223372036854775807) ∧ (-9223372036854775808 ≤ y ∧ y ≤ 9223372036854775807) := by
  obtain ⟨⟨x, y, hc, hx, hy⟩, _, b, off, hA, hb, hcell⟩ := h i hi
  refine ⟨b, off, x, y, hA, hb, hc, ?_, ?_, hx, hy⟩
  · exact hcell 0 _ (by rw [hc]; rfl)
  · exact hcell 1 _ (by rw [hc]; rfl)
theorem RowsAt.three {w : World} {A : Option Addr} {n i : Nat} {C : Nat → List Value}
    (h : ∀ i, i < n → Three (C i) ∧ (C i).length = 3 ∧ ∃ b off, A = some ⟨b, off, none⟩ ∧ b < w.heap.size ∧ ∀ (j : Nat) (u : Value), (C i)[j]? = some u → w.cell? ⟨b, off + i * 3 + j, none⟩ = some u) (hi : i < n) :
    ∃ b off x y z, A = some ⟨b, off, none⟩ ∧ b < w.heap.size ∧ C i = [.int .i64 x, .int .i64 y, .int .i64 z] ∧ w.cell? ⟨b, off + i * 3, none⟩ = some (.int .i64 x) ∧ w.cell? ⟨b, off + i * 3 + 1, none⟩ = some (.int .i64 y) ∧ w.cell? ⟨b, off + i * 3 + 2, none⟩ = some (.int .i64 z) ∧
      (-9223372036854775808 ≤ x ∧ x ≤ 9223372036854775807) ∧ (-9223372036854775808 ≤ y ∧ y ≤ 9223372036854775807) ∧ (-9223372036854775808 ≤ z ∧ z ≤ 9223372036854775807) := by
  obtain ⟨⟨x, y, z, hc, hx, hy, hz⟩, _, b, off, hA, hb, hcell⟩ := h i hi
  refine ⟨b, off, x, y, z, hA, hb, hc, ?_, ?_, ?_, hx, hy, hz⟩
  · exact hcell 0 _ (by rw [hc]; rfl)
  · exact hcell 1 _ (by rw [hc]; rfl)
  · exact hcell 2 _ (by rw [hc]; rfl)
theorem RowsAt.four {w : World} {A : Option Addr} {n i : Nat} {C : Nat → List Value}
    (h : ∀ i, i < n → Four (C i) ∧ (C i).length = 4 ∧ ∃ b off, A = some ⟨b, off, none⟩ ∧ b < w.heap.size ∧ ∀ (j : Nat) (u : Value), (C i)[j]? = some u → w.cell? ⟨b, off + i * 4 + j, none⟩ = some u) (hi : i < n) :
    ∃ b off x y z u, A = some ⟨b, off, none⟩ ∧ b < w.heap.size ∧ C i = [.int .i64 x, .int .i64 y, .int .i64 z, .int .i64 u] ∧ w.cell? ⟨b, off + i * 4, none⟩ = some (.int .i64 x) ∧ w.cell? ⟨b, off + i * 4 + 1, none⟩ = some (.int .i64 y) ∧ w.cell? ⟨b, off + i * 4 + 2, none⟩ = some (.int .i64 z) ∧ w.cell? ⟨b, off + i * 4 + 3, none⟩ = some (.int .i64 u) ∧
      (-9223372036854775808 ≤ x ∧ x ≤ 9223372036854775807) ∧ (-9223372036854775808 ≤ y ∧ y ≤ 9223372036854775807) ∧ (-9223372036854775808 ≤ z ∧ z ≤ 9223372036854775807) ∧ (-9223372036854775808 ≤ u ∧ u ≤ 9223372036854775807) := by
  obtain ⟨⟨x, y, z, u, hc, hx, hy, hz, hu⟩, _, b, off, hA, hb, hcell⟩ := h i hi
  refine ⟨b, off, x, y, z, u, hA, hb, hc, ?_, ?_, ?_, ?_, hx, hy, hz, hu⟩
  · exact hcell 0 _ (by rw [hc]; rfl)
  · exact hcell 1 _ (by rw [hc]; rfl)
  · exact hcell 2 _ (by rw [hc]; rfl)
  · exact hcell 3 _ (by rw [hc]; rfl)

theorem open_ints3 {H : Type} {enc : TypeId × Value → H} {P : Program} {w : World} {base : Nat} {spare : Nat → Bool} {held : Bool} {r : Reach} {t it : TypeId} {f0 f1 f2 : Field} {v : Value} {d : DataW H} {p : List MemPlace}
    (he : P.underlying t = some (.struct #[f0, f1, f2])) (hit : P.underlying it = some (.int .i64)) (h1 : P.cellsOf it = 1) (hC : P.cellsOf t = 3) (o0 : f0.offset = 0) (o1 : f1.offset = 1) (o2 : f2.offset = 2) (t0 : f0.type = it) (t1 : f1.type = it) (t2 : f2.type = it)
    {b0 : Nat} (hv : Value.okWide P w r b0 t v) (h : DataW.Trod enc P w base spare held t v d p) :
    ∃ x y z : Int, v = .agg #[.int .i64 x, .int .i64 y, .int .i64 z] ∧ (-9223372036854775808 ≤ x ∧ x ≤ 9223372036854775807) ∧ (-9223372036854775808 ≤ y ∧ y ≤ 9223372036854775807) ∧ (-9223372036854775808 ≤ z ∧ z ≤ 9223372036854775807) := by
  obtain ⟨cs, rfl, hsz⟩ := okWide_struct he hv
  obtain ⟨l⟩ := cs
  obtain ⟨fuel, hf⟩ := h
  have hl : l.length = 3 := by simpa using hsz.trans hC
  have hf' : DataW.trod enc P w base spare held fuel t l = some (d, p) := by simpa [Value.cells] using hf
  obtain ⟨x, y, z, rfl, hx, hy, hz⟩ := three_of he hit h1 o0 o1 o2 t0 t1 t2 fuel l _ hl hf'
  exact ⟨x, y, z, rfl, hx, hy, hz⟩
/-- The elements as a list. -/
theorem rows_choose {α : Type} [Inhabited α] {n : Nat} {C : Nat → List Value} {E : List Value → Prop} {R : List Value → α → Prop} (h : ∀ i, i < n → E (C i)) (hR : ∀ cs, E cs → ∃ a, R cs a) :
    ∃ L : List α, L.length = n ∧ ∀ (i : Nat) (hi : i < L.length), R (C i) (L[i]'hi) := by
  obtain ⟨f, hf⟩ := choose_lt (α := α) (p := fun i a => R (C i) a) (n := n) (fun i hi => hR _ (h i hi))
  refine ⟨(List.range n).map f, by simp, fun i hi => ?_⟩
  have hi' : i < n := by simpa using hi
  simpa using hf i hi'
end Go.Proofs.Ytifgbnjpiphidaa
