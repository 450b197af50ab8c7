/- Words for memory: a block known whole, and what a call may turn. Plain lemmas, after the guide's own (extra-words, extra-small). -/
import Derived.WalkKit
import Derived.ProofKit
import Derived.Below
import Derived.Laws.OwnMore
import Derived.Deep.Draws
import Derived.Laws.Rows
import Derived.Deep.OwnRows
import Derived.Lib.Hide
import Derived.Laws.ResultCell
namespace Go.Proofs.Ytifgbnjpiphidaa
open Go.RowKit

def Blk (w : World) (g : Nat) (t : TypeId) (cs : Array Value) : Prop := w.heap[g]? = some (.cells cs t (0, 0))

section
variable {w w' : World} {g : Nat} {t : TypeId} {cs : Array Value}
theorem Blk.lt (h : Blk w g t cs) : g < w.heap.size := by
  rcases Nat.lt_or_ge g w.heap.size with hlt | hge
  · exact hlt
  · unfold Blk at h; rw [Array.getElem?_eq_none hge] at h; cases h
theorem Blk.cell (h : Blk w g t cs) (i : Nat) : w.cell? ⟨g, i, none⟩ = cs[i]? := cell_of_row w g i cs t (0, 0) h
theorem Blk.frozen (h : Blk w g t cs) (i : Nat) : w.frozen? ⟨g, i, none⟩ = false := by
  unfold Blk at h
  simp [World.frozen?, h]
theorem Blk.new (w : World) (t : TypeId) (cs : Array Value) : Blk (w.alloc (.cells cs t)) w.heap.size t cs := heap_alloc_new w _
theorem Blk.drew (h : Blk w g t cs) : Blk w.drew g t cs := h
theorem Blk.drewN (h : Blk w g t cs) (n : Nat) : Blk (w.drewN n) g t cs := h
theorem Blk.alloc (h : Blk w g t cs) (o : Obj) : Blk (w.alloc o) g t cs := (Below.heap_alloc w o g h.lt).trans h
theorem Blk.set_ (h : Blk w g t cs) (i : Nat) (u : Value) : Blk (w.setCell ⟨g, i, none⟩ u) g t (cs.setIfInBounds i u) := by
  unfold Blk at h ⊢
  simp [World.setCell, Array.getElem?_modify, h]
theorem Blk.far (h : Blk w g t cs) {p : Addr} (hp : g ≠ p.block) (u : Value) : Blk (w.setCell p u) g t cs := (Below.heap_setCell w p u g hp).trans h
theorem Blk.below {B : Nat} (h : Blk w g t cs) (hb : Below B w w') (hg : g < B) : Blk w' g t cs := (hb.block g hg).trans h
theorem Blk.grown {row : Option Nat} (h : Blk w g t cs) (hb : w.grownBy w' row) (hg : some g ≠ row) : Blk w' g t cs := (hb.block g h.lt hg).trans h
end

/-- What stood below w's end and outside S is in w' as it was; the streams are as they were. -/
structure Only (S : List Nat) (w w' : World) : Prop where
  os : w'.os = w.os
  tape : w'.tape = w.tape
  output : w'.output = w.output
  size : w.heap.size ≤ w'.heap.size
  block : ∀ k, k < w.heap.size → k ∉ S → w'.heap[k]? = w.heap[k]?

theorem Only.refl (S : List Nat) (w : World) : Only S w w := ⟨rfl, rfl, rfl, Nat.le_refl _, fun _ _ _ => rfl⟩
theorem Only.trans {S T : List Nat} {a b c : World} (h : Only S a b) (k : Only T b c) (hT : ∀ i ∈ T, i ∈ S ∨ a.heap.size ≤ i) : Only S a c :=
  ⟨k.os.trans h.os, k.tape.trans h.tape, k.output.trans h.output, Nat.le_trans h.size k.size, fun i hi hn =>
    (k.block i (Nat.lt_of_lt_of_le hi h.size) (fun e => by rcases hT i e with h1 | h1; exact hn h1; omega)).trans (h.block i hi hn)⟩
theorem Only.trans_ {S : List Nat} {a b c : World} (h : Only S a b) (k : Only S b c) : Only S a c := h.trans k fun _ h => .inl h
theorem Only.mono {S T : List Nat} {a b : World} (h : Only S a b) (hT : ∀ i ∈ S, i ∈ T ∨ a.heap.size ≤ i) : Only T a b :=
  (Only.refl T a).trans h hT
theorem Only.drewN {S : List Nat} {a w : World} (h : Only S a w) (n : Nat) : Only S a (w.drewN n) := ⟨h.os, h.tape, h.output, h.size, h.block⟩
theorem Only.drew {S : List Nat} {a w : World} (h : Only S a w) : Only S a w.drew := ⟨h.os, h.tape, h.output, h.size, h.block⟩
theorem Only.alloc {S : List Nat} {a w : World} (h : Only S a w) (o : Obj) : Only S a (w.alloc o) :=
  ⟨h.os, h.tape, h.output, Nat.le_trans h.size (by simp), fun i hi hne => (Below.heap_alloc w o i (Nat.lt_of_lt_of_le hi h.size)).trans (h.block i hi hne)⟩
theorem Only.setCell {S : List Nat} {a w : World} (h : Only S a w) {p : Addr} (hp : p.block ∈ S ∨ a.heap.size ≤ p.block) (u : Value) : Only S a (w.setCell p u) :=
  ⟨h.os, h.tape, h.output, by simpa [World.setCell] using h.size, fun i hi hne => (Below.heap_setCell w p u i (by
    rintro rfl
    rcases hp with hp | hp
    · exact hne hp
    · omega)).trans (h.block i hi hne)⟩
theorem Only.grown {S : List Nat} {a w w' : World} {row : Option Nat} (h : Only S a w) (hg : w.grownBy w' row) (hr : ∀ k, row = some k → k ∈ S ∨ a.heap.size ≤ k) : Only S a w' :=
  ⟨hg.os.trans h.os, hg.tape.trans h.tape, hg.output.trans h.output, Nat.le_trans h.size hg.size, fun i hi hne =>
    (hg.block i (Nat.lt_of_lt_of_le hi h.size) (fun e => by rcases hr i e.symm with h1 | h1; exact hne h1; omega)).trans (h.block i hi hne)⟩
theorem Only.of_below {S : List Nat} {a w : World} (h : Below a.heap.size a w) : Only S a w := ⟨h.os, h.tape, h.output, h.size, fun i hi _ => h.block i hi⟩
theorem Only.below {S : List Nat} {B : Nat} {a w : World} (h : Only S a w) (hB : B ≤ a.heap.size) (hS : ∀ i ∈ S, B ≤ i) : Below B a w :=
  ⟨h.os, h.tape, h.output, h.size, fun i hi => h.block i (by omega) (fun e => by have := hS i e; omega)⟩
theorem Blk.only {w w' : World} {g : Nat} {t : TypeId} {cs : Array Value} {S : List Nat} (h : Blk w g t cs) (hb : Only S w w') (hg : g ∉ S) : Blk w' g t cs := (hb.block g h.lt hg).trans h
theorem below_drewN {B : Nat} {a w : World} (h : Below B a w) (n : Nat) : Below B a (w.drewN n) := ⟨h.os, h.tape, h.output, h.size, h.block⟩
/-- A law's own step: from the world a of its beginning. -/
theorem bonly {S : List Nat} {a w w' : World} (h : Below a.heap.size a w) (k : Only S w w') (hS : ∀ i ∈ S, a.heap.size ≤ i) : Below a.heap.size a w' := h.trans (k.below h.size hS)

theorem quiet_add {P : Program} {f : FuncId} {args : Array Value} {w : World} {a n : Nat} {v : Value}
    (h : Calls P f args (w.drewN (a + n)) fun e w' => e = .returned v ∧ ∃ m, w' = (w.drewN (a + n)).drewN m) :
    Calls P f args (w.drewN (a + n)) fun e w'' => e = .returned v ∧ ∃ m, w'' = w.drewN (a + m) :=
  h.mono fun _ _ ⟨he, m, hm⟩ => ⟨he, n + m, by rw [hm, World.drewN_drewN, Nat.add_assoc]⟩
theorem quiet_add_left {P : Program} {f : FuncId} {args : Array Value} {w : World} {a n : Nat} {v : Value}
    (h : Calls P f args (w.drewN (a + n)) fun e w' => e = .returned v ∧ w.drewN (a + n) = w') :
    Calls P f args (w.drewN (a + n)) fun e w'' => e = .returned v ∧ ∃ m, w'' = w.drewN (a + m) :=
  h.mono fun _ _ ⟨he, hm⟩ => ⟨he, n, hm.symm⟩
theorem quiet_left {P : Program} {f : FuncId} {args : Array Value} {w : World} {n : Nat} {v : Value}
    (h : Calls P f args (w.drewN n) fun e w' => e = .returned v ∧ w.drewN n = w') : Calls P f args (w.drewN n) fun e w'' => e = .returned v ∧ ∃ m, w'' = w.drewN m :=
  h.mono fun _ _ ⟨he, hm⟩ => ⟨he, n, hm.symm⟩

theorem ret2_int {j k : IntKind} {a b c d : Int} (h : a = b) (h' : c = d) : Ending.returned (.tuple #[.int j a, .int k c]) = .returned (.tuple #[.int j b, .int k d]) := by rw [h, h']
theorem ret_int {k : IntKind} {a b : Int} (h : a = b) : Ending.returned (.int k a) = .returned (.int k b) := by rw [h]
theorem ret_bool {a b : Bool} (h : a = b) : Ending.returned (.bool a) = .returned (.bool b) := by rw [h]

/-- A result that is a struct of three cells, and one more. -/
theorem ret_cell3_tmp {P : Program} {fn : Func} {R : Ending → World → Prop} {a : Act} {W : World} {p u : Tmp} {ty t : TypeId} {g : Nat} {x y z : Value} (h : fn.results = #[.cell p ty, .tmp u]) (hd : a.defers = [])
    (hp : a.tmps.getD p undef = .pointer (some ⟨g, 0, none⟩)) (hB : Blk W g t #[x, y, z])
    (hl : ∀ W' : World, W'.cell? ⟨g, 0, none⟩ = some x → W'.cell? ⟨g, 1, none⟩ = some y → W'.cell? ⟨g, 2, none⟩ = some z → (loadVar ty ⟨g, 0, none⟩).run P W' = .ok (.agg #[x, y, z]) W')
    (hR : R (.returned (.tuple #[.agg #[x, y, z], a.tmps.getD u undef])) W) : bodyPost P fn R .ret a W := by
  refine bodyPost_ret (v := .tuple #[.agg #[x, y, z], a.tmps.getD u undef]) ?_ hd hR
  rw [results_cell_tmp h, hp]
  show ((loadVar ty ⟨g, 0, none⟩).run P W).andThen _ = _
  rw [hl W (Blk.cell hB 0) (Blk.cell hB 1) (Blk.cell hB 2)]
  rfl
theorem ret_cell3 {P : Program} {fn : Func} {R : Ending → World → Prop} {a : Act} {W : World} {p : Tmp} {ty t : TypeId} {g : Nat} {x y z : Value} (h : fn.results = #[.cell p ty]) (hd : a.defers = [])
    (hp : a.tmps.getD p undef = .pointer (some ⟨g, 0, none⟩)) (hB : Blk W g t #[x, y, z])
    (hl : ∀ W' : World, W'.cell? ⟨g, 0, none⟩ = some x → W'.cell? ⟨g, 1, none⟩ = some y → W'.cell? ⟨g, 2, none⟩ = some z → (loadVar ty ⟨g, 0, none⟩).run P W' = .ok (.agg #[x, y, z]) W')
    (hR : R (.returned (.agg #[x, y, z])) W) : bodyPost P fn R .ret a W := by
  refine bodyPost_ret (v := .agg #[x, y, z]) ?_ hd hR
  have hr : (results fn a.tmps).run P W = ((asAddr (a.tmps.getD p undef)).run P W).andThen fun a w₁ => (loadVar ty a).run P w₁ := by
    simp only [results, h]
    simp [Sem.run_bind, Result.andThen]
  rw [hr, hp]
  show (loadVar ty ⟨g, 0, none⟩).run P W = _
  exact hl W (Blk.cell hB 0) (Blk.cell hB 1) (Blk.cell hB 2)
theorem ret_cell33_tmp {P : Program} {fn : Func} {R : Ending → World → Prop} {a : Act} {W : World} {p p' u : Tmp} {ty t : TypeId} {g g' : Nat} {x y z x' y' z' : Value} (h : fn.results = #[.cell p ty, .cell p' ty, .tmp u]) (hd : a.defers = [])
    (hp : a.tmps.getD p undef = .pointer (some ⟨g, 0, none⟩)) (hB : Blk W g t #[x, y, z]) (hp' : a.tmps.getD p' undef = .pointer (some ⟨g', 0, none⟩)) (hB' : Blk W g' t #[x', y', z'])
    (hl : ∀ (W' : World) (b : Nat) (u v s : Value), W'.cell? ⟨b, 0, none⟩ = some u → W'.cell? ⟨b, 1, none⟩ = some v → W'.cell? ⟨b, 2, none⟩ = some s → (loadVar ty ⟨b, 0, none⟩).run P W' = .ok (.agg #[u, v, s]) W')
    (hR : R (.returned (.tuple #[.agg #[x, y, z], .agg #[x', y', z'], a.tmps.getD u undef])) W) : bodyPost P fn R .ret a W := by
  refine bodyPost_ret (v := .tuple #[.agg #[x, y, z], .agg #[x', y', z'], a.tmps.getD u undef]) ?_ hd hR
  have hr : (results fn a.tmps).run P W = ((asAddr (a.tmps.getD p undef)).run P W).andThen fun q w₁ => ((loadVar ty q).run P w₁).andThen fun v w₂ => ((asAddr (a.tmps.getD p' undef)).run P w₂).andThen fun q' w₃ => ((loadVar ty q').run P w₃).andThen fun v' w₄ => .ok (.tuple #[v, v', a.tmps.getD u undef]) w₄ := by
    simp only [results, h]
    simp [Sem.run_bind, Result.andThen]
  rw [hr, hp, hp']
  show ((loadVar ty ⟨g, 0, none⟩).run P W).andThen _ = _
  rw [hl W g x y z (Blk.cell hB 0) (Blk.cell hB 1) (Blk.cell hB 2)]
  show ((loadVar ty ⟨g', 0, none⟩).run P W).andThen _ = _
  rw [hl W g' x' y' z' (Blk.cell hB' 0) (Blk.cell hB' 1) (Blk.cell hB' 2)]
  rfl
end Go.Proofs.Ytifgbnjpiphidaa
