/- A map keyed by int, as a function from its keys: what is in it, how many; made, read, written, struck, ranged over. Over any program. -/
import Derived.WalkKit
import Derived.ProofKit
import Derived.Maps.Own
import Derived.Maps.OwnOps
import Derived.Maps.OwnSet
import Derived.Maps.Views
import Derived.Maps.Keyed
import Derived.Maps.Range
import Derived.Maps.RangeWalk
import Derived.Test.YtifgbnjpiphidaaMem
namespace Go.Proofs.Ytifgbnjpiphidaa
open Go.RowKit Go.Maps
set_option linter.unusedVariables false
def tokR (v : Value) : Option (DataW Value × List MemPlace) := some (.held v, [])
/-- Block b is a map of cnt entries: at x it holds f x. -/
def MapV (P : Program) (k : TypeId) (w : World) (b : Nat) (f : Int → Option Value) (cnt : Nat) : Prop :=
  ∃ D : DataW Value, w.ownsMap P k tokR b cnt D ∧ Maps.size D = cnt ∧ (∀ x, Maps.has D (.int .i64 x) = (f x).isSome) ∧ ∀ x v, f x = some v → ∀ z, D.atKey (.int .i64 x) z = .held v
def upd {α : Type} (f : Int → Option α) (x : Int) (v : Option α) : Int → Option α := fun y => if y = x then v else f y
theorem upd_same {α : Type} (f : Int → Option α) (x : Int) (v : Option α) : upd f x v x = v := if_pos rfl
theorem upd_other {α : Type} (f : Int → Option α) {x y : Int} (v : Option α) (h : y ≠ x) : upd f x v y = f y := if_neg h
section
variable {P : Program} {k t e : TypeId} {w w' : World} {b cnt : Nat} {f : Int → Option Value}
theorem MapV.lt (h : MapV P k w b f cnt) : b < w.heap.size := by obtain ⟨D, h, _⟩ := h; exact h.lt
theorem MapV.grown (h : MapV P k w b f cnt) {row : Option Nat} (hg : w.grownBy w' row) (hne : some b ≠ row) : MapV P k w' b f cnt := by
  obtain ⟨D, h1, h2⟩ := h; exact ⟨D, h1.kept hg hne, h2⟩
theorem MapV.alloc (h : MapV P k w b f cnt) (o : Obj) : MapV P k (w.alloc o) b f cnt := h.grown (World.grownBy_alloc w o none) (by simp)
theorem MapV.same (h : MapV P k w b f cnt) (hb : w'.heap[b]? = w.heap[b]?) : MapV P k w' b f cnt := by
  obtain ⟨D, ⟨es, clock, h1, r⟩, h2⟩ := h; exact ⟨D, ⟨es, clock, hb.trans h1, r⟩, h2⟩
theorem MapV.drewN (h : MapV P k w b f cnt) (n : Nat) : MapV P k (w.drewN n) b f cnt := h.same rfl
theorem MapV.drew (h : MapV P k w b f cnt) : MapV P k w.drew b f cnt := h.same rfl
theorem MapV.below {B : Nat} (h : MapV P k w b f cnt) (hb : Below B w w') (hB : b < B) : MapV P k w' b f cnt := h.same (hb.block b hB)
theorem MapV.only {S : List Nat} (h : MapV P k w b f cnt) (o : Only S w w') (hS : b ∉ S) : MapV P k w' b f cnt := h.same (o.block b h.lt hS)
theorem MapV.setCell (h : MapV P k w b f cnt) {p : Addr} (hp : b ≠ p.block) (u : Value) : MapV P k (w.setCell p u) b f cnt := h.same (Below.heap_setCell w p u b hp)
theorem MapV.obj (h : MapV P k w b f cnt) : ∃ es c, w.heap[b]? = some (.map es c) := by obtain ⟨D, ⟨es, c, h1, _⟩, _⟩ := h; exact ⟨es, c, h1⟩
theorem MapV.blk_ne (h : MapV P k w b f cnt) {g : Nat} {ty : TypeId} {cs : Array Value} (hb : Blk w g ty cs) : g ≠ b := by
  rintro rfl
  obtain ⟨es, c, h1⟩ := h.obj
  unfold Blk at hb
  rw [h1] at hb
  cases hb
theorem MapV.made (w : World) (P : Program) (k : TypeId) : MapV P k (w.alloc (.map #[] 0)) w.heap.size (fun _ => none) 0 :=
  ⟨.map [], World.ownsMap_made w P k tokR, rfl, fun _ => rfl, fun x v h => by cases h⟩
theorem MapV.ext {g : Int → Option Value} (h : MapV P k w b f cnt) (hfg : ∀ x, f x = g x) : MapV P k w b g cnt := by
  have : f = g := funext hfg
  rwa [← this]
theorem wf_key {x : Int} (h1 : -9223372036854775808 ≤ x) (h2 : x ≤ 9223372036854775807) : (Lit.int .i64 x).wf = true := by
  have e1 : IntKind.i64.min = -9223372036854775808 := by decide
  have e2 : IntKind.i64.max = 9223372036854775807 := by decide
  simp [Lit.wf, e1, e2]; omega
variable (hk : P.underlying k = some (.int .i64)) (ht : P.underlying t = some (.map k e))
include hk ht
theorem MapV.look (h : MapV P k w b f cnt) {z : Value} (hz : (zeroValue e).run P w = .ok z w) {x : Int} (hw : (Lit.int .i64 x).wf = true) :
    (Instr.lookup t (.map (some b)) (.int .i64 x) false).run P w = .ok ((f x).getD z) w := by
  obtain ⟨D, h1, h2, h3, h4⟩ := h
  obtain ⟨v, ps, hrun, hv⟩ := h1.lookup (int_keyed hk) ht hz (zd := .held z) (zp := []) rfl (keyOf_int_mk hk hw)
  rw [hrun]
  unfold tokR at hv
  injection hv with hv
  injection hv with hv _
  cases hf : f x with
  | none =>
    have := atKey_of_not_has (D := D) (k := .int .i64 x) (by rw [h3, hf]; rfl) (.held z)
    rw [this] at hv
    injection hv with hv
    rw [hv]; rfl
  | some u =>
    rw [h4 x u hf] at hv
    injection hv with hv
    rw [hv]; rfl
theorem MapV.lookOk (h : MapV P k w b f cnt) {z : Value} (hz : (zeroValue e).run P w = .ok z w) {x : Int} (hw : (Lit.int .i64 x).wf = true) :
    (Instr.lookup t (.map (some b)) (.int .i64 x) true).run P w = .ok (.tuple #[(f x).getD z, .bool (f x).isSome]) w := by
  obtain ⟨D, h1, h2, h3, h4⟩ := h
  obtain ⟨v, ps, hrun, hv⟩ := h1.look_ok (int_keyed hk) ht hz (zd := .held z) (zp := []) rfl (keyOf_int_mk hk hw)
  rw [hrun, h3]
  unfold tokR at hv
  injection hv with hv
  injection hv with hv _
  cases hf : f x with
  | none =>
    have := atKey_of_not_has (D := D) (k := .int .i64 x) (by rw [h3, hf]; rfl) (.held z)
    rw [this] at hv
    injection hv with hv
    rw [hv]; rfl
  | some u =>
    rw [h4 x u hf] at hv
    injection hv with hv
    rw [hv]; rfl
theorem MapV.put (h : MapV P k w b f cnt) (hn : cnt < maxLen) {x : Int} (hw : (Lit.int .i64 x).wf = true) (v : Value) :
    ∃ w', (Instr.mapUpdate t (.map (some b)) (.int .i64 x) v).run P w = .ok () w' ∧ MapV P k w' b (upd f x (some v)) (if (f x).isSome then cnt else cnt + 1) ∧ w.grownBy w' (some b) := by
  obtain ⟨D, h1, h2, h3, h4⟩ := h
  obtain ⟨w', hrun, ho, hg⟩ := h1.update (int_keyed hk) ht hn (keyOf_int_mk hk hw) (val := v) (d := .held v) (ps := []) rfl
  have hkey : WideAt.IsKeyLit (.int .i64 x) := (int_keyed hk).key (keyOf_int_mk hk hw)
  have hsz : Maps.size (D.put (.int .i64 x) (.held v)) = if (f x).isSome then cnt else cnt + 1 := by
    rw [size_put (h1.tidy (int_keyed hk)), h3, h2]
  refine ⟨w', hrun, ⟨D.put (.int .i64 x) (.held v), ?_, hsz, fun y => ?_, fun y u hu z => ?_⟩, hg⟩
  · rw [← hsz]
    obtain ⟨es, clock, q1, q2, q3, q4⟩ := ho
    exact ⟨es, clock, q1, q2, by rw [q4]; simp [Maps.size, length_sorted], q4⟩
  · by_cases hy : y = x
    · subst hy
      rw [has_put_same (h1.isMap) hkey, upd_same]; rfl
    · rw [has_put_other (by intro e; injection e with _ e; exact hy e), h3, upd_other f _ hy]
  · by_cases hy : y = x
    · subst hy
      rw [upd_same] at hu
      injection hu with hu
      rw [atKey_put_same h1.isMap hkey, hu]
    · rw [upd_other f _ hy] at hu
      rw [atKey_put_other (by intro e; injection e with _ e; exact hy e)]
      exact h4 y u hu z
theorem MapV.del (h : MapV P k w b f cnt) {x : Int} (hw : (Lit.int .i64 x).wf = true) (ty : TypeId) :
    ∃ w', (Builtin.delete_ #[t, k] ty #[.map (some b), .int .i64 x]).run P w = .ok (.tuple #[]) w' ∧ MapV P k w' b (upd f x none) (if (f x).isSome then cnt - 1 else cnt) ∧ w.grownBy w' (some b) := by
  obtain ⟨D, h1, h2, h3, h4⟩ := h
  obtain ⟨w', hrun, ho, hg⟩ := h1.drop (int_keyed hk) ht (keyOf_int_mk hk hw) ty
  have hsz : Maps.size (D.del (.int .i64 x)) = if (f x).isSome then cnt - 1 else cnt := by
    have := size_del (k := .int .i64 x) (h1.tidy (int_keyed hk))
    rw [h3, h2] at this
    split <;> simp_all <;> omega
  refine ⟨w', hrun, ⟨D.del (.int .i64 x), ?_, hsz, fun y => ?_, fun y u hu z => ?_⟩, hg.grown⟩
  · rw [← hsz]
    obtain ⟨es, clock, q1, q2, q3, q4⟩ := ho
    exact ⟨es, clock, q1, q2, by rw [q4]; simp [Maps.size, length_sorted], q4⟩
  · by_cases hy : y = x
    · subst hy
      rw [has_del_same, upd_same]; rfl
    · rw [has_del_other (by intro e; injection e with _ e; exact hy e), h3, upd_other f _ hy]
  · by_cases hy : y = x
    · subst hy
      rw [upd_same] at hu
      cases hu
    · rw [upd_other f _ hy] at hu
      rw [atKey_del_other (by intro e; injection e with _ e; exact hy e)]
      exact h4 y u hu z
end
theorem MapV.len {P : Program} {k t e : TypeId} {w : World} {b cnt : Nat} {f : Int → Option Value} (ht : P.underlying t = some (.map k e)) (h : MapV P k w b f cnt) (ty : TypeId) : (Builtin.len_ #[t] ty #[.map (some b)]).run P w = .ok (.int .i64 cnt) w := by
  obtain ⟨D, h1, h2, h3, h4⟩ := h
  rw [h1.len ht ty, h2]
section
variable {P : Program} (w : World) {ops : Array Oper} {rest : List Oper} {o : Oper} {a : Act} {Q : Exit → Act → World → Prop} {K : Act → World → Prop}
theorem wp_put (m x v : Operand) (t : TypeId) (hop : o.op = Op.mapUpdate t m x v) (k e : TypeId) (hk : P.underlying k = some (.int .i64)) (ht : P.underlying t = some (.map k e)) (b cnt : Nat) (f : Int → Option Value)
    (hm : a.eval m = .map (some b)) (h : MapV P k w b f cnt) (hn : cnt < maxLen) (key : Int) (val : Value) (hx : a.eval x = .int .i64 key) (hv : a.eval v = val) (hw : (Lit.int .i64 key).wf = true)
    (hK : ∀ w', MapV P k w' b (upd f key (some val)) (if (f key).isSome then cnt else cnt + 1) → w.grownBy w' (some b) → K (a.put o.dst undef) w') : o.wp P a w K Q := by
  obtain ⟨w', hrun, r1, r2⟩ := h.put hk ht hn hw val
  unfold Oper.wp
  simp [execOp, hop, hm, hx, hv, hrun, Result.andThen]
  exact hK w' r1 r2
theorem wpList_put (hg : o.guard = none) (m x v : Operand) (t : TypeId) (hop : o.op = Op.mapUpdate t m x v) (k e : TypeId) (hk : P.underlying k = some (.int .i64)) (ht : P.underlying t = some (.map k e)) (b cnt : Nat) (f : Int → Option Value)
    (hm : a.eval m = .map (some b)) (h : MapV P k w b f cnt) (hn : cnt < maxLen) (key : Int) (val : Value) (hx : a.eval x = .int .i64 key) (hv : a.eval v = val) (hw : (Lit.int .i64 key).wf = true)
    (hK : ∀ w', MapV P k w' b (upd f key (some val)) (if (f key).isSome then cnt else cnt + 1) → w.grownBy w' (some b) → wpList P ops Q rest (a.put o.dst undef) w') : wpList P ops Q (o :: rest) a w :=
  wpList_plain hg fun K' hK' => wp_put w m x v t hop k e hk ht b cnt f hm h hn key val hx hv hw fun w' r1 r2 => hK' _ _ (hK w' r1 r2)
theorem wpList_del (hg : o.guard = none) (m x : Operand) (t k : TypeId) (hop : o.op = Op.call { callee := Callee.builtin Builtin.delete, args := #[m, x], argTypes := #[t, k] }) (e : TypeId) (hk : P.underlying k = some (.int .i64)) (ht : P.underlying t = some (.map k e)) (b cnt : Nat) (f : Int → Option Value)
    (hm : a.eval m = .map (some b)) (h : MapV P k w b f cnt) (key : Int) (hx : a.eval x = .int .i64 key) (hw : (Lit.int .i64 key).wf = true)
    (hK : ∀ w', MapV P k w' b (upd f key none) (if (f key).isSome then cnt - 1 else cnt) → w.grownBy w' (some b) → wpList P ops Q rest (a.put o.dst (.tuple #[])) w') : wpList P ops Q (o :: rest) a w := by
  refine wpList_plain hg fun K' hK' => ?_
  obtain ⟨w', hrun, r1, r2⟩ := h.del hk ht hw o.type
  unfold Oper.wp
  simp [execOp, hop, resolve, invoke, builtin, hm, hx, hrun, Result.andThen]
  exact hK' _ _ (hK w' r1 r2)
end
/-- A range over a map under way: left x: the entry at x is still to come. -/
def RangeV (P : Program) (k : TypeId) (w : World) (b r : Nat) (f : Int → Option Value) (cnt : Nat) (left : Int → Bool) (lc : Nat) : Prop :=
  ∃ (D : DataW Value) (lf : Lit → Bool), w.ranges P k tokR b r cnt D lf lc ∧ Maps.size D = cnt ∧ (∀ x, Maps.has D (.int .i64 x) = (f x).isSome) ∧ (∀ x v, f x = some v → ∀ z, D.atKey (.int .i64 x) z = .held v) ∧ ∀ x, lf (.int .i64 x) = left x
section
variable {P : Program} {k t e : TypeId} {w w' : World} {b r cnt lc : Nat} {f : Int → Option Value} {left : Int → Bool}
theorem RangeV.map (h : RangeV P k w b r f cnt left lc) : MapV P k w b f cnt := by
  obtain ⟨D, lf, h1, h2, h3, h4, _⟩ := h; exact ⟨D, h1.owns, h2, h3, h4⟩
theorem RangeV.left_eq (h : RangeV P k w b r f cnt left lc) : w.rangeLeft b r = lc := by obtain ⟨D, lf, h1, _⟩ := h; exact h1.left_eq
theorem RangeV.lt (h : RangeV P k w b r f cnt left lc) : r < w.heap.size := by obtain ⟨D, lf, h1, _⟩ := h; exact h1.lt
theorem RangeV.ne (h : RangeV P k w b r f cnt left lc) : r ≠ b := by obtain ⟨D, lf, h1, _⟩ := h; exact h1.ne
theorem RangeV.grown (h : RangeV P k w b r f cnt left lc) {row : Option Nat} (hg : w.grownBy w' row) (hb : some b ≠ row) (hr : some r ≠ row) : RangeV P k w' b r f cnt left lc := by
  obtain ⟨D, lf, h1, h2⟩ := h; exact ⟨D, lf, h1.kept hg hb hr, h2⟩
theorem RangeV.alloc (h : RangeV P k w b r f cnt left lc) (o : Obj) : RangeV P k (w.alloc o) b r f cnt left lc := h.grown (World.grownBy_alloc w o none) (by simp) (by simp)
theorem RangeV.drewN (h : RangeV P k w b r f cnt left lc) (n : Nat) : RangeV P k (w.drewN n) b r f cnt left lc := h.grown (row := none) ⟨rfl, rfl, rfl, Nat.le_refl _, fun _ _ _ => rfl⟩ (by simp) (by simp)
theorem RangeV.same (h : RangeV P k w b r f cnt left lc) (hb : w'.heap[b]? = w.heap[b]?) (hr : w'.heap[r]? = w.heap[r]?) : RangeV P k w' b r f cnt left lc := by
  obtain ⟨D, lf, ⟨es, clock, since, seen, c0, q1, q2, q3, q4, q5, q6⟩, h2⟩ := h
  exact ⟨D, lf, ⟨es, clock, since, seen, c0, hb.trans q1, q2, q3, q4, hr.trans q5, q6⟩, h2⟩
end
section
variable {P : Program} (w : World) {ops : Array Oper} {rest : List Oper} {o : Oper} {a : Act} {Q : Exit → Act → World → Prop}
theorem wpList_rangeV (hg : o.guard = none) (m : Operand) (t : TypeId) (hop : o.op = Op.range t m) (k e : TypeId) (hk : P.underlying k = some (.int .i64)) (ht : P.underlying t = some (.map k e)) (b cnt : Nat) (f : Int → Option Value)
    (hm : a.eval m = .map (some b)) (h : MapV P k w b f cnt)
    (hK : ∀ w', RangeV P k w' b w.heap.size f cnt (fun x => (f x).isSome) cnt → w.grownBy w' none → w'.heap.size = w.heap.size + 1 → wpList P ops Q rest (a.put o.dst (.pointer (some ⟨w.heap.size, 0, none⟩))) w') : wpList P ops Q (o :: rest) a w := by
  obtain ⟨D, h1, h2, h3, h4⟩ := h
  refine wpList_range_own w hg m t hop k e (int_keyed hk) ht tokR b cnt D hm h1 fun w' hr hg' hs => hK w' ⟨D, Maps.has D, ?_, h2, h3, h4, h3⟩ hg' hs
  rw [h2] at hr
  exact hr
theorem wpList_entryV (hg : o.guard = none) (it : Operand) (hop : o.op = Op.entry it) {p v : Value} (hit : a.eval it = p) (hent : (Instr.entry p).run P w = .ok v w) (h : wpList P ops Q rest (a.put o.dst v) w) : wpList P ops Q (o :: rest) a w := by
  refine wpList_plain hg fun K' hK' => ?_
  unfold Oper.wp
  simp [execOp, hop, hit, hent, Result.andThen]
  exact hK' _ _ h
theorem wpList_nextV {α : Type} (enc : α → Value) (hg : o.guard = none) (it : Operand) (hop : o.op = Op.next it false) (k : TypeId) (hk : P.underlying k = some (.int .i64)) (b r cnt : Nat) (g : Int → Option α) (left : Int → Bool) (lc : Nat)
    (hit : a.eval it = .pointer (some ⟨r, 0, none⟩)) (h : RangeV P k w b r (fun x => (g x).map enc) cnt left lc)
    (hDone : lc = 0 → (∀ x, left x = false) → wpList P ops Q rest (a.put o.dst (.tuple #[.bool false])) w)
    (hMore : ∀ (x : Int) (c : α) (w' : World) (lc' : Nat), (Lit.int .i64 x).wf = true → left x = true → g x = some c → RangeV P k w' b r (fun x => (g x).map enc) cnt (fun z => left z && !decide (z = x)) lc' → lc' < lc → w.grownBy w' (some r) → w'.heap.size = w.heap.size →
      (Instr.entry (.pointer (some ⟨r, 0, none⟩))).run P w' = .ok (.tuple #[.int .i64 x, enc c]) w' → wpList P ops Q rest (a.put o.dst (.tuple #[.bool true, .int .i64 x, enc c])) w') : wpList P ops Q (o :: rest) a w := by
  obtain ⟨D, lf, h1, h2, h3, h4, h5⟩ := h
  refine wpList_plain hg fun K' hK' => ?_
  unfold Oper.wp
  rcases h1.next (int_keyed hk) o.type with ⟨h0, hl, hrun⟩ | ⟨key, v, kl, y, w', cnt', hkey, hlk, hv, hat, hrun, hrg, hlt, hgr, hsz, hen⟩
  · simp [execOp, hop, hit, hrun, Result.andThen]
    exact hK' _ _ (hDone h0 fun x => by rw [← h5]; exact hl _)
  · obtain ⟨x, rfl, rfl, hw⟩ := Maps.keyOf_int_inv hk hkey
    unfold tokR at hv
    injection hv with hv
    subst hv
    have hhas : Maps.has D (.int .i64 x) = true := Maps.has_true_of_atKey hat
    have hg2 : ∃ c, g x = some c := by
      rw [h3] at hhas
      cases hg3 : g x with
      | none => simp [hg3] at hhas
      | some c => exact ⟨c, rfl⟩
    obtain ⟨c, hc⟩ := hg2
    have hvc : v = enc c := by
      have e1 := h4 x (enc c) (by simp [hc]) (.held v)
      rw [hat] at e1
      injection e1
    subst hvc
    simp [execOp, hop, hit, hrun, Result.andThen]
    refine hK' _ _ (hMore x c w' cnt' hw (by rw [← h5]; exact hlk) hc ⟨D, _, hrg, h2, h3, h4, fun z => ?_⟩ hlt hgr hsz hen)
    show (lf (.int .i64 z) && !(Lit.int .i64 z).sameKey (.int .i64 x)) = _
    rw [h5]
    congr 2
    by_cases hz : z = x
    · subst hz
      simp [WideAt.sameKey_self ((int_keyed hk).key hkey)]
    · rw [sameKey_ne (by intro e; injection e with _ e; exact hz e)]
      simp [hz]
end
end Go.Proofs.Ytifgbnjpiphidaa
