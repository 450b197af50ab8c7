/- The walks of package tree: the map, New, Has, Parent, Weight, Len, may, known. -/
import Derived.Test.YtifgbnjpiphidaaRows
import Derived.WalkKit
import Derived.ProofKit
import Derived.Handy
import Derived.Deep.QuietTactic
import Derived.BigQuiet
import Derived.Deep.RegionWith
import Derived.Deep.RegionHeld3
import Derived.Deep.AppendLies
import Derived.WalkLawsBesides
import Derived.WalkSmall
import Derived.Deep.Cut
import Derived.Test.YtifgbnjpiphidaaMem
import Derived.Test.YtifgbnjpiphidaaLift
import Derived.Test.YtifgbnjpiphidaaApp
import Derived.Test.YtifgbnjpiphidaaReads
import Derived.Test.YtifgbnjpiphidaaOrd
import Derived.Test.YtifgbnjpiphidaaSeq
import Derived.Test.YtifgbnjpiphidaaInts
import Derived.Test.YtifgbnjpiphidaaMaps
import Derived.Test.YtifgbnjpiphidaaTreL
namespace Go.Proofs.Ytifgbnjpiphidaa
open Go.RowKit
set_option linter.unusedVariables false
def enN (p : Nd) : Value := .agg #[.int .i64 p.on, .int .i64 p.wt]
def zN : Nd := ⟨0, 0, 0⟩
theorem zeroN (w : World) : (zeroValue 60).run Try.prog w = .ok (enN zN) w := by kernel_rfl
theorem field0 (W : World) (x y : Value) : (Instr.field 60 (.agg #[x, y]) 0).run Try.prog W = .ok x W := by rfl
theorem field1 (W : World) (x y : Value) : (Instr.field 60 (.agg #[x, y]) 1).run Try.prog W = .ok y W := by rfl
def MapN (w : World) (b : Nat) (G : Int → Option Nd) (cnt : Nat) : Prop := MapV Try.prog 3 w b (fun k => (G k).map enN) cnt
theorem MapN.made (w : World) : MapN (w.alloc (.map #[] 0)) w.heap.size (fun _ => none) 0 := MapV.made w Try.prog 3
theorem MapN.look {w : World} {b cnt : Nat} {G : Int → Option Nd} (h : MapN w b G cnt) {x : Int} (hw : (Lit.int .i64 x).wf = true) :
    (Instr.lookup 52 (.map (some b)) (.int .i64 x) false).run Try.prog w = .ok (enN ((G x).getD zN)) w := by
  have e := MapV.look Try.underlying3 Try.underlying52 h (zeroN w) hw
  rw [e]
  cases G x <;> rfl
theorem MapN.lookOk {w : World} {b cnt : Nat} {G : Int → Option Nd} (h : MapN w b G cnt) {x : Int} (hw : (Lit.int .i64 x).wf = true) :
    (Instr.lookup 52 (.map (some b)) (.int .i64 x) true).run Try.prog w = .ok (.tuple #[enN ((G x).getD zN), .bool (G x).isSome]) w := by
  have e := MapV.lookOk Try.underlying3 Try.underlying52 h (zeroN w) hw
  rw [e]
  cases G x <;> rfl
theorem upd_map {α : Type} (G : Int → Option α) (enc : α → Value) (x : Int) (v : α) (y : Int) : upd (fun k => (G k).map enc) x (some (enc v)) y = (upd G x (some v) y).map enc := by
  unfold upd; split <;> rfl
theorem upd_map_none {α : Type} (G : Int → Option α) (enc : α → Value) (x : Int) (y : Int) : upd (fun k => (G k).map enc) x none y = (upd G x none y).map enc := by
  unfold upd; split <;> rfl
theorem MapN.ext {w : World} {b c : Nat} {G G' : Int → Option Nd} (h : MapN w b G c) (he : ∀ x, G x = G' x) : MapN w b G' c := by
  have : G = G' := funext he
  rwa [← this]
theorem MapN.write {w : World} {b cnt : Nat} {G : Int → Option Nd} (h : MapN w b G cnt) {x : Int} {v : Nd} (hn : cnt < maxLen) (hw : (Lit.int .i64 x).wf = true) :
    ∃ w', (Instr.mapUpdate 52 (.map (some b)) (.int .i64 x) (enN v)).run Try.prog w = .ok () w' ∧ MapN w' b (upd G x (some v)) (if (G x).isSome then cnt else cnt + 1) ∧ w.grownBy w' (some b) := by
  obtain ⟨w', h1, h2, h3⟩ := MapV.put Try.underlying3 Try.underlying52 h hn hw (enN v)
  refine ⟨w', h1, ?_, h3⟩
  have := MapV.ext h2 fun y => upd_map G enN x v y
  simp only [Option.isSome_map] at this
  exact this
theorem MapN.strike {w : World} {b cnt : Nat} {G : Int → Option Nd} (h : MapN w b G cnt) {x : Int} (hw : (Lit.int .i64 x).wf = true) (ty : TypeId) :
    ∃ w', (Builtin.delete_ #[52, 3] ty #[.map (some b), .int .i64 x]).run Try.prog w = .ok (.tuple #[]) w' ∧ MapN w' b (upd G x none) (if (G x).isSome then cnt - 1 else cnt) ∧ w.grownBy w' (some b) := by
  obtain ⟨w', h1, h2, h3⟩ := MapV.del Try.underlying3 Try.underlying52 h hw ty
  refine ⟨w', h1, ?_, h3⟩
  have := MapV.ext h2 fun y => upd_map_none G enN x y
  simp only [Option.isSome_map] at this
  exact this
def Ndok (p : Nd) : Prop := (1 ≤ p.id ∧ p.id ≤ 2147483647) ∧ (0 ≤ p.on ∧ p.on ≤ 2147483647) ∧ (1 ≤ p.wt ∧ p.wt ≤ 256)
/-- A tree in memory: its block g, its map b, its nodes l. -/
structure Trs (w : World) (g b : Nat) (most : Int) (l : List Nd) : Prop where
  blk : Blk w g 54 #[.int .i64 most, .map (some b)]
  map : MapN w b (getN l) l.length
  uq : Uq l
  few : l.length ≤ 256
  nd : ∀ p ∈ l, Ndok p
  mst : 1 ≤ most ∧ most ≤ 256
section
variable {w w' : World} {g b : Nat} {l : List Nd} {most : Int}
theorem Trs.lt (h : Trs w g b most l) : g < w.heap.size ∧ b < w.heap.size := ⟨h.blk.lt, MapV.lt h.map⟩
theorem Trs.same (h : Trs w g b most l) (h1 : w'.heap[g]? = w.heap[g]?) (h2 : w'.heap[b]? = w.heap[b]?) : Trs w' g b most l := ⟨h1.trans h.blk, MapV.same h.map h2, h.uq, h.few, h.nd, h.mst⟩
theorem Trs.below (h : Trs w g b most l) (hb : Below w.heap.size w w') : Trs w' g b most l := h.same (hb.block g h.lt.1) (hb.block b h.lt.2)
theorem Trs.alloc (h : Trs w g b most l) (o : Obj) : Trs (w.alloc o) g b most l := h.below ((Below.refl _ _).alloc (Nat.le_refl _) o)
theorem Trs.drewN (h : Trs w g b most l) (n : Nat) : Trs (w.drewN n) g b most l := h.same rfl rfl
theorem Trs.drew (h : Trs w g b most l) : Trs w.drew g b most l := h.same rfl rfl
theorem Trs.ne (h : Trs w g b most l) : g ≠ b := MapV.blk_ne h.map h.blk
end
theorem wf31 {x : Int} (h1 : 0 ≤ x) (h2 : x ≤ 2147483647) : (Lit.int .i64 x).wf = true := wf_key (by omega) (by omega)
def Newed (most : Int) (w : World) (e : Ending) (w' : World) : Prop := ∃ g b, e = .returned (.tuple #[.pointer (some ⟨g, 0, none⟩), .int .i64 0]) ∧ w.heap.size ≤ g ∧ w.heap.size ≤ b ∧ Trs w' g b most [] ∧ Below w.heap.size w w'
theorem new_any (most : Int) (hm : 1 ≤ most ∧ most ≤ 256) (w : World) : Calls Try.prog 7 #[.int .i64 most] w (Newed most w) := by
  have hmm := @run_makeMap Try.prog
  have hm1 := MapN.made w
  have hm2 : MapN ((w.alloc (.map #[] 0)).alloc (.cells #[.int .i64 most, .map (some w.heap.size)] 54)) w.heap.size (fun _ => none) 0 := MapV.alloc hm1 _
  have hb := Blk.new (w.alloc (.map #[] 0)) 54 #[.int .i64 most, .map (some w.heap.size)]
  rw [World.size_alloc] at hb
  have H := Lib.hid (And.intro hm2 (And.intro hb hm))
  obtain ⟨h1, h2⟩ := hm
  clear hm1 hm2 hb
  go_enter Try.func7, Try.ntmps7
  go_wp2_with fail
  go_ret2
  exact ⟨w.heap.size + 1, w.heap.size, rfl, Nat.le_succ _, Nat.le_refl _, ⟨H.out.2.1, H.out.1.ext (fun x => (getN_nil x).symm), List.Pairwise.nil, by simp, fun p hp => (by cases hp), H.out.2.2⟩, ((Below.refl _ _).alloc (Nat.le_refl _) _).alloc (by simp) _⟩
theorem new_bad (most : Int) (hm : most < 1 ∨ 256 < most) (w : World) : Calls Try.prog 7 #[.int .i64 most] w fun e w' => e = .returned (.tuple #[.pointer none, .int .i64 2]) ∧ w = w' := by
  by_cases h : most < 1
  · clear hm
    go_enter Try.func7, Try.ntmps7
    go_wp2_with fail
    go_ret2
    exact ⟨rfl, rfl⟩
  · have h1 : 256 < most := by omega
    clear hm
    go_enter Try.func7, Try.ntmps7
    go_wp2_with fail
    go_ret2
    exact ⟨rfl, rfl⟩
theorem has_nil (x : Int) (w : World) : Calls Try.prog 19 #[.pointer none, .int .i64 x] w fun e w' => e = .returned (.bool false) ∧ w = w' := by
  go_enter Try.func19, Try.ntmps19
  go_wp2_with fail
  go_ret
  exact ⟨rfl, rfl⟩
section
variable (g b : Nat) (most : Int) (l : List Nd) (w : World) (k : Trs w g b most l)
include k
theorem has_any (x : Int) (hx : (Lit.int .i64 x).wf = true) : Calls Try.prog 19 #[.pointer (some ⟨g, 0, none⟩), .int .i64 x] w fun e w' => e = .returned (.bool (getN l x).isSome) ∧ Below w.heap.size w w' := by
  have hl := k.map.lookOk hx
  have c1 := Blk.cell k.blk 1
  simp at c1
  clear hx k
  generalize (getN l x).getD zN = a at *
  generalize (getN l x).isSome = s at *
  obtain ⟨p, o, t⟩ := a
  unfold enN at hl
  simp only at hl
  go_enter Try.func19, Try.ntmps19
  go_wp2_with fail
  go_ret
  exact ⟨rfl, (Below.refl _ _).alloc (Nat.le_refl _) _⟩
theorem parent_any (x : Int) (hx : (Lit.int .i64 x).wf = true) : Calls Try.prog 12 #[.pointer (some ⟨g, 0, none⟩), .int .i64 x] w fun e w' => e = .returned (.int .i64 ((getN l x).getD zN).on) ∧ Below w.heap.size w w' := by
  have hh := has_any g b most l w k x hx
  have HH := Lib.hid hh
  have HK := Lib.hid k
  have HX := Lib.hid hx
  clear hh k hx
  cases hg : getN l x with
  | none =>
    rw [hg] at HH
    simp only [Option.isSome_none] at HH
    go_enter Try.func12, Try.ntmps12
    go_wp2_with fail
    refine HH.out.mono ?_
    rintro e w1 ⟨rfl, b1⟩
    go_wp2_with fail
    go_ret
    exact ⟨rfl, b1⟩
  | some p =>
    rw [hg] at HH
    simp only [Option.isSome_some] at HH
    have HG := Lib.hid hg
    clear hg
    go_enter Try.func12, Try.ntmps12
    go_wp2_with fail
    refine HH.out.mono ?_
    rintro e w1 ⟨rfl, b1⟩
    have k1 := HK.out.below b1
    have hl : (Instr.lookup 52 (.map (some b)) (.int .i64 x) false).run Try.prog w1 = .ok (.agg #[.int .i64 p.on, .int .i64 p.wt]) w1 := by
      have h := k1.map.look HX.out
      rw [HG.out] at h
      exact h
    have c1 := Blk.cell k1.blk 1
    simp at c1
    clear k1
    have f0 := field0 w1 (.int .i64 p.on) (.int .i64 p.wt)
    have f1 := field1 w1 (.int .i64 p.on) (.int .i64 p.wt)
    go_wp2_with fail
    go_ret
    exact ⟨rfl, b1⟩
theorem weight_any (x : Int) (hx : (Lit.int .i64 x).wf = true) : Calls Try.prog 11 #[.pointer (some ⟨g, 0, none⟩), .int .i64 x] w fun e w' => e = .returned (.int .i64 ((getN l x).getD zN).wt) ∧ Below w.heap.size w w' := by
  have hh := has_any g b most l w k x hx
  have HH := Lib.hid hh
  have HK := Lib.hid k
  have HX := Lib.hid hx
  clear hh k hx
  cases hg : getN l x with
  | none =>
    rw [hg] at HH
    simp only [Option.isSome_none] at HH
    go_enter Try.func11, Try.ntmps11
    go_wp2_with fail
    refine HH.out.mono ?_
    rintro e w1 ⟨rfl, b1⟩
    go_wp2_with fail
    go_ret
    exact ⟨rfl, b1⟩
  | some p =>
    rw [hg] at HH
    simp only [Option.isSome_some] at HH
    have HG := Lib.hid hg
    clear hg
    go_enter Try.func11, Try.ntmps11
    go_wp2_with fail
    refine HH.out.mono ?_
    rintro e w1 ⟨rfl, b1⟩
    have k1 := HK.out.below b1
    have hl : (Instr.lookup 52 (.map (some b)) (.int .i64 x) false).run Try.prog w1 = .ok (.agg #[.int .i64 p.on, .int .i64 p.wt]) w1 := by
      have h := k1.map.look HX.out
      rw [HG.out] at h
      exact h
    have c1 := Blk.cell k1.blk 1
    simp at c1
    clear k1
    have f0 := field0 w1 (.int .i64 p.on) (.int .i64 p.wt)
    have f1 := field1 w1 (.int .i64 p.on) (.int .i64 p.wt)
    go_wp2_with fail
    go_ret
    exact ⟨rfl, b1⟩
theorem len_any : Calls Try.prog 13 #[.pointer (some ⟨g, 0, none⟩)] w fun e w' => e = .returned (.int .i64 l.length) ∧ w = w' := by
  have hl := fun ty => MapV.len (ty := ty) Try.underlying52 k.map
  have c1 := Blk.cell k.blk 1
  simp at c1
  clear k
  go_enter Try.func13, Try.ntmps13
  go_wp2_with fail
  go_ret
  exact ⟨rfl, rfl⟩
end
end Go.Proofs.Ytifgbnjpiphidaa
