/- The walks of package timer: the map, the order, the sort's own part. -/
import Derived.Test.YtjiodpbefimnlaaRows
import Derived.WalkKit
import Derived.ProofKit
import Derived.Handy
import Derived.Test.YtjiodpbefimnlaaMem
import Derived.Test.YtjiodpbefimnlaaLift
import Derived.Test.YtjiodpbefimnlaaApp
import Derived.Test.YtjiodpbefimnlaaReads
import Derived.Test.YtjiodpbefimnlaaOrd
import Derived.Test.YtjiodpbefimnlaaInts
import Derived.Test.YtjiodpbefimnlaaMaps
import Derived.Test.YtjiodpbefimnlaaTimL
import Derived.Test.YtjiodpbefimnlaaLay39
import Derived.Deep.QuietTactic
import Derived.BigQuiet
import Derived.Deep.RegionWith
import Derived.Deep.RegionHeld3
import Derived.Deep.AppendLies
import Derived.WalkLawsBesides
import Derived.WalkSmall
namespace Go.Proofs.Ytjiodpbefimnlaa
open Go.RowKit
set_option linter.unusedVariables false
theorem zeroI (w : World) : (zeroValue 3).run Try.prog w = .ok (.int .i64 0) w := by kernel_rfl
def MapI (w : World) (b : Nat) (G : Int → Option Int) (cnt : Nat) : Prop := MapV Try.prog 3 w b (fun k => (G k).map (Value.int .i64)) cnt
theorem MapI.made (w : World) : MapI (w.alloc (.map #[] 0)) w.heap.size (fun _ => none) 0 := MapV.made w Try.prog 3
theorem MapI.look {w : World} {b cnt : Nat} {G : Int → Option Int} (h : MapI w b G cnt) {x : Int} (hw : (Lit.int .i64 x).wf = true) :
    (Instr.lookup 52 (.map (some b)) (.int .i64 x) false).run Try.prog w = .ok (.int .i64 ((G x).getD 0)) w := by
  have e := MapV.look Try.underlying3 Try.underlying52 h (zeroI w) hw
  rw [e]
  cases G x <;> rfl
theorem MapI.lookOk {w : World} {b cnt : Nat} {G : Int → Option Int} (h : MapI w b G cnt) {x : Int} (hw : (Lit.int .i64 x).wf = true) :
    (Instr.lookup 52 (.map (some b)) (.int .i64 x) true).run Try.prog w = .ok (.tuple #[.int .i64 ((G x).getD 0), .bool (G x).isSome]) w := by
  have e := MapV.lookOk Try.underlying3 Try.underlying52 h (zeroI w) hw
  rw [e]
  cases G x <;> rfl
theorem upd_map {α : Type} (G : Int → Option α) (enc : α → Value) (x : Int) (v : α) (y : Int) : upd (fun k => (G k).map enc) x (some (enc v)) y = (upd G x (some v) y).map enc := by
  unfold upd; split <;> rfl
theorem upd_map_none {α : Type} (G : Int → Option α) (enc : α → Value) (x : Int) (y : Int) : upd (fun k => (G k).map enc) x none y = (upd G x none y).map enc := by
  unfold upd; split <;> rfl
theorem MapI.ext {w : World} {b c : Nat} {G G' : Int → Option Int} (h : MapI w b G c) (he : ∀ x, G x = G' x) : MapI w b G' c := by
  have : G = G' := funext he
  rwa [← this]
/-- A write: the run's own equation, and what is there then. -/
theorem MapI.write {w : World} {b cnt : Nat} {G : Int → Option Int} (h : MapI w b G cnt) {x v : Int} (hn : cnt < maxLen) (hw : (Lit.int .i64 x).wf = true) :
    ∃ w', (Instr.mapUpdate 52 (.map (some b)) (.int .i64 x) (.int .i64 v)).run Try.prog w = .ok () w' ∧ MapI w' b (upd G x (some v)) (if (G x).isSome then cnt else cnt + 1) ∧ w.grownBy w' (some b) := by
  obtain ⟨w', h1, h2, h3⟩ := MapV.put Try.underlying3 Try.underlying52 h hn hw (.int .i64 v)
  refine ⟨w', h1, ?_, h3⟩
  have := MapV.ext h2 fun y => upd_map G (Value.int .i64) x v y
  simp only [Option.isSome_map] at this
  exact this
theorem MapI.strike {w : World} {b cnt : Nat} {G : Int → Option Int} (h : MapI w b G cnt) {x : Int} (hw : (Lit.int .i64 x).wf = true) (ty : TypeId) :
    ∃ w', (Builtin.delete_ #[52, 3] ty #[.map (some b), .int .i64 x]).run Try.prog w = .ok (.tuple #[]) w' ∧ MapI w' b (upd G x none) (if (G x).isSome then cnt - 1 else cnt) ∧ w.grownBy w' (some b) := by
  obtain ⟨w', h1, h2, h3⟩ := MapV.del Try.underlying3 Try.underlying52 h hw ty
  refine ⟨w', h1, ?_, h3⟩
  have := MapV.ext h2 fun y => upd_map_none G (Value.int .i64) x y
  simp only [Option.isSome_map] at this
  exact this
theorem grown_below {w0 w w' : World} {b : Nat} (h : w.grownBy w' (some b)) (hb : w0.heap.size ≤ b) (hs : w0.heap.size ≤ w.heap.size) : Below w0.heap.size w w' :=
  ⟨h.os, h.tape, h.output, h.size, fun k hk => h.block k (by omega) (by simp; omega)⟩

/-- A wheel: its block g, its map b, the timers l, the clock now. -/
structure Whl (w : World) (g b : Nat) (l : List (Int × Int)) (now : Int) : Prop where
  blk : Blk w g 54 #[.map (some b), .int .i64 now]
  map : MapI w b (getT l) l.length
  sd : Sd l
  few : l.length ≤ 1024
  clock : 0 ≤ now ∧ now ≤ 1099511627776
  key : ∀ p ∈ l, (Lit.int .i64 p.1).wf = true
  top : ∀ p ∈ l, p.2 ≤ 1099511627776
section
variable {w w' : World} {g b : Nat} {l : List (Int × Int)} {now : Int}
theorem Whl.lt (h : Whl w g b l now) : g < w.heap.size ∧ b < w.heap.size := ⟨h.blk.lt, MapV.lt h.map⟩
theorem Whl.same (h : Whl w g b l now) (h1 : w'.heap[g]? = w.heap[g]?) (h2 : w'.heap[b]? = w.heap[b]?) : Whl w' g b l now := ⟨h1.trans h.blk, MapV.same h.map h2, h.sd, h.few, h.clock, h.key, h.top⟩
theorem Whl.below (h : Whl w g b l now) (hb : Below w.heap.size w w') : Whl w' g b l now := h.same (hb.block g h.lt.1) (hb.block b h.lt.2)
theorem Whl.alloc (h : Whl w g b l now) (o : Obj) : Whl (w.alloc o) g b l now := h.below ((Below.refl _ _).alloc (Nat.le_refl _) o)
theorem Whl.drewN (h : Whl w g b l now) (n : Nat) : Whl (w.drewN n) g b l now := h.same rfl rfl
theorem Whl.ne (h : Whl w g b l now) : g ≠ b := MapV.blk_ne h.map h.blk
end

theorem nan_any (a : Int) (w : World) : Calls Try.prog 28 #[.int .i64 a] w fun e w' => e = .returned (.bool false) ∧ w = w' := by
  go_enter Try.func28, Try.ntmps28
  go_wp2_with fail
  go_ret
  exact ⟨rfl, rfl⟩
theorem compare_any (a b : Int) (w : World) : Calls Try.prog 26 #[.int .i64 a, .int .i64 b] w fun e w' => e = .returned (.int .i64 (cmpI a b)) ∧ w = w' := by
  by_cases h1 : a < b
  · rw [show cmpI a b = -1 by unfold cmpI; rw [if_pos h1]]
    go_enter Try.func26, Try.ntmps26
    go_wp2_with (go_at_call 28; refine (nan_any _ _).mono ?_; rintro e w' ⟨rfl, rfl⟩)
    go_ret
    exact ⟨rfl, rfl⟩
  · by_cases h2 : b < a
    · rw [show cmpI a b = 1 by unfold cmpI; rw [if_neg h1, if_pos h2]]
      go_enter Try.func26, Try.ntmps26
      go_wp2_with (go_at_call 28; refine (nan_any _ _).mono ?_; rintro e w' ⟨rfl, rfl⟩)
      go_ret
      exact ⟨rfl, rfl⟩
    · rw [show cmpI a b = 0 by unfold cmpI; rw [if_neg h1, if_neg h2]]
      go_enter Try.func26, Try.ntmps26
      go_wp2_with (go_at_call 28; refine (nan_any _ _).mono ?_; rintro e w' ⟨rfl, rfl⟩)
      go_ret
      exact ⟨rfl, rfl⟩
theorem or_any (x y : Int) (p : Nat) (w : World) (h0 : w.cell? ⟨p, 0, none⟩ = some (.int .i64 x)) (h1 : w.cell? ⟨p, 1, none⟩ = some (.int .i64 y)) :
    Calls Try.prog 25 #[.slice (some ⟨p, 0, none⟩) 2 2] w fun e w' => e = .returned (.int .i64 (orI x y)) ∧ w = w' := by
  by_cases hx : x = 0
  · have e : orI x y = y := by unfold orI; rw [if_neg (by omega)]
    rw [e]
    subst hx
    clear e
    by_cases hy : y = 0
    · subst hy
      go_enter Try.func25, Try.ntmps25
      go_wp2_with fail
      refine wp_loop_rounds 3 ?_
      rw [rounds_succ]
      go_wp2_with fail
      rw [rounds_succ]
      go_wp2_with fail
      rw [rounds_succ]
      go_wp2_with fail
      go_ret
      exact ⟨rfl, rfl⟩
    · have hy' : (y != 0) = true := by simp [hy]
      clear hy
      go_enter Try.func25, Try.ntmps25
      go_wp2_with fail
      refine wp_loop_rounds 2 ?_
      rw [rounds_succ]
      go_wp2_with fail
      rw [rounds_succ]
      go_wp2_with fail
      go_ret
      exact ⟨rfl, rfl⟩
  · have e : orI x y = x := by unfold orI; rw [if_pos hx]
    have hx' : (x != 0) = true := by simp [hx]
    rw [e]
    clear hx e
    go_enter Try.func25, Try.ntmps25
    go_wp2_with fail
    refine wp_loop_rounds 1 ?_
    rw [rounds_succ]
    go_wp2_with fail
    go_ret
    exact ⟨rfl, rfl⟩
set_option maxHeartbeats 1000000 in
theorem before_any (x y : Int) (B g mb cnt : Nat) (f : Int → Option Int) (W : World) (hB : W.cell? ⟨B, 0, none⟩ = some (.pointer (some ⟨g, 0, none⟩))) (hg : W.cell? ⟨g, 0, none⟩ = some (.map (some mb))) (hm : MapI W mb f cnt)
    (hx : (Lit.int .i64 x).wf = true) (hy : (Lit.int .i64 y).wf = true) :
    Calls Try.prog 24 #[.int .i64 x, .int .i64 y, .pointer (some ⟨B, 0, none⟩)] W fun e w' => e = .returned (.int .i64 (cmpT f x y)) ∧ ∃ q os', w' = Sort.grow (W.drewN q) os' := by
  have HX := Lib.hid (And.intro hx hy)
  have HM := Lib.hid hm
  have e : cmpT f x y = orI (cmpI ((f x).getD 0) ((f y).getD 0)) (cmpI x y) := rfl
  rw [e]
  clear hx hy hm e
  have hsz := MapV.lt HM.out
  go_enter Try.func24, Try.ntmps24
  go_wp2_with fail
  refine wp_region_ord (fun w' => w'.cell? ⟨B, 0, none⟩ = some (.pointer (some ⟨g, 0, none⟩)) ∧ w'.cell? ⟨g, 0, none⟩ = some (.map (some mb)) ∧ MapI w' mb f cnt) 18
    [(true, 0), (true, 1), (true, 2), (true, 3), (true, 4), (true, 5), (true, 6), (true, 7), (true, 8), (true, 9), (true, 10), (true, 11), (true, 13), (true, 14), (false, 12), (false, 15), (false, 16), (false, 17)]
    default (by kernel_rfl) (by kernel_rfl) (fun d _ _ _ _ h => by cases d <;> exact h) ?_ ?_
  · exact ⟨hB, hg, HM.out⟩
  simp only [List.map_cons, List.map_nil, List.getD_cons_succ, List.getD_cons_zero]
  repeat
    (refine heldL_take ?_ ?_ ?_
     rotate_left
     · intro w' hw'
       try dsimp only at hw'
       have l1 := hw'.2.2.look HX.out.1
       have l2 := hw'.2.2.look HX.out.2
       obtain ⟨q1, q2, _⟩ := hw'
       go_simp
       try with_reducible rfl
     try simp only [Act.put, List.setIfInBounds_toArray, List.set_cons_zero, List.set_cons_succ])
  refine heldL_move (fun K hK => ?_)
  go_simp
  refine (compare_any _ _ _).mono ?_
  rintro e w1 ⟨rfl, rfl⟩
  refine hK.out _ _ ⟨hB, hg, HM.out⟩ (fun hS => ?_)
  clear hK K hS
  try simp only [Act.put, List.setIfInBounds_toArray, List.set_cons_zero, List.set_cons_succ]
  refine heldL_move (fun K hK => ?_)
  go_simp
  refine (compare_any _ _ _).mono ?_
  rintro e w1 ⟨rfl, rfl⟩
  refine hK.out _ _ ⟨hB, hg, HM.out⟩ (fun hS => ?_)
  clear hK K hS
  try simp only [Act.put, List.setIfInBounds_toArray, List.set_cons_zero, List.set_cons_succ]
  have hBl : B < W.heap.size := lt_of_cell hB
  have hgl : g < W.heap.size := lt_of_cell hg
  refine heldL_move (fun K hK => ?_)
  go_simp
  refine hK.out _ _ ⟨?_, ?_, ?_⟩ (fun hS => ?_)
  · exact (World.cell?_alloc_lt W.drew _ ⟨B, 0, none⟩ hBl).trans hB
  · exact (World.cell?_alloc_lt W.drew _ ⟨g, 0, none⟩ hgl).trans hg
  · exact MapV.alloc (MapV.drew HM.out) _
  clear hK K hS
  try simp only [Act.put, List.setIfInBounds_toArray, List.set_cons_zero, List.set_cons_succ]
  have bn : Blk (W.drew.alloc (.cells #[.int .i64 (cmpI ((f x).getD 0) ((f y).getD 0)), .int .i64 (cmpI x y)] 3)) W.heap.size 3 #[.int .i64 (cmpI ((f x).getD 0) ((f y).getD 0)), .int .i64 (cmpI x y)] := Blk.new W.drew _ _
  refine heldL_move (fun K hK => ?_)
  go_simp
  refine (or_any _ _ W.heap.size _ (Blk.cell bn 0) (Blk.cell bn 1)).mono ?_
  rintro e w1 ⟨rfl, rfl⟩
  refine hK.out _ _ ⟨?_, ?_, ?_⟩ (fun hS => ?_)
  · exact (World.cell?_alloc_lt W.drew _ ⟨B, 0, none⟩ hBl).trans hB
  · exact (World.cell?_alloc_lt W.drew _ ⟨g, 0, none⟩ hgl).trans hg
  · exact MapV.alloc (MapV.drew HM.out) _
  clear hK K hS
  try simp only [Act.put, List.setIfInBounds_toArray, List.set_cons_zero, List.set_cons_succ]
  refine heldL_last (fun K hK => ?_)
  go_simp
  refine hK _ _ ?_
  clear hK K
  try simp only [Act.put, List.setIfInBounds_toArray, List.set_cons_zero, List.set_cons_succ]
  go_wp2_with fail
  go_ret
  exact ⟨rfl, 1, #[_], by rw [← Sort.alloc_eq_grow]; rfl⟩
end Go.Proofs.Ytjiodpbefimnlaa
