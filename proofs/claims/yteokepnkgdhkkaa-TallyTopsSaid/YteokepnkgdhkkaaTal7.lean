/- The walk of tally's gather: what adds a sum to the map. -/
import Derived.Test.YteokepnkgdhkkaaRows
import Derived.WalkKit
import Derived.ProofKit
import Derived.Handy
import Derived.Deep.QuietTactic
import Derived.BigQuiet
import Derived.Deep.Cut
import Derived.Deep.RegionWith
import Derived.Deep.RegionHeld3
import Derived.Deep.AppendLies
import Derived.WalkLawsBesides
import Derived.WalkSmall
import Derived.Test.YteokepnkgdhkkaaTalM
import Derived.Test.YteokepnkgdhkkaaTal
import Derived.Test.YteokepnkgdhkkaaOrd
import Derived.Test.YteokepnkgdhkkaaMaps
namespace Go.Proofs.Yteokepnkgdhkkaa
open Go.RowKit
set_option linter.unusedVariables false
def enS (a : Sm) : Value := .agg (sa a)
theorem zeroS (w : World) : (zeroValue 33).run Try.prog w = .ok (enS (Sm.zero 0)) w := by kernel_rfl
def MapS (w : World) (b : Nat) (G : Int → Option Sm) (cnt : Nat) : Prop := MapV Try.prog 3 w b (fun k => (G k).map enS) cnt
theorem MapS.made (w : World) : MapS (w.alloc (.map #[] 0)) w.heap.size (fun _ => none) 0 := MapV.made w Try.prog 3
theorem MapS.look {w : World} {b cnt : Nat} {G : Int → Option Sm} (h : MapS w b G cnt) {x : Int} (hw : (Lit.int .i64 x).wf = true) :
    (Instr.lookup 53 (.map (some b)) (.int .i64 x) false).run Try.prog w = .ok (enS ((G x).getD (Sm.zero 0))) w := by
  have e := MapV.look Try.underlying3 Try.underlying53 h (zeroS w) hw
  rw [e]
  cases G x <;> rfl
theorem upd_map {α : Type} (G : Int → Option α) (enc : α → Value) (x : Int) (v : α) (y : Int) : upd (fun k => (G k).map enc) x (some (enc v)) y = (upd G x (some v) y).map enc := by
  unfold upd; split <;> rfl
theorem MapS.ext {w : World} {b c : Nat} {G G' : Int → Option Sm} (h : MapS w b G c) (he : ∀ x, G x = G' x) : MapS w b G' c := by
  have : G = G' := funext he
  rwa [← this]
theorem MapS.write {w : World} {b cnt : Nat} {G : Int → Option Sm} (h : MapS w b G cnt) {x : Int} {v : Sm} (hn : cnt < maxLen) (hw : (Lit.int .i64 x).wf = true) :
    ∃ w', (Instr.mapUpdate 53 (.map (some b)) (.int .i64 x) (enS v)).run Try.prog w = .ok () w' ∧ MapS w' b (upd G x (some v)) (if (G x).isSome then cnt else cnt + 1) ∧ w.grownBy w' (some b) := by
  obtain ⟨w', h1, h2, h3⟩ := MapV.put Try.underlying3 Try.underlying53 h hn hw (enS v)
  refine ⟨w', h1, ?_, h3⟩
  have := MapV.ext h2 fun y => upd_map G enS x v y
  simp only [Option.isSome_map] at this
  exact this
/-- What is laid for x, where o stood. -/
def addV (o : Option Sm) (x : Sm) : Sm := Sm.add { o.getD (Sm.zero 0) with st := x.st } x
def AddE (W : World) (mb cnt : Nat) (G : Int → Option Sm) (x : Sm) (e : Ending) (w' : World) : Prop :=
  e = .returned (.tuple #[]) ∧ MapS w' mb (upd G x.st (some (addV (G x.st) x))) (if (G x.st).isSome then cnt else cnt + 1) ∧ Only [mb] W w'
set_option maxHeartbeats 4000000 in
theorem add_any (x : Sm) (B mb cnt : Nat) (G : Int → Option Sm) (W : World) (hB : W.cell? ⟨B, 0, none⟩ = some (.map (some mb))) (hm : MapS W mb G cnt) (hn : cnt < maxLen) (hw : (Lit.int .i64 x.st).wf = true)
    (hx : x.bd 576460752303423488) (hg : ∀ y, G x.st = some y → y.bd 576460752303423488) :
    Calls Try.prog 29 #[.agg (sa x), .pointer (some ⟨B, 0, none⟩)] W (AddE W mb cnt G x) := by
  have hz : ({ (G x.st).getD (Sm.zero 0) with st := x.st } : Sm).bd 576460752303423488 := by
    cases h : G x.st with
    | none => simp [Sm.zero, Sm.bd]
    | some y => exact hg y h
  have bx := Blk.new W 33 (sa x)
  have hBl : B < W.heap.size := lt_of_cell hB
  have hml := MapV.lt hm
  have m1 : MapS (W.alloc (.cells (sa x) 33)) mb G cnt := MapV.alloc hm _
  have l1 := m1.look hw
  have cB : (W.alloc (.cells (sa x) 33)).cell? ⟨B, 0, none⟩ = some (.map (some mb)) := (World.cell?_alloc_lt W _ ⟨B, 0, none⟩ hBl).trans hB
  have cx : (W.alloc (.cells (sa x) 33)).cell? ⟨W.heap.size, 0, none⟩ = some (.int .i64 x.st) := Blk.cell bx 0
  have O1 : Only [mb] W (W.alloc (.cells (sa x) 33)) := (Only.refl _ _).alloc _
  have HW := Lib.hid (And.intro hw (And.intro hx hz))
  have hs1 : (W.alloc (.cells (sa x) 33)).heap.size = W.heap.size + 1 := by simp
  have H1 := Lib.hid (And.intro bx (And.intro m1 O1))
  clear bx m1 hw hx hg hz O1 hB hm
  unfold AddE addV
  generalize hcn : (if (G x.st).isSome then cnt else cnt + 1) = cn at *
  have HCN := Lib.hid hcn
  clear hcn
  generalize hy : (G x.st).getD (Sm.zero 0) = y at *
  obtain ⟨x0, x1, x2, x3, x4, x5, x6, x7⟩ := x
  obtain ⟨y0, y1, y2, y3, y4, y5, y6, y7⟩ := y
  simp only at *
  have l2 : (Instr.lookup 53 (.map (some mb)) (.int .i64 x0) false).run Try.prog (W.alloc (.cells (sa ⟨x0, x1, x2, x3, x4, x5, x6, x7⟩) 33)) = .ok (.agg #[.int .i64 y0, .int .i64 y1, .int .i64 y2, .int .i64 y3, .bool y4, .bool y5, .int .i64 y6, .int .i64 y7]) (W.alloc (.cells (sa ⟨x0, x1, x2, x3, x4, x5, x6, x7⟩) 33)) := l1
  clear l1
  go_enter Try.func29, Try.ntmps29
  go_upto_region 2 with fail
  generalize (W.alloc (.cells (sa ⟨x0, x1, x2, x3, x4, x5, x6, x7⟩) 33)) = W1 at *
  have by1 := Blk.new W1 33 #[.int .i64 y0, .int .i64 y1, .int .i64 y2, .int .i64 y3, .bool y4, .bool y5, .int .i64 y6, .int .i64 y7]
  have bx1 := Blk.alloc H1.out.1 (.cells #[.int .i64 y0, .int .i64 y1, .int .i64 y2, .int .i64 y3, .bool y4, .bool y5, .int .i64 y6, .int .i64 y7] 33)
  have m1 := MapV.alloc H1.out.2.1 (.cells #[.int .i64 y0, .int .i64 y1, .int .i64 y2, .int .i64 y3, .bool y4, .bool y5, .int .i64 y6, .int .i64 y7] 33)
  have O1 := H1.out.2.2.alloc (.cells #[.int .i64 y0, .int .i64 y1, .int .i64 y2, .int .i64 y3, .bool y4, .bool y5, .int .i64 y6, .int .i64 y7] 33)
  have cB1 := (World.cell?_alloc_lt W1 (.cells #[.int .i64 y0, .int .i64 y1, .int .i64 y2, .int .i64 y3, .bool y4, .bool y5, .int .i64 y6, .int .i64 y7] 33) ⟨B, 0, none⟩ (show B < W1.heap.size by omega)).trans cB
  have c0 : (W1.alloc (.cells #[.int .i64 y0, .int .i64 y1, .int .i64 y2, .int .i64 y3, .bool y4, .bool y5, .int .i64 y6, .int .i64 y7] 33)).cell? ⟨W1.heap.size, 0, none⟩ = some (.int .i64 y0) := Blk.cell by1 0
  have f0 := Blk.frozen by1 0
  have d0 : (W1.alloc (.cells #[.int .i64 y0, .int .i64 y1, .int .i64 y2, .int .i64 y3, .bool y4, .bool y5, .int .i64 y6, .int .i64 y7] 33)).cell? ⟨W.heap.size, 0, none⟩ = some (.int .i64 x0) := Blk.cell bx1 0
  have hs2 : (W1.alloc (.cells #[.int .i64 y0, .int .i64 y1, .int .i64 y2, .int .i64 y3, .bool y4, .bool y5, .int .i64 y6, .int .i64 y7] 33)).heap.size = W.heap.size + 2 := by simp; omega
  have H2 := Lib.hid (And.intro by1 (And.intro bx1 (And.intro m1 O1)))
  clear by1 bx1 m1 O1 l2 cB cx H1
  generalize W1.alloc (.cells #[.int .i64 y0, .int .i64 y1, .int .i64 y2, .int .i64 y3, .bool y4, .bool y5, .int .i64 y6, .int .i64 y7] 33) = W2 at *
  rw [hs1] at H2 c0 f0
  go_wp2_with fail
  have by3 : Blk (W2.setCell ⟨W.heap.size + 1, 0, none⟩ (.int .i64 x0)) (W.heap.size + 1) 33 (sa ⟨x0, y1, y2, y3, y4, y5, y6, y7⟩) := by
    have := Blk.set_ H2.out.1 0 (.int .i64 x0)
    simpa [sa] using this
  have bx3 := Blk.far H2.out.2.1 (p := ⟨W.heap.size + 1, 0, none⟩) (by simp) (.int .i64 x0)
  have m3 := MapV.setCell H2.out.2.2.1 (p := ⟨W.heap.size + 1, 0, none⟩) (by simp; omega) (.int .i64 x0)
  have O3 := H2.out.2.2.2.setCell (p := ⟨W.heap.size + 1, 0, none⟩) (.inr (by simp)) (.int .i64 x0)
  have cB3 : (W2.setCell ⟨W.heap.size + 1, 0, none⟩ (.int .i64 x0)).cell? ⟨B, 0, none⟩ = some (.map (some mb)) := (World.cell?_setCell_other W2 _ ⟨B, 0, none⟩ _ (fun e => by injection e; omega)).trans cB1
  have hs3 : (W2.setCell ⟨W.heap.size + 1, 0, none⟩ (.int .i64 x0)).heap.size = W.heap.size + 2 := by simpa using hs2
  have H3 := Lib.hid (And.intro by3 (And.intro bx3 (And.intro m3 (And.intro O3 cB3))))
  clear by3 bx3 m3 O3 cB3 cB1 c0 f0 d0 H2 hs2
  generalize W2.setCell ⟨W.heap.size + 1, 0, none⟩ (.int .i64 x0) = W3 at *
  refine wp_region_ord (fun w' => w'.cell? ⟨B, 0, none⟩ = some (.map (some mb)) ∧ Blk w' (W.heap.size + 1) 33 (sa ⟨x0, y1, y2, y3, y4, y5, y6, y7⟩) ∧ Blk w' W.heap.size 33 (sa ⟨x0, x1, x2, x3, x4, x5, x6, x7⟩)) 6
    [(true, 0), (true, 1), (true, 2), (true, 3), (true, 4), (false, 5)]
    default (by kernel_rfl) (by kernel_rfl) (fun d _ _ _ _ h => by cases d <;> exact h) ?_ ?_
  · exact ⟨H3.out.2.2.2.2, H3.out.1, H3.out.2.1⟩
  simp only [List.map_cons, List.map_nil, List.getD_cons_succ, List.getD_cons_zero]
  repeat
    (refine heldL_take ?_ ?_ ?_
     rotate_left
     · intro w' hw'
       try dsimp only at hw'
       obtain ⟨q0, hby, hbx⟩ := hw'
       have c0 := Blk.cell hby 0
       have c1 := Blk.cell hby 1
       have c2 := Blk.cell hby 2
       have c3 := Blk.cell hby 3
       have c4 := Blk.cell hby 4
       have c5 := Blk.cell hby 5
       have c6 := Blk.cell hby 6
       have c7 := Blk.cell hby 7
       have d0 := Blk.cell hbx 0
       have d1 := Blk.cell hbx 1
       have d2 := Blk.cell hbx 2
       have d3 := Blk.cell hbx 3
       have d4 := Blk.cell hbx 4
       have d5 := Blk.cell hbx 5
       have d6 := Blk.cell hbx 6
       have d7 := Blk.cell hbx 7
       simp [sa] at c0 c1 c2 c3 c4 c5 c6 c7 d0 d1 d2 d3 d4 d5 d6 d7
       clear hby hbx
       go_simp
       try with_reducible rfl
     try simp only [Act.put, List.setIfInBounds_toArray, List.set_cons_zero, List.set_cons_succ])
  refine heldL_move (fun K hK => ?_)
  go_simp
  refine (plus_any ⟨x0, y1, y2, y3, y4, y5, y6, y7⟩ ⟨x0, x1, x2, x3, x4, x5, x6, x7⟩ _ HW.out.2.2 HW.out.2.1).mono ?_
  rintro e w4 ⟨rfl, b4'⟩
  have b4 : Below W3.heap.size W3 w4 := ⟨b4'.os, b4'.tape, b4'.output, b4'.size, b4'.block⟩
  clear b4'
  have bl := H3.out.2.1.lt
  refine hK.out _ _ ⟨(b4.cell (p := ⟨B, 0, none⟩) (by show B < _; omega)).trans H3.out.2.2.2.2, H3.out.1.below b4 H3.out.1.lt, H3.out.2.1.below b4 bl⟩ (fun hS => ?_)
  clear hK K hS
  try simp only [Act.put, List.setIfInBounds_toArray, List.set_cons_zero, List.set_cons_succ]
  refine heldL_last (fun K hK => ?_)
  have m4 : MapS w4 mb G cnt := MapV.below H3.out.2.2.1 b4 (by omega)
  obtain ⟨w5, hrun, hm5, hg5⟩ := m4.write (x := x0) (v := Sm.add ⟨x0, y1, y2, y3, y4, y5, y6, y7⟩ ⟨x0, x1, x2, x3, x4, x5, x6, x7⟩) hn HW.out.1
  unfold enS at hrun
  go_simp
  refine hK _ _ ?_
  clear hK K
  try simp only [Act.put, List.setIfInBounds_toArray, List.set_cons_zero, List.set_cons_succ]
  have O5 : Only [mb] W w5 := (H3.out.2.2.2.1.trans (Only.of_below (S := [mb]) b4) (fun i hi => .inl hi)).grown hg5 (fun k hk => by injection hk with hk; subst hk; exact .inl (by simp))
  have H5 := Lib.hid (And.intro hm5 O5)
  clear hm5 O5 hg5 hrun m4 b4
  go_wp2_with fail
  go_end0
  exact ⟨rfl, by rw [← HCN.out]; exact H5.out.1, H5.out.2⟩
end Go.Proofs.Yteokepnkgdhkkaa
