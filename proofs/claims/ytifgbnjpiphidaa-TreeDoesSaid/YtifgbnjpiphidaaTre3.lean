/- The walks of tree's may, known, hang. -/
import Derived.Test.YtifgbnjpiphidaaRows
import Derived.WalkKit
import Derived.ProofKit
import Derived.Handy
import Derived.Deep.QuietTactic
import Derived.BigQuiet
import Derived.Deep.RegionWith
import Derived.Deep.RegionHeld3
import Derived.Deep.AppendLies
import Derived.WalkLawsBesides
import Derived.WalkSmall
import Derived.Deep.Cut
import Derived.Test.YtifgbnjpiphidaaTre2
namespace Go.Proofs.Ytifgbnjpiphidaa
open Go.RowKit
set_option linter.unusedVariables false
def da (d : Dp) : Array Value := #[.int .i64 d.on, .int .i64 d.wt, .bool d.ex]
def mayB (d : Dp) : Bool := decide (0 ≤ d.on ∧ d.on ≤ 2147483647 ∧ 1 ≤ d.wt ∧ d.wt ≤ 256)
set_option maxHeartbeats 1000000 in
theorem may_any (d : Dp) (w : World) : Calls Try.prog 22 #[.agg (da d)] w fun e w' => e = .returned (.bool (mayB d)) ∧ Below w.heap.size w w' := by
  obtain ⟨on, wt, ex⟩ := d
  have B1 : Hid (Below w.heap.size w (w.alloc (.cells #[.int .i64 on, .int .i64 wt, .bool ex] 30))) := (Below.refl _ _).alloc (Nat.le_refl _) _
  unfold da
  by_cases h1 : 0 ≤ on
  · by_cases h2 : on ≤ 2147483647
    · by_cases h3 : 1 ≤ wt
      · by_cases h4 : wt ≤ 256
        · rw [show mayB ⟨on, wt, ex⟩ = true from decide_eq_true ⟨h1, h2, h3, h4⟩]
          go_enter Try.func22, Try.ntmps22
          go_wp2_with fail
          go_ret
          exact ⟨rfl, B1.out⟩
        · rw [show mayB ⟨on, wt, ex⟩ = false from decide_eq_false (fun h => h4 h.2.2.2)]
          go_enter Try.func22, Try.ntmps22
          go_wp2_with fail
          go_ret
          exact ⟨rfl, B1.out⟩
      · rw [show mayB ⟨on, wt, ex⟩ = false from decide_eq_false (fun h => h3 h.2.2.1)]
        go_enter Try.func22, Try.ntmps22
        go_wp2_with fail
        go_ret
        exact ⟨rfl, B1.out⟩
    · rw [show mayB ⟨on, wt, ex⟩ = false from decide_eq_false (fun h => h2 h.2.1)]
      go_enter Try.func22, Try.ntmps22
      go_wp2_with fail
      go_ret
      exact ⟨rfl, B1.out⟩
  · rw [show mayB ⟨on, wt, ex⟩ = false from decide_eq_false (fun h => h1 h.1)]
    go_enter Try.func22, Try.ntmps22
    go_wp2_with fail
    go_ret
    exact ⟨rfl, B1.out⟩
theorem load3 {t : TypeId} {g : Nat} {x y z : Value} (W' : World) (h0 : W'.cell? ⟨g, 0, none⟩ = some x) (h1 : W'.cell? ⟨g, 1, none⟩ = some y) (h2 : W'.cell? ⟨g, 2, none⟩ = some z) : (loadVar 30 ⟨g, 0, none⟩).run Try.prog W' = .ok (.agg #[x, y, z]) W' := by
  simp [go_sem, h0, h1, h2]
theorem set3_blk {w : World} {g : Nat} {t : TypeId} {c : Array Value} (h : Blk w g t c) (hc : c.size = 3) (x y z : Value) : Blk (((w.setCell ⟨g, 0, none⟩ x).setCell ⟨g, 1, none⟩ y).setCell ⟨g, 2, none⟩ z) g t #[x, y, z] := by
  have h3 := Blk.set_ (Blk.set_ (Blk.set_ h 0 x) 1 y) 2 z
  have e : (((c.setIfInBounds 0 x).setIfInBounds 1 y).setIfInBounds 2 z) = #[x, y, z] := by
    match c, hc with
    | ⟨[a, b, d]⟩, _ => simp
  rw [e] at h3
  exact h3
set_option maxHeartbeats 1000000 in
theorem known_any (g b : Nat) (most : Int) (l : List Nd) (w : World) (k : Trs w g b most l) (d : Dp) (hd : (Lit.int .i64 d.on).wf = true) :
    Calls Try.prog 24 #[.pointer (some ⟨g, 0, none⟩), .agg (da d)] w fun e w' => e = .returned (.agg (da (knownL l d))) ∧ Below w.heap.size w w' := by
  obtain ⟨on, wt, ex⟩ := d
  have z1 := Blk.alloc (Blk.new w 30 #[.int .i64 on, .int .i64 wt, .bool ex]) (.cells #[.int .i64 0, .int .i64 0, .bool false] 30)
  have z2 := Blk.new (w.alloc (.cells #[.int .i64 on, .int .i64 wt, .bool ex] 30)) 30 #[.int .i64 0, .int .i64 0, .bool false]
  rw [World.size_alloc] at z2
  have B1 : Below w.heap.size w ((w.alloc (.cells #[.int .i64 on, .int .i64 wt, .bool ex] 30)).alloc (.cells #[.int .i64 0, .int .i64 0, .bool false] 30)) := ((Below.refl _ _).alloc (Nat.le_refl _) _).alloc (by simp) _
  have k1 := k.below B1
  have H1 := Lib.hid (And.intro z1 (And.intro z2 (And.intro B1 k1)))
  have HX := Lib.hid hd
  clear z1 z2 B1 k1 k hd
  unfold da
  go_enter Try.func24, Try.ntmps24
  go_upto_region 1 with fail
  generalize (w.alloc (.cells #[.int .i64 on, .int .i64 wt, .bool ex] 30)).alloc (.cells #[.int .i64 0, .int .i64 0, .bool false] 30) = W at *
  have hws := H1.out.2.2.1.size
  have fin : ∀ (W' : World), Below W.heap.size W W' → Blk W' w.heap.size 30 #[.int .i64 on, .int .i64 wt, .bool ex] ∧ Blk W' (w.heap.size + 1) 30 #[.int .i64 0, .int .i64 0, .bool false] ∧ Below w.heap.size w W' := fun W' hb => ⟨H1.out.1.below hb H1.out.1.lt, H1.out.2.1.below hb H1.out.2.1.lt, H1.out.2.2.1.trans (hb.mono hws)⟩
  have HF := Lib.hid fin
  clear fin
  by_cases h0 : on = 0
  · subst h0
    have HKN := Lib.hid (show knownL l ⟨0, wt, ex⟩ = ⟨0, wt, ex⟩ by unfold knownL; rw [if_neg (fun h => h.1 rfl)])
    obtain ⟨x1, x2, x3⟩ := HF.out W (Below.refl _ _)
    have H2 := Lib.hid (And.intro x2 x3)
    have c0 := Blk.cell x1 0
    have c1 := Blk.cell x1 1
    have c2 := Blk.cell x1 2
    have d0 := Blk.cell x2 0
    have d1 := Blk.cell x2 1
    have d2 := Blk.cell x2 2
    have f0 := Blk.frozen x2 0
    have f1 := Blk.frozen x2 1
    have f2 := Blk.frozen x2 2
    simp at c0 c1 c2 d0 d1 d2
    clear x1 x2 x3
    go_wp2_with fail
    refine ret_cell3 (t := 30) (g := w.heap.size + 1) (x := .int .i64 0) (y := .int .i64 wt) (z := .bool ex) rfl rfl rfl (set3_blk H2.out.1 rfl _ _ _) (fun W' a b c => load3 (t := 0) W' a b c) ⟨by have h := HKN.out; first | (rw [h]; done) | (rw [h]; rfl), ?_⟩
    exact (((H2.out.2.setCell (p := ⟨w.heap.size + 1, 0, none⟩) (by simp) _).setCell (p := ⟨w.heap.size + 1, 1, none⟩) (by simp) _).setCell (p := ⟨w.heap.size + 1, 2, none⟩) (by simp) _)
  · cases hg : getN l on with
    | none =>
      have HKN := Lib.hid (show knownL l ⟨on, wt, ex⟩ = ⟨0, wt, false⟩ by unfold knownL; rw [if_pos ⟨h0, hg⟩])
      have hh := has_any g b most l W H1.out.2.2.2 on HX.out
      rw [hg] at hh
      have HH := Lib.hid hh
      have hb0 : (on != 0) = true := by simp [h0]
      have c0' := Blk.cell H1.out.1 0
      simp at c0'
      clear hh hg
      go_wp2_with fail
      refine HH.out.mono ?_
      rintro e w1 ⟨rfl, b1⟩
      obtain ⟨x1, x2, x3⟩ := HF.out w1 b1
      have H2 := Lib.hid (And.intro x2 x3)
      have c0 := Blk.cell x1 0
      have c1 := Blk.cell x1 1
      have c2 := Blk.cell x1 2
      have d0 := Blk.cell x2 0
      have d1 := Blk.cell x2 1
      have d2 := Blk.cell x2 2
      have f0 := Blk.frozen x2 0
      have f1 := Blk.frozen x2 1
      have f2 := Blk.frozen x2 2
      simp at c0 c1 c2 d0 d1 d2
      clear x1 x2 x3 b1
      go_wp2_with fail
      refine ret_cell3 (t := 30) (g := w.heap.size + 1) (x := .int .i64 0) (y := .int .i64 wt) (z := .bool false) rfl rfl rfl (set3_blk H2.out.1 rfl _ _ _) (fun W' a b c => load3 (t := 0) W' a b c) ⟨by have h := HKN.out; first | (rw [h]; done) | (rw [h]; rfl), ?_⟩
      exact (((H2.out.2.setCell (p := ⟨w.heap.size + 1, 0, none⟩) (by simp) _).setCell (p := ⟨w.heap.size + 1, 1, none⟩) (by simp) _).setCell (p := ⟨w.heap.size + 1, 2, none⟩) (by simp) _)
    | some p =>
      have HKN := Lib.hid (show knownL l ⟨on, wt, ex⟩ = ⟨on, wt, ex⟩ by unfold knownL; rw [if_neg (fun h => by rw [hg] at h; cases h.2)])
      have hh := has_any g b most l W H1.out.2.2.2 on HX.out
      rw [hg] at hh
      have HH := Lib.hid hh
      have hb0 : (on != 0) = true := by simp [h0]
      have c0' := Blk.cell H1.out.1 0
      simp at c0'
      clear hh hg
      go_wp2_with fail
      refine HH.out.mono ?_
      rintro e w1 ⟨rfl, b1⟩
      obtain ⟨x1, x2, x3⟩ := HF.out w1 b1
      have H2 := Lib.hid (And.intro x2 x3)
      have c0 := Blk.cell x1 0
      have c1 := Blk.cell x1 1
      have c2 := Blk.cell x1 2
      have d0 := Blk.cell x2 0
      have d1 := Blk.cell x2 1
      have d2 := Blk.cell x2 2
      have f0 := Blk.frozen x2 0
      have f1 := Blk.frozen x2 1
      have f2 := Blk.frozen x2 2
      simp at c0 c1 c2 d0 d1 d2
      clear x1 x2 x3 b1
      go_wp2_with fail
      refine ret_cell3 (t := 30) (g := w.heap.size + 1) (x := .int .i64 on) (y := .int .i64 wt) (z := .bool ex) rfl rfl rfl (set3_blk H2.out.1 rfl _ _ _) (fun W' a b c => load3 (t := 0) W' a b c) ⟨by have h := HKN.out; first | (rw [h]; done) | (rw [h]; rfl), ?_⟩
      exact (((H2.out.2.setCell (p := ⟨w.heap.size + 1, 0, none⟩) (by simp) _).setCell (p := ⟨w.heap.size + 1, 1, none⟩) (by simp) _).setCell (p := ⟨w.heap.size + 1, 2, none⟩) (by simp) _)
/-- Behind a turn of the tree. -/
def Turned (w : World) (g b : Nat) (most : Int) (l' : List Nd) (w' : World) : Prop := Trs w' g b most l' ∧ Only [b] w w'
set_option maxHeartbeats 1000000 in
theorem hang_any (g b : Nat) (most : Int) (l : List Nd) (w : World) (k : Trs w g b most l) (i o : Int) (p : Nd) (hp : getN l i = some p) (ho : 0 ≤ o ∧ o ≤ 2147483647) :
    Calls Try.prog 33 #[.pointer (some ⟨g, 0, none⟩), .int .i64 i, .int .i64 o] w fun e w' => e = .returned (.tuple #[]) ∧ Turned w g b most (hangN l i o) w' := by
  have hpm := getN_mem hp
  have hpn := k.nd p hpm.1
  have hw : (Lit.int .i64 i).wf = true := wf31 (by rw [← hpm.2]; have := hpn.1; omega) (by rw [← hpm.2]; have := hpn.1; omega)
  have c1 := Blk.cell k.blk 1
  simp at c1
  have HK := Lib.hid k
  have HP := Lib.hid (And.intro hp (And.intro hw ho))
  have hcn : (if (getN l i).isSome then l.length else l.length + 1) = l.length := by rw [hp]; rfl
  have m1 : MapN w.drew b (getN l) l.length := MapV.drew k.map
  obtain ⟨w5, hrun, hm5, hg5⟩ := m1.write (x := i) (v := ⟨i, o, p.wt⟩) (by have := k.few; simp only [maxLen]; omega) hw
  rw [hcn] at hm5
  have hfin : Turned w g b most (hangN l i o) w5 := by
    refine ⟨⟨(hg5.block g k.lt.1 (by simp; exact k.ne)).trans k.blk, ?_, k.uq.hang i o, by rw [length_hang]; exact k.few, fun q hq => ?_, k.mst⟩, ⟨hg5.os, hg5.tape, hg5.output, hg5.size, fun q hq hn => hg5.block q hq (by simp at hn; simp; exact hn)⟩⟩
    · rw [length_hang]
      refine hm5.ext fun j => ?_
      rw [getN_hang, hp]
      unfold upd
      split <;> rfl
    · unfold hangN at hq
      obtain ⟨q0, hq0, rfl⟩ := List.mem_map.1 hq
      have hn := k.nd q0 hq0
      split
      · exact ⟨hn.1, ho, hn.2.2⟩
      · exact hn
  have H5 := Lib.hid hfin
  unfold enN at hrun
  clear k hp hpm hpn hw hcn hm5 hg5 hfin m1
  go_enter Try.func33, Try.ntmps33
  go_wp2_with fail
  refine wp_region_ord (fun w' => w'.cell? ⟨g, 1, none⟩ = some (.map (some b)) ∧ MapN w' b (getN l) l.length) 14
    [(true, 0), (true, 1), (true, 2), (true, 3), (true, 4), (true, 5), (true, 6), (true, 7), (true, 8), (true, 9), (true, 10), (true, 11), (true, 12), (true, 13)]
    default (by kernel_rfl) (by kernel_rfl) (fun d _ _ _ _ h => by cases d <;> exact h) ?_ ?_
  · exact ⟨c1, HK.out.map⟩
  simp only [List.map_cons, List.map_nil, List.getD_cons_succ, List.getD_cons_zero]
  repeat
    (refine heldL_take ?_ ?_ ?_
     rotate_left
     · intro w' hw'
       try dsimp only at hw'
       have l1 : (Instr.lookup 52 (.map (some b)) (.int .i64 i) false).run Try.prog w' = .ok (.agg #[.int .i64 p.on, .int .i64 p.wt]) w' := by
         have h := hw'.2.look HP.out.2.1
         rw [HP.out.1] at h
         exact h
       have f1 := field1 w' (.int .i64 p.on) (.int .i64 p.wt)
       obtain ⟨q1, _⟩ := hw'
       go_simp
       try with_reducible rfl
     try simp only [Act.put, List.setIfInBounds_toArray, List.set_cons_zero, List.set_cons_succ])
  refine heldL_last (fun K hK => ?_)
  go_simp
  refine hK _ _ ?_
  clear hK K
  try simp only [Act.put, List.setIfInBounds_toArray, List.set_cons_zero, List.set_cons_succ]
  go_wp2_with fail
  go_end0
  exact ⟨rfl, H5.out⟩
end Go.Proofs.Ytifgbnjpiphidaa
