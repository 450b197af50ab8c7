/- What the law of shaking needs: an act (a bool and settings), what goes out of the row's front, High of settings. -/
import Derived.Test.YtdegdikkjaifiaaRows
import Derived.WalkKit
import Derived.ProofKit
import Derived.Handy
import Derived.Test.YtdegdikkjaifiaaMem
import Derived.Test.YtdegdikkjaifiaaLift
import Derived.Test.YtdegdikkjaifiaaApp
import Derived.Test.YtdegdikkjaifiaaReads
import Derived.Test.YtdegdikkjaifiaaCut
import Derived.Test.YtdegdikkjaifiaaOff
import Derived.Test.YtdegdikkjaifiaaParams2
import Derived.Test.YtdegdikkjaifiaaParamsR
import Derived.Test.YtdegdikkjaifiaaShake
import Derived.Test.YtdegdikkjaifiaaOrd
import Derived.Test.YtdegdikkjaifiaaShake2
import Derived.Deep.QuietTactic
import Derived.BigQuiet
import Derived.Deep.RegionWith
import Derived.WalkLawsBesides
import Derived.Laws.ResultCell
import Derived.WalkSmall
namespace Go.Proofs.Ytdegdikkjaifiaa
open Go.RowKit
open Go.WideShapes Go.ChangeShapes Go.Deep
set_option linter.unusedVariables false
/-- An act: a bool, and settings. -/
def BS (cs : List Value) : Prop := ∃ (b : Bool) (x y z : Int), cs = [.bool b, .int .i64 x, .int .i64 y, .int .i64 z] ∧ (-9223372036854775808 ≤ x ∧ x ≤ 9223372036854775807) ∧ (-9223372036854775808 ≤ y ∧ y ≤ 9223372036854775807) ∧ (-9223372036854775808 ≤ z ∧ z ≤ 9223372036854775807)
theorem bs_of {H : Type} {enc : TypeId × Value → H} {P : Program} {w : World} {base : Nat} {spare : Nat → Bool} {held : Bool} {e bt st it : TypeId} {f0 f1 k0 k1 k2 : Field} (he : P.underlying e = some (.struct #[f0, f1])) (hbt : P.underlying bt = some .bool) (hst : P.underlying st = some (.struct #[k0, k1, k2])) (hit : P.underlying it = some (.int .i64)) (h1 : P.cellsOf bt = 1) (h2 : P.cellsOf st = 3) (h3 : P.cellsOf it = 1)
    (o0 : f0.offset = 0) (o1 : f1.offset = 1) (t0 : f0.type = bt) (t1 : f1.type = st) (p0 : k0.offset = 0) (p1 : k1.offset = 1) (p2 : k2.offset = 2) (s0 : k0.type = it) (s1 : k1.type = it) (s2 : k2.type = it) :
    ∀ fuel cs x, cs.length = 4 → DataW.trod enc P w base spare held fuel e cs = some x → BS cs := by
  intro fuel cs x hl h
  match cs, hl with
  | [c0, c1, c2, c3], _ =>
    obtain ⟨_, _, g0⟩ := field_trod he h 0 f0 rfl 0 1 bt o0 t0 h1
    obtain ⟨_, _, g1⟩ := field_trod he h 1 f1 rfl 1 3 st o1 t1 h2
    obtain ⟨b, e0, _⟩ := DataW.trod_bool hbt g0
    obtain ⟨x0, y0, z0, e1, b1, b2, b3⟩ := three_of hst hit h3 p0 p1 p2 s0 s1 s2 _ _ _ rfl g1
    simp at e0 e1
    obtain ⟨rfl, rfl, rfl⟩ := e1
    exact ⟨b, x0, y0, z0, by rw [e0], b1, b2, b3⟩
theorem bs_at {w : World} {A : Option Addr} {n i : Nat} {C : Nat → List Value}
    (h : ∀ i, i < n → BS (C i) ∧ (C i).length = 4 ∧ ∃ b off, A = some ⟨b, off, none⟩ ∧ b < w.heap.size ∧ ∀ (j : Nat) (u : Value), (C i)[j]? = some u → w.cell? ⟨b, off + i * 4 + j, none⟩ = some u) (hi : i < n) :
    ∃ b off k x y z, A = some ⟨b, off, none⟩ ∧ b < w.heap.size ∧ w.cell? ⟨b, off + i * 4, none⟩ = some (.bool k) ∧ w.cell? ⟨b, off + i * 4 + 1, none⟩ = some (.int .i64 x) ∧ w.cell? ⟨b, off + i * 4 + 2, none⟩ = some (.int .i64 y) ∧ w.cell? ⟨b, off + i * 4 + 3, none⟩ = some (.int .i64 z) ∧
      (-9223372036854775808 ≤ x ∧ x ≤ 9223372036854775807) ∧ (-9223372036854775808 ≤ y ∧ y ≤ 9223372036854775807) ∧ (-9223372036854775808 ≤ z ∧ z ≤ 9223372036854775807) := by
  obtain ⟨⟨k, x, y, z, hc, hx, hy, hz⟩, _, b, off, hA, hb, hcell⟩ := h i hi
  refine ⟨b, off, k, x, y, z, hA, hb, ?_, ?_, ?_, ?_, hx, hy, hz⟩
  · exact hcell 0 _ (by rw [hc]; rfl)
  · exact hcell 1 _ (by rw [hc]; rfl)
  · exact hcell 2 _ (by rw [hc]; rfl)
  · exact hcell 3 _ (by rw [hc]; rfl)

theorem OwnO.front {w : World} {base : Nat} {e : TypeId} {sz : Nat} {A : Option Addr} {n c m : Nat} {xs : List Value} (h : OwnO w base e sz A n c xs) (hm : m ≤ n) :
    OwnO w base e sz (if c = m then A else A.map (·.add (m * sz))) (n - m) (c - m) (xs.drop (m * sz)) ∧ ∀ a off, (if c = m then A else A.map (·.add (m * sz))) = some ⟨a, off, none⟩ → ∃ off', A = some ⟨a, off', none⟩ := by
  have hnc := h.1.2.1
  refine ⟨?_, fun a off hX => ?_⟩
  · obtain ⟨h1, h2, h3⟩ := h
    rcases h3 with rfl | ⟨g, off, cur, rfl, hg, hh, hf, hx⟩
    · obtain ⟨rfl, rfl⟩ := h1.2.2.2.1 rfl
      obtain rfl : m = 0 := by omega
      have hxs : xs = [] := List.eq_nil_of_length_eq_zero (by simpa using h1.1)
      subst hxs
      simp only [if_true, Nat.sub_self, List.drop_nil]
      exact OwnO.nil_ _ _ _ _
    · have ea : (some (⟨g, off, none⟩ : Addr)).map (·.add (m * sz)) = some ⟨g, off + m * sz, none⟩ := by
        simp only [Option.map_some, Addr.add]
        split
        · next e => rw [e]; rfl
        · rfl
      rw [ea]
      have hl : m * sz + (c - m) * sz = c * sz := by rw [← Nat.add_mul]; congr 1; omega
      have hx' : ∀ (j : Nat) (u : Value), (xs.drop (m * sz))[j]? = some u → cur[off + m * sz + j]? = some u := fun j u hu => by
        rw [List.getElem?_drop] at hu
        rw [Nat.add_assoc]
        exact hx _ u hu
      refine ⟨⟨by rw [List.length_drop, h1.1, Nat.sub_mul], by omega, by have := h1.2.2.1; omega, fun hA => (by split at hA <;> cases hA), fun hp => ?_⟩, by omega, ?_⟩
      · rw [if_neg (by omega)]
        exact ⟨g, off + m * sz, cur, rfl, hh, hx'⟩
      · split
        · next e =>
          subst e
          refine .inr ⟨g, off, cur, rfl, hg, hh, by omega, fun j u hu => ?_⟩
          have : xs.drop (c * sz) = [] := List.drop_eq_nil_of_le (by rw [h1.1]; exact Nat.mul_le_mul_right _ hnc)
          rw [this] at hu
          cases hu
        · exact .inr ⟨g, off + m * sz, cur, rfl, hg, hh, by omega, hx'⟩
  · obtain ⟨a', hA', hb⟩ : ∃ a' : Addr, A = some a' ∧ a'.block = a := by
      split at hX
      · exact ⟨_, hX, rfl⟩
      · cases A with
        | none => cases hX
        | some a' =>
          simp only [Option.map_some, Addr.add] at hX
          injection hX with hX
          split at hX
          · exact ⟨a', rfl, by rw [hX]⟩
          · injection hX with e1 e2 e3
            exact ⟨a', rfl, e1⟩
    rcases h.2.2 with hn | ⟨g', off', cur, hA, _⟩
    · rw [hn] at hA'; cases hA'
    · rw [hA] at hA'
      injection hA' with hA'
      subst hA'
      exact ⟨off', by rw [hA]; simp only at hb; rw [hb]⟩
/-- The front goes. -/
theorem OwnO.tail {P : Program} {T e : TypeId} {sz : Nat} (ht : P.underlying T = some (.slice e)) (hs : (P.info? e).map (·.size) = some sz) (A : Option Addr) (n c m : Nat) (hm : m ≤ n) (hnc : n ≤ c) :
    ∃ X : Option Addr, (∀ W : World, (Instr.sliceAt T (.slice A n c) (some (.int .i64 m)) none none).run P W = .ok (.slice X (n - m) (c - m)) W) ∧ (∀ (w : World) (base : Nat) (xs : List Value), OwnO w base e sz A n c xs → OwnO w base e sz X (n - m) (c - m) (xs.drop (m * sz)) ∧ ∀ a off, X = some ⟨a, off, none⟩ → ∃ off', A = some ⟨a, off', none⟩) := by
  have he : P.elem T = e := by simp [Program.elem, ht]
  have ht' : P.underlying T = some (.slice (P.elem T)) := by rw [he]; exact ht
  have hz : ∀ W : World, (sizeOf (P.elem T)).run P W = .ok sz W := fun W => by
    rw [he]
    cases hq : P.info? e with
    | none => simp [hq] at hs
    | some i =>
      have hi : i.size = sz := by simpa [hq] using hs
      simp [sizeOf, typeInfo, hq, hi]
  refine ⟨if c = m then A else A.map (·.add (m * sz)), fun W => ?_, fun w base xs h => h.front hm⟩
  · rw [run_sliceAt_slice W T _ _ _ _ ht', run_slice_l W T A n c ht' .i64 m (by omega) (by omega), hz]
    simp [Result.andThen, sliced]

theorem app_one_ok (x y z i v : Int) (h1 : 0 ≤ v) (h2 : v ≤ 2147483647) (r : List (Int × Int)) : app x y z ((i, v) :: r) = app (setP x y z i v).1 (setP x y z i v).2.1 (setP x y z i v).2.2 r := by
  show (if v < 0 ∨ 2147483647 < v then ((0, 0, 0), 4) else _) = _
  rw [if_neg (by omega)]
theorem app_diff_ok (x y z x' y' z' : Int) (hr : rightB x' y' z' = true) : app x y z (diffL x y z x' y' z') = ((x', y', z'), 0) := by
  have h : (0 ≤ x' ∧ x' ≤ 4096) ∧ (0 ≤ y' ∧ y' ≤ 32) ∧ (0 ≤ z' ∧ z' ≤ 64) := by simpa [rightB, and_assoc] using hr
  have p1 : (setP x y z 1 x') = (x', y, z) := rfl
  obtain ⟨⟨a1, a2⟩, ⟨b1, b2⟩, ⟨c1, c2⟩⟩ := h
  unfold diffL
  by_cases e1 : x = x' <;> by_cases e2 : y = y' <;> by_cases e3 : z = z'
  all_goals (simp only [e1, e2, e3, if_true, if_false, List.nil_append, List.append_nil, List.cons_append])
  all_goals (first | rfl | skip)
  all_goals (try rw [app_one_ok _ _ _ _ _ (by omega) (by omega)])
  all_goals (first | rfl | skip)
  all_goals (try rw [app_one_ok _ _ _ _ _ (by omega) (by omega)])
  all_goals (first | rfl | skip)
  all_goals (try rw [app_one_ok _ _ _ _ _ (by omega) (by omega)])
  all_goals (first | rfl | skip)

theorem high_any (a b : Int) (w : World) : Calls Try.prog 20 #[.int .i64 a, .int .i64 b] w fun e w' => e = .returned (.int .i64 (max a b)) ∧ w = w' := by
  by_cases h : a > b
  · have : max a b = a := Int.max_eq_left (by omega)
    rw [this]
    go_enter Try.func20, Try.ntmps20
    go_wp2_with fail
    go_ret
    exact ⟨rfl, rfl⟩
  · have : max a b = b := Int.max_eq_right (by omega)
    rw [this]
    go_enter Try.func20, Try.ntmps20
    go_wp2_with fail
    go_ret
    exact ⟨rfl, rfl⟩
set_option maxHeartbeats 4000000 in
theorem rhigh_any (a b : Set3) (w : World) :
    Calls Try.prog 11 #[.agg #[.int .i64 a.1, .int .i64 a.2.1, .int .i64 a.2.2], .agg #[.int .i64 b.1, .int .i64 b.2.1, .int .i64 b.2.2]] w fun e w' => e = .returned (.agg #[.int .i64 (hi3 a b).1, .int .i64 (hi3 a b).2.1, .int .i64 (hi3 a b).2.2]) ∧ Below w.heap.size w w' := by
  obtain ⟨a1, a2, a3⟩ := a
  obtain ⟨b1, b2, b3⟩ := b
  show Calls _ _ _ _ (fun e w' => e = .returned (.agg #[.int .i64 (max a1 b1), .int .i64 (max a2 b2), .int .i64 (max a3 b3)]) ∧ Below w.heap.size w w')
  go_enter Try.func11, Try.ntmps11
  have x0 := Blk.alloc (Blk.alloc (Blk.new w 27 #[.int .i64 a1, .int .i64 a2, .int .i64 a3]) (.cells #[.int .i64 b1, .int .i64 b2, .int .i64 b3] 27)) (.cells #[.int .i64 0, .int .i64 0, .int .i64 0] 27)
  have y0 := Blk.alloc (Blk.new (w.alloc (.cells #[.int .i64 a1, .int .i64 a2, .int .i64 a3] 27)) 27 #[.int .i64 b1, .int .i64 b2, .int .i64 b3]) (.cells #[.int .i64 0, .int .i64 0, .int .i64 0] 27)
  have z0 := Blk.new ((w.alloc (.cells #[.int .i64 a1, .int .i64 a2, .int .i64 a3] 27)).alloc (.cells #[.int .i64 b1, .int .i64 b2, .int .i64 b3] 27)) 27 #[.int .i64 0, .int .i64 0, .int .i64 0]
  simp only [World.size_alloc] at y0 z0
  have B0 := (((Below.refl w.heap.size w).alloc (Nat.le_refl _) (.cells #[.int .i64 a1, .int .i64 a2, .int .i64 a3] 27)).alloc (by simp) (.cells #[.int .i64 b1, .int .i64 b2, .int .i64 b3] 27)).alloc (by simp; omega) (.cells #[.int .i64 0, .int .i64 0, .int .i64 0] 27)
  go_wp2_with fail
  generalize ((w.alloc (.cells #[.int .i64 a1, .int .i64 a2, .int .i64 a3] 27)).alloc (.cells #[.int .i64 b1, .int .i64 b2, .int .i64 b3] 27)).alloc (.cells #[.int .i64 0, .int .i64 0, .int .i64 0] 27) = W at *
  generalize hG : w.heap.size = G at *
  have c0 := Blk.cell x0 0
  have c1 := Blk.cell x0 1
  have c2 := Blk.cell x0 2
  have d0 := Blk.cell y0 0
  have d1 := Blk.cell y0 1
  have d2 := Blk.cell y0 2
  have r0 := Blk.cell z0 0
  have r1 := Blk.cell z0 1
  have r2 := Blk.cell z0 2
  have s0 := Blk.frozen z0 0
  have s1 := Blk.frozen z0 1
  have s2 := Blk.frozen z0 2
  simp at c0 c1 c2 d0 d1 d2 r0 r1 r2
  refine wp_region_ord (fun w' => w'.cell? ⟨G, 0, none⟩ = some (.int .i64 a1) ∧ w'.cell? ⟨G, 1, none⟩ = some (.int .i64 a2) ∧ w'.cell? ⟨G, 2, none⟩ = some (.int .i64 a3) ∧ w'.cell? ⟨G + 1, 0, none⟩ = some (.int .i64 b1) ∧ w'.cell? ⟨G + 1, 1, none⟩ = some (.int .i64 b2) ∧ w'.cell? ⟨G + 1, 2, none⟩ = some (.int .i64 b3)) 16
    [(true, 0), (true, 1), (true, 2), (true, 3), (true, 5), (true, 6), (true, 7), (true, 8), (true, 10), (true, 11), (true, 12), (true, 13), (false, 4), (false, 9), (false, 14), (true, 15)]
    default (by kernel_rfl) (by kernel_rfl) (fun d _ _ _ _ h => by cases d <;> exact h) ?_ ?_
  · exact ⟨c0, c1, c2, d0, d1, d2⟩
  simp only [List.map_cons, List.map_nil, List.getD_cons_succ, List.getD_cons_zero]
  repeat
    (refine heldL_take ?_ ?_ ?_
     rotate_left
     · intro w' hw'
       try dsimp only at hw'
       go_simp
       try with_reducible rfl
     try simp only [Act.put, List.setIfInBounds_toArray, List.set_cons_zero, List.set_cons_succ])
  refine heldL_move (fun K hK => ?_)
  go_simp
  refine (high_any _ _ _).mono ?_
  rintro e w1 ⟨rfl, rfl⟩
  refine hK.out _ _ ?_ (fun hS => ?_)
  · exact ⟨c0, c1, c2, d0, d1, d2⟩
  clear hK K
  try simp only [Act.put, List.setIfInBounds_toArray, List.set_cons_zero, List.set_cons_succ]
  refine heldL_move (fun K hK => ?_)
  go_simp
  refine (high_any _ _ _).mono ?_
  rintro e w1 ⟨rfl, rfl⟩
  refine hK.out _ _ ?_ (fun hS => ?_)
  · exact ⟨c0, c1, c2, d0, d1, d2⟩
  clear hK K
  try simp only [Act.put, List.setIfInBounds_toArray, List.set_cons_zero, List.set_cons_succ]
  refine heldL_move (fun K hK => ?_)
  go_simp
  refine (high_any _ _ _).mono ?_
  rintro e w1 ⟨rfl, rfl⟩
  refine hK.out _ _ ?_ (fun hS => ?_)
  · exact ⟨c0, c1, c2, d0, d1, d2⟩
  clear hK K
  try simp only [Act.put, List.setIfInBounds_toArray, List.set_cons_zero, List.set_cons_succ]
  repeat
    (refine heldL_take ?_ ?_ ?_
     rotate_left
     · intro w' hw'
       try dsimp only at hw'
       go_simp
       try with_reducible rfl
     try simp only [Act.put, List.setIfInBounds_toArray, List.set_cons_zero, List.set_cons_succ])
  refine heldL_last (fun K hK => ?_)
  go_simp
  refine hK _ _ ?_
  clear hK K
  try simp only [Act.put, List.setIfInBounds_toArray, List.set_cons_zero, List.set_cons_succ]
  go_wp2_with fail
  refine ret_cell3 (g := G + 1 + 1) rfl rfl rfl (Blk.set_ (Blk.set_ (Blk.set_ z0 0 (.int .i64 (max a1 b1))) 1 (.int .i64 (max a2 b2))) 2 (.int .i64 (max a3 b3))) (fun W' q0 q1 q2 => by simp [go_sem, q0, q1, q2]) ⟨rfl, ?_⟩
  try rw [hG]
  exact ((B0.drew.setCell (p := ⟨G + 1 + 1, 0, none⟩) (by simp; omega) _).setCell (p := ⟨G + 1 + 1, 1, none⟩) (by simp; omega) _).setCell (p := ⟨G + 1 + 1, 2, none⟩) (by simp; omega) _
end Go.Proofs.Ytdegdikkjaifiaa
