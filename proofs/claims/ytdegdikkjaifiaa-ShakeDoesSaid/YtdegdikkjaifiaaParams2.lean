/- The walk of params.Diff. -/
import Derived.Test.YtdegdikkjaifiaaRows
import Derived.WalkKit
import Derived.ProofKit
import Derived.Handy
import Derived.Test.YtdegdikkjaifiaaMem
import Derived.Test.YtdegdikkjaifiaaLift
import Derived.Test.YtdegdikkjaifiaaParams
import Derived.Test.YtdegdikkjaifiaaApp
import Derived.Deep.QuietTactic
import Derived.BigQuiet
import Derived.Deep.RegionWith
import Derived.WalkLawsBesides
import Derived.Laws.ResultCell
import Derived.WalkSmall
namespace Go.Proofs.Ytdegdikkjaifiaa
open Go.RowKit
set_option linter.unusedVariables false

/-! Diff. -/
theorem info_P : (Try.prog.info? 49).map (fun i => (i.zero, i.size, i.bytes)) = some (some (.agg #[.int .i64 0, .int .i64 0]), 2, 16) := by kernel_rfl

/-- The closure's own row: the box bo of 'out', and what is in it. -/
def Outs (w : World) (B bo : Nat) (xs : List (Int × Int)) : Prop :=
  ∃ v, Blk w bo 33 #[v] ∧ w.ownsRow B 49 2 v xs.length (xs.flatMap fun p => [Value.int .i64 p.1, Value.int .i64 p.2]) ∧ bo < B ∧ B ≤ w.heap.size

def Added (w : World) (B bo : Nat) (xs : List (Int × Int)) (e : Ending) (w' : World) : Prop :=
  e = .returned (.tuple #[]) ∧ Outs w' B bo xs ∧ Below bo w w'

set_option maxHeartbeats 1000000 in
theorem add_yes (id a b : Int) (B bo : Nat) (xs : List (Int × Int)) (w : World) (h : Outs w B bo xs) (hx : xs.length ≤ 1000) (hab : ¬ a = b) :
    Calls Try.prog 22 #[.int .i64 id, .int .i64 a, .int .i64 b, .pointer (some ⟨bo, 0, none⟩)] w (Added w B bo (xs ++ [(id, b)])) := by
  obtain ⟨v, hb, hown, hB, hBw⟩ := h
  obtain ⟨i0, hi0, hz0, hz1, hz2⟩ := info_parts info_P
  have c0 := Blk.cell hb 0
  simp at c0
  have e0 : (a != b) = true := by simp [hab]
  clear hab
  go_enter Try.func22, Try.ntmps22
  go_wp2_with (first
    | (at_builtin
       refine wpList_append_s _ rfl (.tmp 10) (.tmp 14) _ rfl B 49 i0 _ 2 16 Try.underlying33 hi0 hz0 hz1 hz2 rfl (by omega) v xs.length _ rfl (hown.alloc _) ⟨w.heap.size, 0, none⟩ 1 1 [.int .i64 id, .int .i64 b] rfl rfl ?c1 ?c2 ?c3 ?c4 ?c5 ?_
       case c1 => exact cell_two_new _ _ _ _
       case c2 => intro u hu; simp at hu; rcases hu with rfl | rfl <;> rfl
       case c3 => simp only [maxLen]; omega
       case c4 => omega
       case c5 => simp; omega
       intro A1 k1 w1 hown1 hg1
       have hw1 : Below B w w1 := ((Below.refl _ _).alloc hBw _).grown hg1 (by simp; omega) (fun k hk => ownBlock_ge hown hk)
       have d1 : Blk w1 bo 33 #[v] := Blk.below hb hw1 hB
       have y0 := Blk.cell d1 0
       have y1 := Blk.frozen d1 0
       simp at y0))
  go_end0
  refine ⟨rfl, ⟨_, Blk.set_ d1 0 _, ?_, hB, by simp [World.setCell]; exact Nat.le_trans hBw hw1.size⟩, (hw1.mono (Nat.le_of_lt hB)).setCell (Nat.le_refl _) _⟩
  have := own_only (S := [bo]) (w' := w1.setCell ⟨bo, 0, none⟩ (.slice A1 (xs.length + 1) k1)) hown1 ((Only.refl _ _).setCell (.inl (by simp)) _) (fun g hg => by have := ownBlock_ge hown1 hg; simp; omega)
  simpa using this

theorem add_no (id a : Int) (bo : Nat) (w : World) :
    Calls Try.prog 22 #[.int .i64 id, .int .i64 a, .int .i64 a, .pointer (some ⟨bo, 0, none⟩)] w fun e w' => e = .returned (.tuple #[]) ∧ w = w' := by
  go_enter Try.func22, Try.ntmps22
  go_wp2
  go_end0
  exact ⟨rfl, rfl⟩

theorem add_any (id a b : Int) (B bo : Nat) (xs : List (Int × Int)) (w : World) (h : Outs w B bo xs) (hx : xs.length ≤ 1000) :
    Calls Try.prog 22 #[.int .i64 id, .int .i64 a, .int .i64 b, .pointer (some ⟨bo, 0, none⟩)] w (Added w B bo (xs ++ if a = b then [] else [(id, b)])) := by
  by_cases hab : a = b
  · subst hab
    refine (add_no id a bo w).mono ?_
    rintro e w' ⟨rfl, rfl⟩
    rw [if_pos rfl, List.append_nil]
    exact ⟨rfl, h, Below.refl _ _⟩
  · rw [if_neg hab]
    exact add_yes id a b B bo xs w h hx hab

/-- What differs. -/
def diffL (x y z x' y' z' : Int) : List (Int × Int) := (if x = x' then [] else [(1, x')]) ++ ((if y = y' then [] else [(2, y')]) ++ (if z = z' then [] else [(3, z')]))

theorem flat_length (L : List (Int × Int)) : (L.flatMap fun p => [Value.int .i64 p.1, Value.int .i64 p.2]).length = L.length * 2 := by
  induction L with
  | nil => rfl
  | cons p r ih => simp [List.flatMap_cons, ih, Nat.succ_mul]
theorem flat_get (L : List (Int × Int)) : ∀ (i : Nat) (h : i < L.length), (L.flatMap fun p => [Value.int .i64 p.1, Value.int .i64 p.2])[i * 2]? = some (.int .i64 (L[i]'h).1) ∧ (L.flatMap fun p => [Value.int .i64 p.1, Value.int .i64 p.2])[i * 2 + 1]? = some (.int .i64 (L[i]'h).2) := by
  induction L with
  | nil => intro i h; simp at h
  | cons p r ih =>
    intro i h
    cases i with
    | zero => exact ⟨rfl, rfl⟩
    | succ j =>
      have hj : j < r.length := by simpa using h
      obtain ⟨h1, h2⟩ := ih j hj
      rw [List.flatMap_cons, show (j + 1) * 2 = (j * 2) + 1 + 1 by omega]
      exact ⟨h1, h2⟩

theorem pairs_of_own {w : World} {base : Nat} {A : Option Addr} {c : Nat} {L : List (Int × Int)} (h : w.ownsRow base 49 2 (.slice A L.length c) L.length (L.flatMap fun p => [Value.int .i64 p.1, Value.int .i64 p.2]))
    (hb : ∀ p ∈ L, (-9223372036854775808 ≤ p.1 ∧ p.1 ≤ 9223372036854775807) ∧ (-9223372036854775808 ≤ p.2 ∧ p.2 ≤ 9223372036854775807)) : Pairs w A c L := by
  rcases h.2 with ⟨hv, hn⟩ | ⟨g, cap, cur, hv, hg, hh, hnc, hcm, hsz, htake⟩
  · have hL : L = [] := List.eq_nil_of_length_eq_zero hn
    subst hL
    have : A = none ∧ c = 0 := by simpa using hv
    obtain ⟨rfl, rfl⟩ := this
    exact ⟨Nat.le_refl _, by omega, fun i hi => by simp at hi⟩
  · have : A = some ⟨g, 0, none⟩ ∧ c = cap := by simpa using hv
    obtain ⟨rfl, rfl⟩ := this
    refine ⟨hnc, by unfold maxLen at hcm; omega, fun i hi => ?_⟩
    have hlt : g < w.heap.size := by
      rcases Nat.lt_or_ge g w.heap.size with h | h
      · exact h
      · rw [Array.getElem?_eq_none h] at hh; cases hh
    have hc := h.cells (g := g) rfl
    obtain ⟨g1, g2⟩ := flat_get L i hi
    have h1 := hc _ _ g1
    have h2 := hc _ _ g2
    rw [add_plain_] at h1 h2
    exact ⟨g, 0, rfl, hlt, h1, by rw [Nat.add_assoc]; exact h2, (hb _ (List.getElem_mem hi)).1, (hb _ (List.getElem_mem hi)).2⟩

theorem opt_len (p : Prop) [Decidable p] (a : Int × Int) : (if p then ([] : List (Int × Int)) else [a]).length ≤ 1 := by split <;> simp

def Diffed (w : World) (L : List (Int × Int)) (e : Ending) (w' : World) : Prop :=
  ∃ A c, e = .returned (.slice A L.length c) ∧ Pairs w' A c L ∧ Below w.heap.size w w'

def DiffedF (w : World) (L : List (Int × Int)) (e : Ending) (w' : World) : Prop :=
  ∃ A c, e = .returned (.slice A L.length c) ∧ Pairs w' A c L ∧ Below w.heap.size w w' ∧ ∀ b off, A = some ⟨b, off, none⟩ → w.heap.size ≤ b

set_option maxHeartbeats 4000000 in
theorem diff_fresh (x y z x' y' z' : Int) (w : World) (hx : -9223372036854775808 ≤ x' ∧ x' ≤ 9223372036854775807) (hy : -9223372036854775808 ≤ y' ∧ y' ≤ 9223372036854775807) (hz : -9223372036854775808 ≤ z' ∧ z' ≤ 9223372036854775807) :
    Calls Try.prog 18 #[.agg #[.int .i64 x, .int .i64 y, .int .i64 z], .agg #[.int .i64 x', .int .i64 y', .int .i64 z']] w (DiffedF w (diffL x y z x' y' z')) := by
  by_cases ex : x = x'
  · subst ex
    by_cases ey : y = y'
    · subst ey
      by_cases ez : z = z'
      · subst ez
        rw [show diffL x y z x y z = [] by simp [diffL]]
        go_enter Try.func18, Try.ntmps18
        go_wp2_with fail
        go_ret
        exact ⟨none, 0, rfl, ⟨Nat.le_refl _, by omega, fun i hi => by simp at hi⟩, (((Below.refl _ _).alloc (Nat.le_refl _) _).alloc (by simp) _).alloc (by simp; omega) _, fun b off hb => by cases hb⟩
      · have e3 : (z == z') = false := by simp [ez]
        have hbd : ∀ p ∈ diffL x y z x y z', (-9223372036854775808 ≤ p.1 ∧ p.1 ≤ 9223372036854775807) ∧ (-9223372036854775808 ≤ p.2 ∧ p.2 ≤ 9223372036854775807) := by
          intro p hp
          unfold diffL at hp
          simp only [List.mem_append] at hp
          rcases hp with hp | hp | hp <;> split at hp <;> simp at hp <;> subst hp <;> exact ⟨by simp, by assumption⟩
        have HB := Lib.hid hbd
        clear hbd
        have hA1 := fun (W : World) (hW : Outs W (w.heap.size + 1 + 1 + 1) (w.heap.size + 1 + 1) []) => add_any 1 x x _ _ [] W hW (by simp)
        have hA2 := fun (W : World) (hW : Outs W (w.heap.size + 1 + 1 + 1) (w.heap.size + 1 + 1) (if x = x then [] else [(1, x)])) => add_any 2 y y _ _ _ W hW (Nat.le_trans (opt_len _ _) (by decide))
        have hA3 := fun (W : World) (hW : Outs W (w.heap.size + 1 + 1 + 1) (w.heap.size + 1 + 1) ((if x = x then [] else [(1, x)]) ++ (if y = y then [] else [(2, y)]))) => add_any 3 z z' _ _ _ W hW (by rw [List.length_append]; exact Nat.le_trans (Nat.add_le_add (opt_len _ _) (opt_len _ _)) (by decide))
        rw [List.nil_append] at hA1
        rw [List.append_assoc, show (if x = x then [] else [(1, x)]) ++ ((if y = y then [] else [(2, y)]) ++ (if z = z' then [] else [(3, z')])) = diffL x y z x y z' from rfl] at hA3
        generalize diffL x y z x y z' = L3 at *
        generalize ((if x = x then [] else [(1, x)]) : List (Int × Int)) ++ (if y = y then [] else [(2, y)]) = L2 at *
        generalize ((if x = x then [] else [(1, x)]) : List (Int × Int)) = L1 at *
        have HA1 := Lib.hid hA1
        have HA2 := Lib.hid hA2
        have HA3 := Lib.hid hA3
        clear hA1 hA2 hA3
        go_enter Try.func18, Try.ntmps18
        go_wp2_with fail
        refine (HA1.out _ ⟨.slice none 0 0, by simpa using Blk.new ((w.alloc _).alloc _) _ _, own_nil _ _ _ _, by omega, by simp⟩).mono ?_
        rintro e w1 ⟨rfl, o1, b1⟩
        have f1 : Blk w1 w.heap.size 27 #[.int .i64 x, .int .i64 y, .int .i64 z] := Blk.below (Blk.alloc (Blk.alloc (Blk.new _ _ _) _) _) b1 (by omega)
        have t1 : Blk w1 (w.heap.size + 1) 27 #[.int .i64 x, .int .i64 y, .int .i64 z'] := Blk.below (Blk.alloc (by simpa using Blk.new (w.alloc _) _ _) _) b1 (by omega)
        have B1 : Below w.heap.size w w1 := (((Below.refl _ _).alloc (Nat.le_refl _) _).alloc (by simp) _).alloc (by simp; omega) _ |>.trans (b1.mono (by omega))
        have c1 := Blk.cell f1 1
        have c2 := Blk.cell t1 1
        simp at c1 c2
        go_wp2_with fail
        refine (HA2.out _ o1).mono ?_
        rintro e w2 ⟨rfl, o2, b2⟩
        have f2 := Blk.below f1 b2 (by omega)
        have t2 := Blk.below t1 b2 (by omega)
        have B2 := B1.trans (b2.mono (by omega))
        clear c1 c2
        have c1 := Blk.cell f2 2
        have c2 := Blk.cell t2 2
        simp at c1 c2
        go_wp2_with fail
        refine (HA3.out _ o2).mono ?_
        rintro e w3 ⟨rfl, o3, b3⟩
        have B3 := B2.trans (b3.mono (by omega))
        obtain ⟨v3, g3, own3, _, _⟩ := o3
        obtain ⟨A3, k3, rfl⟩ := slice_of_own own3
        have c3 := Blk.cell g3 0
        simp at c3
        go_wp2_with fail
        go_ret
        exact ⟨A3, k3, rfl, pairs_of_own own3 HB.out, B3, fun b off hb => Nat.le_trans (by omega) (ownBlock_ge own3 (k := b) (by subst hb; rfl))⟩
    · have e3 : (y == y') = false := by simp [ey]
      have hbd : ∀ p ∈ diffL x y z x y' z', (-9223372036854775808 ≤ p.1 ∧ p.1 ≤ 9223372036854775807) ∧ (-9223372036854775808 ≤ p.2 ∧ p.2 ≤ 9223372036854775807) := by
        intro p hp
        unfold diffL at hp
        simp only [List.mem_append] at hp
        rcases hp with hp | hp | hp <;> split at hp <;> simp at hp <;> subst hp <;> exact ⟨by simp, by assumption⟩
      have HB := Lib.hid hbd
      clear hbd
      have hA1 := fun (W : World) (hW : Outs W (w.heap.size + 1 + 1 + 1) (w.heap.size + 1 + 1) []) => add_any 1 x x _ _ [] W hW (by simp)
      have hA2 := fun (W : World) (hW : Outs W (w.heap.size + 1 + 1 + 1) (w.heap.size + 1 + 1) (if x = x then [] else [(1, x)])) => add_any 2 y y' _ _ _ W hW (Nat.le_trans (opt_len _ _) (by decide))
      have hA3 := fun (W : World) (hW : Outs W (w.heap.size + 1 + 1 + 1) (w.heap.size + 1 + 1) ((if x = x then [] else [(1, x)]) ++ (if y = y' then [] else [(2, y')]))) => add_any 3 z z' _ _ _ W hW (by rw [List.length_append]; exact Nat.le_trans (Nat.add_le_add (opt_len _ _) (opt_len _ _)) (by decide))
      rw [List.nil_append] at hA1
      rw [List.append_assoc, show (if x = x then [] else [(1, x)]) ++ ((if y = y' then [] else [(2, y')]) ++ (if z = z' then [] else [(3, z')])) = diffL x y z x y' z' from rfl] at hA3
      generalize diffL x y z x y' z' = L3 at *
      generalize ((if x = x then [] else [(1, x)]) : List (Int × Int)) ++ (if y = y' then [] else [(2, y')]) = L2 at *
      generalize ((if x = x then [] else [(1, x)]) : List (Int × Int)) = L1 at *
      have HA1 := Lib.hid hA1
      have HA2 := Lib.hid hA2
      have HA3 := Lib.hid hA3
      clear hA1 hA2 hA3
      go_enter Try.func18, Try.ntmps18
      go_wp2_with fail
      refine (HA1.out _ ⟨.slice none 0 0, by simpa using Blk.new ((w.alloc _).alloc _) _ _, own_nil _ _ _ _, by omega, by simp⟩).mono ?_
      rintro e w1 ⟨rfl, o1, b1⟩
      have f1 : Blk w1 w.heap.size 27 #[.int .i64 x, .int .i64 y, .int .i64 z] := Blk.below (Blk.alloc (Blk.alloc (Blk.new _ _ _) _) _) b1 (by omega)
      have t1 : Blk w1 (w.heap.size + 1) 27 #[.int .i64 x, .int .i64 y', .int .i64 z'] := Blk.below (Blk.alloc (by simpa using Blk.new (w.alloc _) _ _) _) b1 (by omega)
      have B1 : Below w.heap.size w w1 := (((Below.refl _ _).alloc (Nat.le_refl _) _).alloc (by simp) _).alloc (by simp; omega) _ |>.trans (b1.mono (by omega))
      have c1 := Blk.cell f1 1
      have c2 := Blk.cell t1 1
      simp at c1 c2
      go_wp2_with fail
      refine (HA2.out _ o1).mono ?_
      rintro e w2 ⟨rfl, o2, b2⟩
      have f2 := Blk.below f1 b2 (by omega)
      have t2 := Blk.below t1 b2 (by omega)
      have B2 := B1.trans (b2.mono (by omega))
      clear c1 c2
      have c1 := Blk.cell f2 2
      have c2 := Blk.cell t2 2
      simp at c1 c2
      go_wp2_with fail
      refine (HA3.out _ o2).mono ?_
      rintro e w3 ⟨rfl, o3, b3⟩
      have B3 := B2.trans (b3.mono (by omega))
      obtain ⟨v3, g3, own3, _, _⟩ := o3
      obtain ⟨A3, k3, rfl⟩ := slice_of_own own3
      have c3 := Blk.cell g3 0
      simp at c3
      go_wp2_with fail
      go_ret
      exact ⟨A3, k3, rfl, pairs_of_own own3 HB.out, B3, fun b off hb => Nat.le_trans (by omega) (ownBlock_ge own3 (k := b) (by subst hb; rfl))⟩
  · have e3 : (x == x') = false := by simp [ex]
    have hbd : ∀ p ∈ diffL x y z x' y' z', (-9223372036854775808 ≤ p.1 ∧ p.1 ≤ 9223372036854775807) ∧ (-9223372036854775808 ≤ p.2 ∧ p.2 ≤ 9223372036854775807) := by
      intro p hp
      unfold diffL at hp
      simp only [List.mem_append] at hp
      rcases hp with hp | hp | hp <;> split at hp <;> simp at hp <;> subst hp <;> exact ⟨by simp, by assumption⟩
    have HB := Lib.hid hbd
    clear hbd
    have hA1 := fun (W : World) (hW : Outs W (w.heap.size + 1 + 1 + 1) (w.heap.size + 1 + 1) []) => add_any 1 x x' _ _ [] W hW (by simp)
    have hA2 := fun (W : World) (hW : Outs W (w.heap.size + 1 + 1 + 1) (w.heap.size + 1 + 1) (if x = x' then [] else [(1, x')])) => add_any 2 y y' _ _ _ W hW (Nat.le_trans (opt_len _ _) (by decide))
    have hA3 := fun (W : World) (hW : Outs W (w.heap.size + 1 + 1 + 1) (w.heap.size + 1 + 1) ((if x = x' then [] else [(1, x')]) ++ (if y = y' then [] else [(2, y')]))) => add_any 3 z z' _ _ _ W hW (by rw [List.length_append]; exact Nat.le_trans (Nat.add_le_add (opt_len _ _) (opt_len _ _)) (by decide))
    rw [List.nil_append] at hA1
    rw [List.append_assoc, show (if x = x' then [] else [(1, x')]) ++ ((if y = y' then [] else [(2, y')]) ++ (if z = z' then [] else [(3, z')])) = diffL x y z x' y' z' from rfl] at hA3
    generalize diffL x y z x' y' z' = L3 at *
    generalize ((if x = x' then [] else [(1, x')]) : List (Int × Int)) ++ (if y = y' then [] else [(2, y')]) = L2 at *
    generalize ((if x = x' then [] else [(1, x')]) : List (Int × Int)) = L1 at *
    have HA1 := Lib.hid hA1
    have HA2 := Lib.hid hA2
    have HA3 := Lib.hid hA3
    clear hA1 hA2 hA3
    go_enter Try.func18, Try.ntmps18
    go_wp2_with fail
    refine (HA1.out _ ⟨.slice none 0 0, by simpa using Blk.new ((w.alloc _).alloc _) _ _, own_nil _ _ _ _, by omega, by simp⟩).mono ?_
    rintro e w1 ⟨rfl, o1, b1⟩
    have f1 : Blk w1 w.heap.size 27 #[.int .i64 x, .int .i64 y, .int .i64 z] := Blk.below (Blk.alloc (Blk.alloc (Blk.new _ _ _) _) _) b1 (by omega)
    have t1 : Blk w1 (w.heap.size + 1) 27 #[.int .i64 x', .int .i64 y', .int .i64 z'] := Blk.below (Blk.alloc (by simpa using Blk.new (w.alloc _) _ _) _) b1 (by omega)
    have B1 : Below w.heap.size w w1 := (((Below.refl _ _).alloc (Nat.le_refl _) _).alloc (by simp) _).alloc (by simp; omega) _ |>.trans (b1.mono (by omega))
    have c1 := Blk.cell f1 1
    have c2 := Blk.cell t1 1
    simp at c1 c2
    go_wp2_with fail
    refine (HA2.out _ o1).mono ?_
    rintro e w2 ⟨rfl, o2, b2⟩
    have f2 := Blk.below f1 b2 (by omega)
    have t2 := Blk.below t1 b2 (by omega)
    have B2 := B1.trans (b2.mono (by omega))
    clear c1 c2
    have c1 := Blk.cell f2 2
    have c2 := Blk.cell t2 2
    simp at c1 c2
    go_wp2_with fail
    refine (HA3.out _ o2).mono ?_
    rintro e w3 ⟨rfl, o3, b3⟩
    have B3 := B2.trans (b3.mono (by omega))
    obtain ⟨v3, g3, own3, _, _⟩ := o3
    obtain ⟨A3, k3, rfl⟩ := slice_of_own own3
    have c3 := Blk.cell g3 0
    simp at c3
    go_wp2_with fail
    go_ret
    exact ⟨A3, k3, rfl, pairs_of_own own3 HB.out, B3, fun b off hb => Nat.le_trans (by omega) (ownBlock_ge own3 (k := b) (by subst hb; rfl))⟩

theorem diff_any (x y z x' y' z' : Int) (w : World) (hx : -9223372036854775808 ≤ x' ∧ x' ≤ 9223372036854775807) (hy : -9223372036854775808 ≤ y' ∧ y' ≤ 9223372036854775807) (hz : -9223372036854775808 ≤ z' ∧ z' ≤ 9223372036854775807) :
    Calls Try.prog 18 #[.agg #[.int .i64 x, .int .i64 y, .int .i64 z], .agg #[.int .i64 x', .int .i64 y', .int .i64 z']] w (Diffed w (diffL x y z x' y' z')) :=
  (diff_fresh x y z x' y' z' w hx hy hz).mono fun e w' ⟨A, c, h1, h2, h3, _⟩ => ⟨A, c, h1, h2, h3⟩

theorem pairs_of_rows {w : World} {v : Value} {n : Nat} {C : Nat → List Value} (h : RowsAt w v n 2 Two C) : ∃ A cap L, v = .slice A L.length cap ∧ Pairs w A cap L := by
  obtain ⟨A, cap, rfl, hnc, hcap, hc⟩ := h
  obtain ⟨L, hL, hl⟩ := rows_choose (α := Int × Int) (C := C) (E := Two) (R := fun cs p => cs = [.int .i64 p.1, .int .i64 p.2] ∧ (-9223372036854775808 ≤ p.1 ∧ p.1 ≤ 9223372036854775807) ∧ (-9223372036854775808 ≤ p.2 ∧ p.2 ≤ 9223372036854775807)) (fun i hi => (hc i hi).1) (fun cs ⟨x, y, e, hx, hy⟩ => ⟨(x, y), e, hx, hy⟩)
  subst hL
  refine ⟨A, cap, L, rfl, hnc, hcap, fun i hi => ?_⟩
  obtain ⟨_, _, b, off, hA, hb, hcell⟩ := hc i hi
  obtain ⟨e, hx, hy⟩ := hl i hi
  exact ⟨b, off, hA, hb, hcell 0 _ (by rw [e]; rfl), hcell 1 _ (by rw [e]; rfl), hx, hy⟩

theorem Pairs.take {w : World} {A : Option Addr} {cap : Nat} {L : List (Int × Int)} (h : Pairs w A cap L) (k : Nat) : Pairs w A cap (L.take k) := by
  refine ⟨Nat.le_trans (List.length_take_le' _ _) h.1, h.2.1, fun i hi => ?_⟩
  have hi' : i < L.length := Nat.lt_of_lt_of_le hi (List.length_take_le' _ _)
  rw [List.getElem_take]
  exact h.2.2 i hi'
end Go.Proofs.Ytdegdikkjaifiaa
