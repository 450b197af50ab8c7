/- Proved: ParamsDiff answers true for every input, and leaves its arguments as they were; no condition. -/
import Derived.Test.YtgmnhiofenpafaaRows
import Derived.Test.YtgmnhiofenpafaaMem
import Derived.Test.YtgmnhiofenpafaaLift
import Derived.Test.YtgmnhiofenpafaaParams2
import Derived.Test.YtgmnhiofenpafaaOnce
import Derived.WalkKit
import Derived.ProofKit
import Derived.OpenShut
import Derived.Handy
import Derived.Deep.QuietTactic
import Derived.BigQuiet
import Derived.Deep.RegionWith
import Derived.WalkLawsBesides
namespace Go.Proofs.Ytgmnhiofenpafaa.ParamsDiff
open Go.ChangeShapes Go.WideShapes Go.ChangeAt Go.RowKit Go.Deep
set_option linter.unusedVariables false

/-- The numbers of what differs: 1, 2, 3 in this order, each at most once. -/
def Rises (L : List (Int × Int)) : Prop := ∀ (i : Nat) (hi : i < L.length), 1 ≤ (L[i]'hi).1 ∧ (L[i]'hi).1 ≤ 3 ∧ ∀ (j : Nat) (hj : j < L.length), j + 1 = i → (L[j]'hj).1 < (L[i]'hi).1
theorem rises0 : Rises [] := fun i hi => by simp at hi
theorem rises1 (a u : Int) (h1 : 1 ≤ a) (h2 : a ≤ 3) : Rises [(a, u)] := by
  intro i hi
  match i, hi with
  | 0, _ => exact ⟨h1, h2, fun j hj h => by omega⟩
theorem rises2 (a u b v : Int) (h1 : 1 ≤ a) (h2 : a < b) (h3 : b ≤ 3) : Rises [(a, u), (b, v)] := by
  intro i hi
  match i, hi with
  | 0, _ => exact ⟨h1, by show a ≤ 3; omega, fun j hj h => by omega⟩
  | 1, _ => exact ⟨by show 1 ≤ b; omega, h3, fun j hj h => by obtain rfl : j = 0 := by omega
                                                              exact h2⟩
theorem rises3 (u v t : Int) : Rises [(1, u), (2, v), (3, t)] := by
  intro i hi
  match i, hi with
  | 0, _ => exact ⟨by show (1 : Int) ≤ 1; omega, by show (1 : Int) ≤ 3; omega, fun j hj h => by omega⟩
  | 1, _ => exact ⟨by show (1 : Int) ≤ 2; omega, by show (2 : Int) ≤ 3; omega, fun j hj h => by (obtain rfl : j = 0 := by omega); (show (1 : Int) < 2); omega⟩
  | 2, _ => exact ⟨by show (1 : Int) ≤ 3; omega, by show (3 : Int) ≤ 3; omega, fun j hj h => by (obtain rfl : j = 1 := by omega); (show (2 : Int) < 3); omega⟩
theorem diff_ids (x y z x' y' z' : Int) : Rises (diffL x y z x' y' z') := by
  unfold diffL
  by_cases e1 : x = x' <;> by_cases e2 : y = y' <;> by_cases e3 : z = z' <;> simp only [e1, e2, e3, if_true, if_false, List.nil_append, List.append_nil, List.cons_append]
  · exact rises0
  · exact rises1 _ _ (by omega) (by omega)
  · exact rises1 _ _ (by omega) (by omega)
  · exact rises2 _ _ _ _ (by omega) (by omega) (by omega)
  · exact rises1 _ _ (by omega) (by omega)
  · exact rises2 _ _ _ _ (by omega) (by omega) (by omega)
  · exact rises2 _ _ _ _ (by omega) (by omega) (by omega)
  · exact rises3 _ _ _

theorem diff_len (x y z x' y' z' : Int) : (diffL x y z x' y' z').length = (if x = x' then 0 else 1) + (if y = y' then 0 else 1) + (if z = z' then 0 else 1) := by
  unfold diffL
  by_cases e1 : x = x' <;> by_cases e2 : y = y' <;> by_cases e3 : z = z' <;> simp [e1, e2, e3]

theorem app_one (x y z i v : Int) : (app x y z [(i, v)]).2 = 0 → (app x y z [(i, v)]).1 = setP x y z i v := by
  unfold app
  split
  · intro h; cases h
  · intro _; rfl
theorem app_diff (x y z x' y' z' : Int) : (app x y z (diffL x y z x' y' z')).2 = 0 → (app x y z (diffL x y z x' y' z')).1 = (x', y', z') := by
  have h1 : ∀ b c : Int, (app x b c (if x = x' then [] else [(1, x')])).2 = 0 → (app x b c (if x = x' then [] else [(1, x')])).1 = (x', b, c) := by
    intro b c
    split
    · next h => intro _; subst h; rfl
    · intro h; rw [app_one _ _ _ _ _ h]; rfl
  have h2 : ∀ a c : Int, (app a y c (if y = y' then [] else [(2, y')])).2 = 0 → (app a y c (if y = y' then [] else [(2, y')])).1 = (a, y', c) := by
    intro a c
    split
    · next h => intro _; subst h; rfl
    · intro h; rw [app_one _ _ _ _ _ h]; rfl
  have h3 : ∀ a b : Int, (app a b z (if z = z' then [] else [(3, z')])).2 = 0 → (app a b z (if z = z' then [] else [(3, z')])).1 = (a, b, z') := by
    intro a b
    split
    · next h => intro _; subst h; rfl
    · intro h; rw [app_one _ _ _ _ _ h]; rfl
  unfold diffL
  rw [app_append]
  by_cases e1 : (app x y z (if x = x' then [] else [(1, x')])).2 = 0
  · rw [if_pos e1, h1 _ _ e1, app_append]
    by_cases e2 : (app x' y z (if y = y' then [] else [(2, y')])).2 = 0
    · rw [if_pos e2, h2 _ _ e2]
      exact h3 _ _
    · rw [if_neg e2]
      intro h; exact absurd h e2
  · rw [if_neg e1]
    intro h; exact absurd h e1

set_option maxRecDepth 100000 in
set_option maxHeartbeats 16000000 in
theorem tailE (w wr : World) : True := trivial

set_option maxRecDepth 100000 in
set_option maxHeartbeats 16000000 in
theorem walk (w : World) (x y z : Int) (bx : -9223372036854775808 ≤ x ∧ x ≤ 9223372036854775807) (by_ : -9223372036854775808 ≤ y ∧ y ≤ 9223372036854775807) (bz : -9223372036854775808 ≤ z ∧ z ≤ 9223372036854775807)
    (x' y' z' : Int) (bx' : -9223372036854775808 ≤ x' ∧ x' ≤ 9223372036854775807) (by_' : -9223372036854775808 ≤ y' ∧ y' ≤ 9223372036854775807) (bz' : -9223372036854775808 ≤ z' ∧ z' ≤ 9223372036854775807) :
    Calls Try.prog 3 #[.agg #[.int .i64 x, .int .i64 y, .int .i64 z], .agg #[.int .i64 x', .int .i64 y', .int .i64 z']] w fun e w' => e = .returned (.bool true) ∧ Below w.heap.size w w' := by
  have hD := fun W => diff_any x y z x' y' z' W bx' by_' bz'
  have hI := diff_ids x y z x' y' z'
  have hN := diff_len x y z x' y' z'
  have hE := app_diff x y z x' y' z'
  clear bx by_ bz bx' by_' bz'
  generalize diffL x y z x' y' z' = L at *
  have hA := fun (W : World) (A : Option Addr) (cap : Nat) (hW : Pairs W A cap L) => apply_any x y z A cap L W hW
  have hB := fun (W : World) (A : Option Addr) (cap : Nat) (hW : Pairs W A cap L) => rapply_any x y z A cap L W hW
  generalize app x y z L = r at *
  obtain ⟨⟨ra, rb, rc⟩, rd⟩ := r
  have HD := Lib.hid hE
  have HDD := Lib.hid hD
  have HI := Lib.hid hI
  have HN := Lib.hid hN
  have HA' := Lib.hid hA
  have HB' := Lib.hid hB
  clear hE hD hI hN hA hB
  have hl3 : L.length ≤ 3 := by have := HN.out; split at this <;> split at this <;> split at this <;> omega
  go_enter Try.func3, Try.ntmps3
  go_wp2_with fail
  refine (HDD.out _).mono ?_
  rintro e w1 ⟨A, cap, rfl, hp, b1⟩
  have fr0 : Blk w1 w.heap.size 23 #[.int .i64 x, .int .i64 y, .int .i64 z] := Blk.below (Blk.alloc (Blk.new _ _ _) _) b1 (by simp; omega)
  have tr0 : Blk w1 (w.heap.size + 1) 23 #[.int .i64 x', .int .i64 y', .int .i64 z'] := Blk.below (by simpa using Blk.new (w.alloc _) _ _) b1 (by simp)
  have Br0 : Below w.heap.size w w1 := (((Below.refl _ _).alloc (Nat.le_refl _) _).alloc (by simp) _).trans (b1.mono (by simp; omega))
  have hL1 := hp.1
  have hL2 := hp.2.1
  have HP := Lib.hid hp
  clear hp
  go_wp2_with fail
  go_loopw [6] (fun iv wr => ∃ k : Nat, k ≤ L.length ∧ iv = .int .i64 k ∧ Below w1.heap.size w1 wr) (fun i _ => L.length - (intOf i).toNat)
  case atStart => exact ⟨0, by omega, rfl, Below.refl _ _⟩
  case round =>
    obtain ⟨k, hk, rfl, hbr⟩ := hrel
    by_cases hlt : k < L.length
    · obtain ⟨i1, i2, i3⟩ := HI.out k hlt
      obtain ⟨b, off, rfl, hbl, c0, c1, _, _⟩ := (HP.out.below hbr).2.2 k hlt
      have hd1 : decide ((L[k]'hlt).1 < 1) = false := by simp; omega
      have hd2 : decide (3 < (L[k]'hlt).1) = false := by simp; omega
      by_cases hk0 : k = 0
      · subst hk0
        clear i3
        rw [Nat.zero_mul, Nat.add_zero] at c0 c1
        have ki1 : (0 : Int) < (L.length : Int) := by omega
        generalize (L[0]'hlt).1 = id at *
        generalize (L[0]'hlt).2 = v at *
        go_wp2
        go_quiet (fail)
        go_wp2
        go_roundw
        case rel => exact ⟨1, by omega, by go_num, by first | exact hbr | exact below_drewN hbr _⟩
        case measure => simp [intOf]; omega
      · have i4 := i3 (k - 1) (by omega) (by omega)
        obtain ⟨b', off', hA', _, c0', _, _, _⟩ := (HP.out.below hbr).2.2 (k - 1) (by omega)
        simp only [Option.some.injEq, Addr.mk.injEq, and_true] at hA'
        obtain ⟨rfl, rfl⟩ := hA'
        obtain ⟨k, rfl⟩ : ∃ j, k = j + 1 := ⟨k - 1, by omega⟩
        simp only [Nat.add_sub_cancel] at c0' i4
        have ki1 : ((k : Int) + 1) < (L.length : Int) := by omega
        have ki2 : (0 : Int) ≤ (k : Int) + 1 := by omega
        have ki3 : (k : Int) < (L.length : Int) := by omega
        have ki4 : (0 : Int) ≤ (k : Int) := by omega
        have hd3 : decide ((L[k + 1]'hlt).1 ≤ (L[k]'(by omega)).1) = false := by simp; omega
        clear i3
        generalize (L[k + 1]'hlt).1 = id at *
        generalize (L[k]'(by omega)).1 = id0 at *
        go_wp2
        go_quiet (fail)
        go_wp2
        go_roundw
        case rel => exact ⟨k + 1 + 1, by omega, by go_num, by first | exact hbr | exact below_drewN hbr _⟩
        case measure => simp [intOf]; omega
    · have fr := Blk.below fr0 hbr (Blk.lt fr0)
      have tr := Blk.below tr0 hbr (Blk.lt tr0)
      have Br := Br0.trans (hbr.mono Br0.size)
      have HPr := HP.out
      have HA := Lib.hid (fun (W : World) (hW : Pairs W A cap L) => HA'.out W A cap hW)
      have HB := Lib.hid (fun (W : World) (hW : Pairs W A cap L) => HB'.out W A cap hW)
      have hfr := Blk.lt fr
      have htr := Blk.lt tr
      have hN := HN.out
      have z0 := Blk.cell fr 0
      have z1 := Blk.cell fr 1
      have z2 := Blk.cell fr 2
      have t0 := Blk.cell tr 0
      have t1 := Blk.cell tr 1
      have t2 := Blk.cell tr 2
      simp at z0 z1 z2 t0 t1 t2
      have HPr := Lib.hid (HP.out)
      by_cases ex : x = x'
      · have nx : (x != x') = false := by simp [ex]
        rw [if_pos ex] at hN
        clear ex
        by_cases ey : y = y'
        · have ny : (y != y') = false := by simp [ey]
          rw [if_pos ey] at hN
          clear ey
          by_cases ez : z = z'
          · have nz : (z != z') = false := by simp [ez]
            rw [if_pos ez] at hN
            clear ez
            generalize hLL : L.length = ll at *
            subst hN
            have HLL := Lib.hid hLL
            clear hLL
            by_cases hrd : rd = 0
            · subst hrd
              have hh := HD.out rfl
              simp only [Prod.mk.injEq] at hh
              obtain ⟨rfl, rfl, rfl⟩ := hh
              go_wp2_with fail
              refine (HA.out _ (HPr.out.below hbr)).mono ?_
              rintro e q1 ⟨rfl, b1⟩
              have f1 : Blk q1 w.heap.size 23 #[.int .i64 x, .int .i64 y, .int .i64 z] := Blk.below fr b1 (Blk.lt fr)
              have t1 : Blk q1 (w.heap.size + 1) 23 #[.int .i64 ra, .int .i64 rb, .int .i64 rc] := Blk.below tr b1 (Blk.lt tr)
              have B1 := Br.trans (b1.mono Br.size)
              have l1 := Blk.lt f1
              have l2 := Blk.lt t1
              have c0 := Blk.cell f1 0
              have c1 := Blk.cell f1 1
              have c2 := Blk.cell f1 2
              simp at c0 c1 c2
              go_wp2_with fail
              refine (HB.out _ (HPr.out.below (hbr.trans ((b1.alloc b1.size _).mono hbr.size) |>.mono (by omega)))).mono ?_
              rintro e q2 ⟨rfl, b2⟩
              have t2 : Blk q2 (w.heap.size + 1) 23 #[.int .i64 ra, .int .i64 rb, .int .i64 rc] := Blk.below (Blk.alloc t1 _) b2 (by simp; omega)
              have a2 : Blk q2 q1.heap.size 23 #[.int .i64 ra, .int .i64 rb, .int .i64 rc] := Blk.below (Blk.new _ _ _) b2 (by simp)
              have B2 := (B1.alloc B1.size _).trans (b2.mono (by simp; have := B1.size; omega))
              have l3 := Blk.lt a2
              have l4 := Blk.lt t2
              clear c0 c1 c2
              have d0 := Blk.cell a2 0
              have d1 := Blk.cell a2 1
              have d2 := Blk.cell a2 2
              simp at d0 d1 d2
              go_wp2_with fail
              refine (awake_any _).mono ?_
              rintro e q3 ⟨rfl, b3⟩
              have t3 := Blk.below (Blk.alloc t2 _) b3 (by simp; omega)
              have a3 := Blk.below (Blk.alloc a2 _) b3 (by simp; omega)
              have B3 := (B2.alloc B2.size _).trans (b3.mono (by simp; have := B2.size; omega))
              clear d0 d1 d2
              have d0 := Blk.cell a3 0
              have d1 := Blk.cell a3 1
              have d2 := Blk.cell a3 2
              have c0 := Blk.cell t3 0
              have c1 := Blk.cell t3 1
              have c2 := Blk.cell t3 2
              simp at d0 d1 d2 c0 c1 c2
              go_wp2_with fail
              go_ret
              exact ⟨rfl, B3⟩
            · have hne : (rd != 0) = true := by simp [hrd]
              clear hrd
              go_wp2_with fail
              refine (HA.out _ (HPr.out.below hbr)).mono ?_
              rintro e q1 ⟨rfl, b1⟩
              have f1 : Blk q1 w.heap.size 23 #[.int .i64 x, .int .i64 y, .int .i64 z] := Blk.below fr b1 (Blk.lt fr)
              have t1 : Blk q1 (w.heap.size + 1) 23 #[.int .i64 x', .int .i64 y', .int .i64 z'] := Blk.below tr b1 (Blk.lt tr)
              have B1 := Br.trans (b1.mono Br.size)
              have l1 := Blk.lt f1
              have l2 := Blk.lt t1
              have c0 := Blk.cell f1 0
              have c1 := Blk.cell f1 1
              have c2 := Blk.cell f1 2
              simp at c0 c1 c2
              go_wp2_with fail
              refine (HB.out _ (HPr.out.below (hbr.trans ((b1.alloc b1.size _).mono hbr.size) |>.mono (by omega)))).mono ?_
              rintro e q2 ⟨rfl, b2⟩
              have t2 : Blk q2 (w.heap.size + 1) 23 #[.int .i64 x', .int .i64 y', .int .i64 z'] := Blk.below (Blk.alloc t1 _) b2 (by simp; omega)
              have a2 : Blk q2 q1.heap.size 23 #[.int .i64 ra, .int .i64 rb, .int .i64 rc] := Blk.below (Blk.new _ _ _) b2 (by simp)
              have B2 := (B1.alloc B1.size _).trans (b2.mono (by simp; have := B1.size; omega))
              have l3 := Blk.lt a2
              have l4 := Blk.lt t2
              clear c0 c1 c2
              have d0 := Blk.cell a2 0
              have d1 := Blk.cell a2 1
              have d2 := Blk.cell a2 2
              simp at d0 d1 d2
              go_wp2_with fail
              refine (awake_any _).mono ?_
              rintro e q3 ⟨rfl, b3⟩
              have t3 := Blk.below (Blk.alloc t2 _) b3 (by simp; omega)
              have a3 := Blk.below (Blk.alloc a2 _) b3 (by simp; omega)
              have B3 := (B2.alloc B2.size _).trans (b3.mono (by simp; have := B2.size; omega))
              clear d0 d1 d2
              have d0 := Blk.cell a3 0
              have d1 := Blk.cell a3 1
              have d2 := Blk.cell a3 2
              have c0 := Blk.cell t3 0
              have c1 := Blk.cell t3 1
              have c2 := Blk.cell t3 2
              simp at d0 d1 d2 c0 c1 c2
              go_wp2_with fail
              go_ret
              exact ⟨rfl, B3⟩
          · have nz : (z != z') = true := by simp [ez]
            rw [if_neg ez] at hN
            clear ez
            generalize hLL : L.length = ll at *
            subst hN
            have HLL := Lib.hid hLL
            clear hLL
            by_cases hrd : rd = 0
            · subst hrd
              have hh := HD.out rfl
              simp only [Prod.mk.injEq] at hh
              obtain ⟨rfl, rfl, rfl⟩ := hh
              go_wp2_with fail
              refine (HA.out _ (HPr.out.below hbr)).mono ?_
              rintro e q1 ⟨rfl, b1⟩
              have f1 : Blk q1 w.heap.size 23 #[.int .i64 x, .int .i64 y, .int .i64 z] := Blk.below fr b1 (Blk.lt fr)
              have t1 : Blk q1 (w.heap.size + 1) 23 #[.int .i64 ra, .int .i64 rb, .int .i64 rc] := Blk.below tr b1 (Blk.lt tr)
              have B1 := Br.trans (b1.mono Br.size)
              have l1 := Blk.lt f1
              have l2 := Blk.lt t1
              have c0 := Blk.cell f1 0
              have c1 := Blk.cell f1 1
              have c2 := Blk.cell f1 2
              simp at c0 c1 c2
              go_wp2_with fail
              refine (HB.out _ (HPr.out.below (hbr.trans ((b1.alloc b1.size _).mono hbr.size) |>.mono (by omega)))).mono ?_
              rintro e q2 ⟨rfl, b2⟩
              have t2 : Blk q2 (w.heap.size + 1) 23 #[.int .i64 ra, .int .i64 rb, .int .i64 rc] := Blk.below (Blk.alloc t1 _) b2 (by simp; omega)
              have a2 : Blk q2 q1.heap.size 23 #[.int .i64 ra, .int .i64 rb, .int .i64 rc] := Blk.below (Blk.new _ _ _) b2 (by simp)
              have B2 := (B1.alloc B1.size _).trans (b2.mono (by simp; have := B1.size; omega))
              have l3 := Blk.lt a2
              have l4 := Blk.lt t2
              clear c0 c1 c2
              have d0 := Blk.cell a2 0
              have d1 := Blk.cell a2 1
              have d2 := Blk.cell a2 2
              simp at d0 d1 d2
              go_wp2_with fail
              refine (awake_any _).mono ?_
              rintro e q3 ⟨rfl, b3⟩
              have t3 := Blk.below (Blk.alloc t2 _) b3 (by simp; omega)
              have a3 := Blk.below (Blk.alloc a2 _) b3 (by simp; omega)
              have B3 := (B2.alloc B2.size _).trans (b3.mono (by simp; have := B2.size; omega))
              clear d0 d1 d2
              have d0 := Blk.cell a3 0
              have d1 := Blk.cell a3 1
              have d2 := Blk.cell a3 2
              have c0 := Blk.cell t3 0
              have c1 := Blk.cell t3 1
              have c2 := Blk.cell t3 2
              simp at d0 d1 d2 c0 c1 c2
              go_wp2_with fail
              go_ret
              exact ⟨rfl, B3⟩
            · have hne : (rd != 0) = true := by simp [hrd]
              clear hrd
              go_wp2_with fail
              refine (HA.out _ (HPr.out.below hbr)).mono ?_
              rintro e q1 ⟨rfl, b1⟩
              have f1 : Blk q1 w.heap.size 23 #[.int .i64 x, .int .i64 y, .int .i64 z] := Blk.below fr b1 (Blk.lt fr)
              have t1 : Blk q1 (w.heap.size + 1) 23 #[.int .i64 x', .int .i64 y', .int .i64 z'] := Blk.below tr b1 (Blk.lt tr)
              have B1 := Br.trans (b1.mono Br.size)
              have l1 := Blk.lt f1
              have l2 := Blk.lt t1
              have c0 := Blk.cell f1 0
              have c1 := Blk.cell f1 1
              have c2 := Blk.cell f1 2
              simp at c0 c1 c2
              go_wp2_with fail
              refine (HB.out _ (HPr.out.below (hbr.trans ((b1.alloc b1.size _).mono hbr.size) |>.mono (by omega)))).mono ?_
              rintro e q2 ⟨rfl, b2⟩
              have t2 : Blk q2 (w.heap.size + 1) 23 #[.int .i64 x', .int .i64 y', .int .i64 z'] := Blk.below (Blk.alloc t1 _) b2 (by simp; omega)
              have a2 : Blk q2 q1.heap.size 23 #[.int .i64 ra, .int .i64 rb, .int .i64 rc] := Blk.below (Blk.new _ _ _) b2 (by simp)
              have B2 := (B1.alloc B1.size _).trans (b2.mono (by simp; have := B1.size; omega))
              have l3 := Blk.lt a2
              have l4 := Blk.lt t2
              clear c0 c1 c2
              have d0 := Blk.cell a2 0
              have d1 := Blk.cell a2 1
              have d2 := Blk.cell a2 2
              simp at d0 d1 d2
              go_wp2_with fail
              refine (awake_any _).mono ?_
              rintro e q3 ⟨rfl, b3⟩
              have t3 := Blk.below (Blk.alloc t2 _) b3 (by simp; omega)
              have a3 := Blk.below (Blk.alloc a2 _) b3 (by simp; omega)
              have B3 := (B2.alloc B2.size _).trans (b3.mono (by simp; have := B2.size; omega))
              clear d0 d1 d2
              have d0 := Blk.cell a3 0
              have d1 := Blk.cell a3 1
              have d2 := Blk.cell a3 2
              have c0 := Blk.cell t3 0
              have c1 := Blk.cell t3 1
              have c2 := Blk.cell t3 2
              simp at d0 d1 d2 c0 c1 c2
              go_wp2_with fail
              go_ret
              exact ⟨rfl, B3⟩
        · have ny : (y != y') = true := by simp [ey]
          rw [if_neg ey] at hN
          clear ey
          by_cases ez : z = z'
          · have nz : (z != z') = false := by simp [ez]
            rw [if_pos ez] at hN
            clear ez
            generalize hLL : L.length = ll at *
            subst hN
            have HLL := Lib.hid hLL
            clear hLL
            by_cases hrd : rd = 0
            · subst hrd
              have hh := HD.out rfl
              simp only [Prod.mk.injEq] at hh
              obtain ⟨rfl, rfl, rfl⟩ := hh
              go_wp2_with fail
              refine (HA.out _ (HPr.out.below hbr)).mono ?_
              rintro e q1 ⟨rfl, b1⟩
              have f1 : Blk q1 w.heap.size 23 #[.int .i64 x, .int .i64 y, .int .i64 z] := Blk.below fr b1 (Blk.lt fr)
              have t1 : Blk q1 (w.heap.size + 1) 23 #[.int .i64 ra, .int .i64 rb, .int .i64 rc] := Blk.below tr b1 (Blk.lt tr)
              have B1 := Br.trans (b1.mono Br.size)
              have l1 := Blk.lt f1
              have l2 := Blk.lt t1
              have c0 := Blk.cell f1 0
              have c1 := Blk.cell f1 1
              have c2 := Blk.cell f1 2
              simp at c0 c1 c2
              go_wp2_with fail
              refine (HB.out _ (HPr.out.below (hbr.trans ((b1.alloc b1.size _).mono hbr.size) |>.mono (by omega)))).mono ?_
              rintro e q2 ⟨rfl, b2⟩
              have t2 : Blk q2 (w.heap.size + 1) 23 #[.int .i64 ra, .int .i64 rb, .int .i64 rc] := Blk.below (Blk.alloc t1 _) b2 (by simp; omega)
              have a2 : Blk q2 q1.heap.size 23 #[.int .i64 ra, .int .i64 rb, .int .i64 rc] := Blk.below (Blk.new _ _ _) b2 (by simp)
              have B2 := (B1.alloc B1.size _).trans (b2.mono (by simp; have := B1.size; omega))
              have l3 := Blk.lt a2
              have l4 := Blk.lt t2
              clear c0 c1 c2
              have d0 := Blk.cell a2 0
              have d1 := Blk.cell a2 1
              have d2 := Blk.cell a2 2
              simp at d0 d1 d2
              go_wp2_with fail
              refine (awake_any _).mono ?_
              rintro e q3 ⟨rfl, b3⟩
              have t3 := Blk.below (Blk.alloc t2 _) b3 (by simp; omega)
              have a3 := Blk.below (Blk.alloc a2 _) b3 (by simp; omega)
              have B3 := (B2.alloc B2.size _).trans (b3.mono (by simp; have := B2.size; omega))
              clear d0 d1 d2
              have d0 := Blk.cell a3 0
              have d1 := Blk.cell a3 1
              have d2 := Blk.cell a3 2
              have c0 := Blk.cell t3 0
              have c1 := Blk.cell t3 1
              have c2 := Blk.cell t3 2
              simp at d0 d1 d2 c0 c1 c2
              go_wp2_with fail
              go_ret
              exact ⟨rfl, B3⟩
            · have hne : (rd != 0) = true := by simp [hrd]
              clear hrd
              go_wp2_with fail
              refine (HA.out _ (HPr.out.below hbr)).mono ?_
              rintro e q1 ⟨rfl, b1⟩
              have f1 : Blk q1 w.heap.size 23 #[.int .i64 x, .int .i64 y, .int .i64 z] := Blk.below fr b1 (Blk.lt fr)
              have t1 : Blk q1 (w.heap.size + 1) 23 #[.int .i64 x', .int .i64 y', .int .i64 z'] := Blk.below tr b1 (Blk.lt tr)
              have B1 := Br.trans (b1.mono Br.size)
              have l1 := Blk.lt f1
              have l2 := Blk.lt t1
              have c0 := Blk.cell f1 0
              have c1 := Blk.cell f1 1
              have c2 := Blk.cell f1 2
              simp at c0 c1 c2
              go_wp2_with fail
              refine (HB.out _ (HPr.out.below (hbr.trans ((b1.alloc b1.size _).mono hbr.size) |>.mono (by omega)))).mono ?_
              rintro e q2 ⟨rfl, b2⟩
              have t2 : Blk q2 (w.heap.size + 1) 23 #[.int .i64 x', .int .i64 y', .int .i64 z'] := Blk.below (Blk.alloc t1 _) b2 (by simp; omega)
              have a2 : Blk q2 q1.heap.size 23 #[.int .i64 ra, .int .i64 rb, .int .i64 rc] := Blk.below (Blk.new _ _ _) b2 (by simp)
              have B2 := (B1.alloc B1.size _).trans (b2.mono (by simp; have := B1.size; omega))
              have l3 := Blk.lt a2
              have l4 := Blk.lt t2
              clear c0 c1 c2
              have d0 := Blk.cell a2 0
              have d1 := Blk.cell a2 1
              have d2 := Blk.cell a2 2
              simp at d0 d1 d2
              go_wp2_with fail
              refine (awake_any _).mono ?_
              rintro e q3 ⟨rfl, b3⟩
              have t3 := Blk.below (Blk.alloc t2 _) b3 (by simp; omega)
              have a3 := Blk.below (Blk.alloc a2 _) b3 (by simp; omega)
              have B3 := (B2.alloc B2.size _).trans (b3.mono (by simp; have := B2.size; omega))
              clear d0 d1 d2
              have d0 := Blk.cell a3 0
              have d1 := Blk.cell a3 1
              have d2 := Blk.cell a3 2
              have c0 := Blk.cell t3 0
              have c1 := Blk.cell t3 1
              have c2 := Blk.cell t3 2
              simp at d0 d1 d2 c0 c1 c2
              go_wp2_with fail
              go_ret
              exact ⟨rfl, B3⟩
          · have nz : (z != z') = true := by simp [ez]
            rw [if_neg ez] at hN
            clear ez
            generalize hLL : L.length = ll at *
            subst hN
            have HLL := Lib.hid hLL
            clear hLL
            by_cases hrd : rd = 0
            · subst hrd
              have hh := HD.out rfl
              simp only [Prod.mk.injEq] at hh
              obtain ⟨rfl, rfl, rfl⟩ := hh
              go_wp2_with fail
              refine (HA.out _ (HPr.out.below hbr)).mono ?_
              rintro e q1 ⟨rfl, b1⟩
              have f1 : Blk q1 w.heap.size 23 #[.int .i64 x, .int .i64 y, .int .i64 z] := Blk.below fr b1 (Blk.lt fr)
              have t1 : Blk q1 (w.heap.size + 1) 23 #[.int .i64 ra, .int .i64 rb, .int .i64 rc] := Blk.below tr b1 (Blk.lt tr)
              have B1 := Br.trans (b1.mono Br.size)
              have l1 := Blk.lt f1
              have l2 := Blk.lt t1
              have c0 := Blk.cell f1 0
              have c1 := Blk.cell f1 1
              have c2 := Blk.cell f1 2
              simp at c0 c1 c2
              go_wp2_with fail
              refine (HB.out _ (HPr.out.below (hbr.trans ((b1.alloc b1.size _).mono hbr.size) |>.mono (by omega)))).mono ?_
              rintro e q2 ⟨rfl, b2⟩
              have t2 : Blk q2 (w.heap.size + 1) 23 #[.int .i64 ra, .int .i64 rb, .int .i64 rc] := Blk.below (Blk.alloc t1 _) b2 (by simp; omega)
              have a2 : Blk q2 q1.heap.size 23 #[.int .i64 ra, .int .i64 rb, .int .i64 rc] := Blk.below (Blk.new _ _ _) b2 (by simp)
              have B2 := (B1.alloc B1.size _).trans (b2.mono (by simp; have := B1.size; omega))
              have l3 := Blk.lt a2
              have l4 := Blk.lt t2
              clear c0 c1 c2
              have d0 := Blk.cell a2 0
              have d1 := Blk.cell a2 1
              have d2 := Blk.cell a2 2
              simp at d0 d1 d2
              go_wp2_with fail
              refine (awake_any _).mono ?_
              rintro e q3 ⟨rfl, b3⟩
              have t3 := Blk.below (Blk.alloc t2 _) b3 (by simp; omega)
              have a3 := Blk.below (Blk.alloc a2 _) b3 (by simp; omega)
              have B3 := (B2.alloc B2.size _).trans (b3.mono (by simp; have := B2.size; omega))
              clear d0 d1 d2
              have d0 := Blk.cell a3 0
              have d1 := Blk.cell a3 1
              have d2 := Blk.cell a3 2
              have c0 := Blk.cell t3 0
              have c1 := Blk.cell t3 1
              have c2 := Blk.cell t3 2
              simp at d0 d1 d2 c0 c1 c2
              go_wp2_with fail
              go_ret
              exact ⟨rfl, B3⟩
            · have hne : (rd != 0) = true := by simp [hrd]
              clear hrd
              go_wp2_with fail
              refine (HA.out _ (HPr.out.below hbr)).mono ?_
              rintro e q1 ⟨rfl, b1⟩
              have f1 : Blk q1 w.heap.size 23 #[.int .i64 x, .int .i64 y, .int .i64 z] := Blk.below fr b1 (Blk.lt fr)
              have t1 : Blk q1 (w.heap.size + 1) 23 #[.int .i64 x', .int .i64 y', .int .i64 z'] := Blk.below tr b1 (Blk.lt tr)
              have B1 := Br.trans (b1.mono Br.size)
              have l1 := Blk.lt f1
              have l2 := Blk.lt t1
              have c0 := Blk.cell f1 0
              have c1 := Blk.cell f1 1
              have c2 := Blk.cell f1 2
              simp at c0 c1 c2
              go_wp2_with fail
              refine (HB.out _ (HPr.out.below (hbr.trans ((b1.alloc b1.size _).mono hbr.size) |>.mono (by omega)))).mono ?_
              rintro e q2 ⟨rfl, b2⟩
              have t2 : Blk q2 (w.heap.size + 1) 23 #[.int .i64 x', .int .i64 y', .int .i64 z'] := Blk.below (Blk.alloc t1 _) b2 (by simp; omega)
              have a2 : Blk q2 q1.heap.size 23 #[.int .i64 ra, .int .i64 rb, .int .i64 rc] := Blk.below (Blk.new _ _ _) b2 (by simp)
              have B2 := (B1.alloc B1.size _).trans (b2.mono (by simp; have := B1.size; omega))
              have l3 := Blk.lt a2
              have l4 := Blk.lt t2
              clear c0 c1 c2
              have d0 := Blk.cell a2 0
              have d1 := Blk.cell a2 1
              have d2 := Blk.cell a2 2
              simp at d0 d1 d2
              go_wp2_with fail
              refine (awake_any _).mono ?_
              rintro e q3 ⟨rfl, b3⟩
              have t3 := Blk.below (Blk.alloc t2 _) b3 (by simp; omega)
              have a3 := Blk.below (Blk.alloc a2 _) b3 (by simp; omega)
              have B3 := (B2.alloc B2.size _).trans (b3.mono (by simp; have := B2.size; omega))
              clear d0 d1 d2
              have d0 := Blk.cell a3 0
              have d1 := Blk.cell a3 1
              have d2 := Blk.cell a3 2
              have c0 := Blk.cell t3 0
              have c1 := Blk.cell t3 1
              have c2 := Blk.cell t3 2
              simp at d0 d1 d2 c0 c1 c2
              go_wp2_with fail
              go_ret
              exact ⟨rfl, B3⟩
      · have nx : (x != x') = true := by simp [ex]
        rw [if_neg ex] at hN
        clear ex
        by_cases ey : y = y'
        · have ny : (y != y') = false := by simp [ey]
          rw [if_pos ey] at hN
          clear ey
          by_cases ez : z = z'
          · have nz : (z != z') = false := by simp [ez]
            rw [if_pos ez] at hN
            clear ez
            generalize hLL : L.length = ll at *
            subst hN
            have HLL := Lib.hid hLL
            clear hLL
            by_cases hrd : rd = 0
            · subst hrd
              have hh := HD.out rfl
              simp only [Prod.mk.injEq] at hh
              obtain ⟨rfl, rfl, rfl⟩ := hh
              go_wp2_with fail
              refine (HA.out _ (HPr.out.below hbr)).mono ?_
              rintro e q1 ⟨rfl, b1⟩
              have f1 : Blk q1 w.heap.size 23 #[.int .i64 x, .int .i64 y, .int .i64 z] := Blk.below fr b1 (Blk.lt fr)
              have t1 : Blk q1 (w.heap.size + 1) 23 #[.int .i64 ra, .int .i64 rb, .int .i64 rc] := Blk.below tr b1 (Blk.lt tr)
              have B1 := Br.trans (b1.mono Br.size)
              have l1 := Blk.lt f1
              have l2 := Blk.lt t1
              have c0 := Blk.cell f1 0
              have c1 := Blk.cell f1 1
              have c2 := Blk.cell f1 2
              simp at c0 c1 c2
              go_wp2_with fail
              refine (HB.out _ (HPr.out.below (hbr.trans ((b1.alloc b1.size _).mono hbr.size) |>.mono (by omega)))).mono ?_
              rintro e q2 ⟨rfl, b2⟩
              have t2 : Blk q2 (w.heap.size + 1) 23 #[.int .i64 ra, .int .i64 rb, .int .i64 rc] := Blk.below (Blk.alloc t1 _) b2 (by simp; omega)
              have a2 : Blk q2 q1.heap.size 23 #[.int .i64 ra, .int .i64 rb, .int .i64 rc] := Blk.below (Blk.new _ _ _) b2 (by simp)
              have B2 := (B1.alloc B1.size _).trans (b2.mono (by simp; have := B1.size; omega))
              have l3 := Blk.lt a2
              have l4 := Blk.lt t2
              clear c0 c1 c2
              have d0 := Blk.cell a2 0
              have d1 := Blk.cell a2 1
              have d2 := Blk.cell a2 2
              simp at d0 d1 d2
              go_wp2_with fail
              refine (awake_any _).mono ?_
              rintro e q3 ⟨rfl, b3⟩
              have t3 := Blk.below (Blk.alloc t2 _) b3 (by simp; omega)
              have a3 := Blk.below (Blk.alloc a2 _) b3 (by simp; omega)
              have B3 := (B2.alloc B2.size _).trans (b3.mono (by simp; have := B2.size; omega))
              clear d0 d1 d2
              have d0 := Blk.cell a3 0
              have d1 := Blk.cell a3 1
              have d2 := Blk.cell a3 2
              have c0 := Blk.cell t3 0
              have c1 := Blk.cell t3 1
              have c2 := Blk.cell t3 2
              simp at d0 d1 d2 c0 c1 c2
              go_wp2_with fail
              go_ret
              exact ⟨rfl, B3⟩
            · have hne : (rd != 0) = true := by simp [hrd]
              clear hrd
              go_wp2_with fail
              refine (HA.out _ (HPr.out.below hbr)).mono ?_
              rintro e q1 ⟨rfl, b1⟩
              have f1 : Blk q1 w.heap.size 23 #[.int .i64 x, .int .i64 y, .int .i64 z] := Blk.below fr b1 (Blk.lt fr)
              have t1 : Blk q1 (w.heap.size + 1) 23 #[.int .i64 x', .int .i64 y', .int .i64 z'] := Blk.below tr b1 (Blk.lt tr)
              have B1 := Br.trans (b1.mono Br.size)
              have l1 := Blk.lt f1
              have l2 := Blk.lt t1
              have c0 := Blk.cell f1 0
              have c1 := Blk.cell f1 1
              have c2 := Blk.cell f1 2
              simp at c0 c1 c2
              go_wp2_with fail
              refine (HB.out _ (HPr.out.below (hbr.trans ((b1.alloc b1.size _).mono hbr.size) |>.mono (by omega)))).mono ?_
              rintro e q2 ⟨rfl, b2⟩
              have t2 : Blk q2 (w.heap.size + 1) 23 #[.int .i64 x', .int .i64 y', .int .i64 z'] := Blk.below (Blk.alloc t1 _) b2 (by simp; omega)
              have a2 : Blk q2 q1.heap.size 23 #[.int .i64 ra, .int .i64 rb, .int .i64 rc] := Blk.below (Blk.new _ _ _) b2 (by simp)
              have B2 := (B1.alloc B1.size _).trans (b2.mono (by simp; have := B1.size; omega))
              have l3 := Blk.lt a2
              have l4 := Blk.lt t2
              clear c0 c1 c2
              have d0 := Blk.cell a2 0
              have d1 := Blk.cell a2 1
              have d2 := Blk.cell a2 2
              simp at d0 d1 d2
              go_wp2_with fail
              refine (awake_any _).mono ?_
              rintro e q3 ⟨rfl, b3⟩
              have t3 := Blk.below (Blk.alloc t2 _) b3 (by simp; omega)
              have a3 := Blk.below (Blk.alloc a2 _) b3 (by simp; omega)
              have B3 := (B2.alloc B2.size _).trans (b3.mono (by simp; have := B2.size; omega))
              clear d0 d1 d2
              have d0 := Blk.cell a3 0
              have d1 := Blk.cell a3 1
              have d2 := Blk.cell a3 2
              have c0 := Blk.cell t3 0
              have c1 := Blk.cell t3 1
              have c2 := Blk.cell t3 2
              simp at d0 d1 d2 c0 c1 c2
              go_wp2_with fail
              go_ret
              exact ⟨rfl, B3⟩
          · have nz : (z != z') = true := by simp [ez]
            rw [if_neg ez] at hN
            clear ez
            generalize hLL : L.length = ll at *
            subst hN
            have HLL := Lib.hid hLL
            clear hLL
            by_cases hrd : rd = 0
            · subst hrd
              have hh := HD.out rfl
              simp only [Prod.mk.injEq] at hh
              obtain ⟨rfl, rfl, rfl⟩ := hh
              go_wp2_with fail
              refine (HA.out _ (HPr.out.below hbr)).mono ?_
              rintro e q1 ⟨rfl, b1⟩
              have f1 : Blk q1 w.heap.size 23 #[.int .i64 x, .int .i64 y, .int .i64 z] := Blk.below fr b1 (Blk.lt fr)
              have t1 : Blk q1 (w.heap.size + 1) 23 #[.int .i64 ra, .int .i64 rb, .int .i64 rc] := Blk.below tr b1 (Blk.lt tr)
              have B1 := Br.trans (b1.mono Br.size)
              have l1 := Blk.lt f1
              have l2 := Blk.lt t1
              have c0 := Blk.cell f1 0
              have c1 := Blk.cell f1 1
              have c2 := Blk.cell f1 2
              simp at c0 c1 c2
              go_wp2_with fail
              refine (HB.out _ (HPr.out.below (hbr.trans ((b1.alloc b1.size _).mono hbr.size) |>.mono (by omega)))).mono ?_
              rintro e q2 ⟨rfl, b2⟩
              have t2 : Blk q2 (w.heap.size + 1) 23 #[.int .i64 ra, .int .i64 rb, .int .i64 rc] := Blk.below (Blk.alloc t1 _) b2 (by simp; omega)
              have a2 : Blk q2 q1.heap.size 23 #[.int .i64 ra, .int .i64 rb, .int .i64 rc] := Blk.below (Blk.new _ _ _) b2 (by simp)
              have B2 := (B1.alloc B1.size _).trans (b2.mono (by simp; have := B1.size; omega))
              have l3 := Blk.lt a2
              have l4 := Blk.lt t2
              clear c0 c1 c2
              have d0 := Blk.cell a2 0
              have d1 := Blk.cell a2 1
              have d2 := Blk.cell a2 2
              simp at d0 d1 d2
              go_wp2_with fail
              refine (awake_any _).mono ?_
              rintro e q3 ⟨rfl, b3⟩
              have t3 := Blk.below (Blk.alloc t2 _) b3 (by simp; omega)
              have a3 := Blk.below (Blk.alloc a2 _) b3 (by simp; omega)
              have B3 := (B2.alloc B2.size _).trans (b3.mono (by simp; have := B2.size; omega))
              clear d0 d1 d2
              have d0 := Blk.cell a3 0
              have d1 := Blk.cell a3 1
              have d2 := Blk.cell a3 2
              have c0 := Blk.cell t3 0
              have c1 := Blk.cell t3 1
              have c2 := Blk.cell t3 2
              simp at d0 d1 d2 c0 c1 c2
              go_wp2_with fail
              go_ret
              exact ⟨rfl, B3⟩
            · have hne : (rd != 0) = true := by simp [hrd]
              clear hrd
              go_wp2_with fail
              refine (HA.out _ (HPr.out.below hbr)).mono ?_
              rintro e q1 ⟨rfl, b1⟩
              have f1 : Blk q1 w.heap.size 23 #[.int .i64 x, .int .i64 y, .int .i64 z] := Blk.below fr b1 (Blk.lt fr)
              have t1 : Blk q1 (w.heap.size + 1) 23 #[.int .i64 x', .int .i64 y', .int .i64 z'] := Blk.below tr b1 (Blk.lt tr)
              have B1 := Br.trans (b1.mono Br.size)
              have l1 := Blk.lt f1
              have l2 := Blk.lt t1
              have c0 := Blk.cell f1 0
              have c1 := Blk.cell f1 1
              have c2 := Blk.cell f1 2
              simp at c0 c1 c2
              go_wp2_with fail
              refine (HB.out _ (HPr.out.below (hbr.trans ((b1.alloc b1.size _).mono hbr.size) |>.mono (by omega)))).mono ?_
              rintro e q2 ⟨rfl, b2⟩
              have t2 : Blk q2 (w.heap.size + 1) 23 #[.int .i64 x', .int .i64 y', .int .i64 z'] := Blk.below (Blk.alloc t1 _) b2 (by simp; omega)
              have a2 : Blk q2 q1.heap.size 23 #[.int .i64 ra, .int .i64 rb, .int .i64 rc] := Blk.below (Blk.new _ _ _) b2 (by simp)
              have B2 := (B1.alloc B1.size _).trans (b2.mono (by simp; have := B1.size; omega))
              have l3 := Blk.lt a2
              have l4 := Blk.lt t2
              clear c0 c1 c2
              have d0 := Blk.cell a2 0
              have d1 := Blk.cell a2 1
              have d2 := Blk.cell a2 2
              simp at d0 d1 d2
              go_wp2_with fail
              refine (awake_any _).mono ?_
              rintro e q3 ⟨rfl, b3⟩
              have t3 := Blk.below (Blk.alloc t2 _) b3 (by simp; omega)
              have a3 := Blk.below (Blk.alloc a2 _) b3 (by simp; omega)
              have B3 := (B2.alloc B2.size _).trans (b3.mono (by simp; have := B2.size; omega))
              clear d0 d1 d2
              have d0 := Blk.cell a3 0
              have d1 := Blk.cell a3 1
              have d2 := Blk.cell a3 2
              have c0 := Blk.cell t3 0
              have c1 := Blk.cell t3 1
              have c2 := Blk.cell t3 2
              simp at d0 d1 d2 c0 c1 c2
              go_wp2_with fail
              go_ret
              exact ⟨rfl, B3⟩
        · have ny : (y != y') = true := by simp [ey]
          rw [if_neg ey] at hN
          clear ey
          by_cases ez : z = z'
          · have nz : (z != z') = false := by simp [ez]
            rw [if_pos ez] at hN
            clear ez
            generalize hLL : L.length = ll at *
            subst hN
            have HLL := Lib.hid hLL
            clear hLL
            by_cases hrd : rd = 0
            · subst hrd
              have hh := HD.out rfl
              simp only [Prod.mk.injEq] at hh
              obtain ⟨rfl, rfl, rfl⟩ := hh
              go_wp2_with fail
              refine (HA.out _ (HPr.out.below hbr)).mono ?_
              rintro e q1 ⟨rfl, b1⟩
              have f1 : Blk q1 w.heap.size 23 #[.int .i64 x, .int .i64 y, .int .i64 z] := Blk.below fr b1 (Blk.lt fr)
              have t1 : Blk q1 (w.heap.size + 1) 23 #[.int .i64 ra, .int .i64 rb, .int .i64 rc] := Blk.below tr b1 (Blk.lt tr)
              have B1 := Br.trans (b1.mono Br.size)
              have l1 := Blk.lt f1
              have l2 := Blk.lt t1
              have c0 := Blk.cell f1 0
              have c1 := Blk.cell f1 1
              have c2 := Blk.cell f1 2
              simp at c0 c1 c2
              go_wp2_with fail
              refine (HB.out _ (HPr.out.below (hbr.trans ((b1.alloc b1.size _).mono hbr.size) |>.mono (by omega)))).mono ?_
              rintro e q2 ⟨rfl, b2⟩
              have t2 : Blk q2 (w.heap.size + 1) 23 #[.int .i64 ra, .int .i64 rb, .int .i64 rc] := Blk.below (Blk.alloc t1 _) b2 (by simp; omega)
              have a2 : Blk q2 q1.heap.size 23 #[.int .i64 ra, .int .i64 rb, .int .i64 rc] := Blk.below (Blk.new _ _ _) b2 (by simp)
              have B2 := (B1.alloc B1.size _).trans (b2.mono (by simp; have := B1.size; omega))
              have l3 := Blk.lt a2
              have l4 := Blk.lt t2
              clear c0 c1 c2
              have d0 := Blk.cell a2 0
              have d1 := Blk.cell a2 1
              have d2 := Blk.cell a2 2
              simp at d0 d1 d2
              go_wp2_with fail
              refine (awake_any _).mono ?_
              rintro e q3 ⟨rfl, b3⟩
              have t3 := Blk.below (Blk.alloc t2 _) b3 (by simp; omega)
              have a3 := Blk.below (Blk.alloc a2 _) b3 (by simp; omega)
              have B3 := (B2.alloc B2.size _).trans (b3.mono (by simp; have := B2.size; omega))
              clear d0 d1 d2
              have d0 := Blk.cell a3 0
              have d1 := Blk.cell a3 1
              have d2 := Blk.cell a3 2
              have c0 := Blk.cell t3 0
              have c1 := Blk.cell t3 1
              have c2 := Blk.cell t3 2
              simp at d0 d1 d2 c0 c1 c2
              go_wp2_with fail
              go_ret
              exact ⟨rfl, B3⟩
            · have hne : (rd != 0) = true := by simp [hrd]
              clear hrd
              go_wp2_with fail
              refine (HA.out _ (HPr.out.below hbr)).mono ?_
              rintro e q1 ⟨rfl, b1⟩
              have f1 : Blk q1 w.heap.size 23 #[.int .i64 x, .int .i64 y, .int .i64 z] := Blk.below fr b1 (Blk.lt fr)
              have t1 : Blk q1 (w.heap.size + 1) 23 #[.int .i64 x', .int .i64 y', .int .i64 z'] := Blk.below tr b1 (Blk.lt tr)
              have B1 := Br.trans (b1.mono Br.size)
              have l1 := Blk.lt f1
              have l2 := Blk.lt t1
              have c0 := Blk.cell f1 0
              have c1 := Blk.cell f1 1
              have c2 := Blk.cell f1 2
              simp at c0 c1 c2
              go_wp2_with fail
              refine (HB.out _ (HPr.out.below (hbr.trans ((b1.alloc b1.size _).mono hbr.size) |>.mono (by omega)))).mono ?_
              rintro e q2 ⟨rfl, b2⟩
              have t2 : Blk q2 (w.heap.size + 1) 23 #[.int .i64 x', .int .i64 y', .int .i64 z'] := Blk.below (Blk.alloc t1 _) b2 (by simp; omega)
              have a2 : Blk q2 q1.heap.size 23 #[.int .i64 ra, .int .i64 rb, .int .i64 rc] := Blk.below (Blk.new _ _ _) b2 (by simp)
              have B2 := (B1.alloc B1.size _).trans (b2.mono (by simp; have := B1.size; omega))
              have l3 := Blk.lt a2
              have l4 := Blk.lt t2
              clear c0 c1 c2
              have d0 := Blk.cell a2 0
              have d1 := Blk.cell a2 1
              have d2 := Blk.cell a2 2
              simp at d0 d1 d2
              go_wp2_with fail
              refine (awake_any _).mono ?_
              rintro e q3 ⟨rfl, b3⟩
              have t3 := Blk.below (Blk.alloc t2 _) b3 (by simp; omega)
              have a3 := Blk.below (Blk.alloc a2 _) b3 (by simp; omega)
              have B3 := (B2.alloc B2.size _).trans (b3.mono (by simp; have := B2.size; omega))
              clear d0 d1 d2
              have d0 := Blk.cell a3 0
              have d1 := Blk.cell a3 1
              have d2 := Blk.cell a3 2
              have c0 := Blk.cell t3 0
              have c1 := Blk.cell t3 1
              have c2 := Blk.cell t3 2
              simp at d0 d1 d2 c0 c1 c2
              go_wp2_with fail
              go_ret
              exact ⟨rfl, B3⟩
          · have nz : (z != z') = true := by simp [ez]
            rw [if_neg ez] at hN
            clear ez
            generalize hLL : L.length = ll at *
            subst hN
            have HLL := Lib.hid hLL
            clear hLL
            by_cases hrd : rd = 0
            · subst hrd
              have hh := HD.out rfl
              simp only [Prod.mk.injEq] at hh
              obtain ⟨rfl, rfl, rfl⟩ := hh
              go_wp2_with fail
              refine (HA.out _ (HPr.out.below hbr)).mono ?_
              rintro e q1 ⟨rfl, b1⟩
              have f1 : Blk q1 w.heap.size 23 #[.int .i64 x, .int .i64 y, .int .i64 z] := Blk.below fr b1 (Blk.lt fr)
              have t1 : Blk q1 (w.heap.size + 1) 23 #[.int .i64 ra, .int .i64 rb, .int .i64 rc] := Blk.below tr b1 (Blk.lt tr)
              have B1 := Br.trans (b1.mono Br.size)
              have l1 := Blk.lt f1
              have l2 := Blk.lt t1
              have c0 := Blk.cell f1 0
              have c1 := Blk.cell f1 1
              have c2 := Blk.cell f1 2
              simp at c0 c1 c2
              go_wp2_with fail
              refine (HB.out _ (HPr.out.below (hbr.trans ((b1.alloc b1.size _).mono hbr.size) |>.mono (by omega)))).mono ?_
              rintro e q2 ⟨rfl, b2⟩
              have t2 : Blk q2 (w.heap.size + 1) 23 #[.int .i64 ra, .int .i64 rb, .int .i64 rc] := Blk.below (Blk.alloc t1 _) b2 (by simp; omega)
              have a2 : Blk q2 q1.heap.size 23 #[.int .i64 ra, .int .i64 rb, .int .i64 rc] := Blk.below (Blk.new _ _ _) b2 (by simp)
              have B2 := (B1.alloc B1.size _).trans (b2.mono (by simp; have := B1.size; omega))
              have l3 := Blk.lt a2
              have l4 := Blk.lt t2
              clear c0 c1 c2
              have d0 := Blk.cell a2 0
              have d1 := Blk.cell a2 1
              have d2 := Blk.cell a2 2
              simp at d0 d1 d2
              go_wp2_with fail
              refine (awake_any _).mono ?_
              rintro e q3 ⟨rfl, b3⟩
              have t3 := Blk.below (Blk.alloc t2 _) b3 (by simp; omega)
              have a3 := Blk.below (Blk.alloc a2 _) b3 (by simp; omega)
              have B3 := (B2.alloc B2.size _).trans (b3.mono (by simp; have := B2.size; omega))
              clear d0 d1 d2
              have d0 := Blk.cell a3 0
              have d1 := Blk.cell a3 1
              have d2 := Blk.cell a3 2
              have c0 := Blk.cell t3 0
              have c1 := Blk.cell t3 1
              have c2 := Blk.cell t3 2
              simp at d0 d1 d2 c0 c1 c2
              go_wp2_with fail
              go_ret
              exact ⟨rfl, B3⟩
            · have hne : (rd != 0) = true := by simp [hrd]
              clear hrd
              go_wp2_with fail
              refine (HA.out _ (HPr.out.below hbr)).mono ?_
              rintro e q1 ⟨rfl, b1⟩
              have f1 : Blk q1 w.heap.size 23 #[.int .i64 x, .int .i64 y, .int .i64 z] := Blk.below fr b1 (Blk.lt fr)
              have t1 : Blk q1 (w.heap.size + 1) 23 #[.int .i64 x', .int .i64 y', .int .i64 z'] := Blk.below tr b1 (Blk.lt tr)
              have B1 := Br.trans (b1.mono Br.size)
              have l1 := Blk.lt f1
              have l2 := Blk.lt t1
              have c0 := Blk.cell f1 0
              have c1 := Blk.cell f1 1
              have c2 := Blk.cell f1 2
              simp at c0 c1 c2
              go_wp2_with fail
              refine (HB.out _ (HPr.out.below (hbr.trans ((b1.alloc b1.size _).mono hbr.size) |>.mono (by omega)))).mono ?_
              rintro e q2 ⟨rfl, b2⟩
              have t2 : Blk q2 (w.heap.size + 1) 23 #[.int .i64 x', .int .i64 y', .int .i64 z'] := Blk.below (Blk.alloc t1 _) b2 (by simp; omega)
              have a2 : Blk q2 q1.heap.size 23 #[.int .i64 ra, .int .i64 rb, .int .i64 rc] := Blk.below (Blk.new _ _ _) b2 (by simp)
              have B2 := (B1.alloc B1.size _).trans (b2.mono (by simp; have := B1.size; omega))
              have l3 := Blk.lt a2
              have l4 := Blk.lt t2
              clear c0 c1 c2
              have d0 := Blk.cell a2 0
              have d1 := Blk.cell a2 1
              have d2 := Blk.cell a2 2
              simp at d0 d1 d2
              go_wp2_with fail
              refine (awake_any _).mono ?_
              rintro e q3 ⟨rfl, b3⟩
              have t3 := Blk.below (Blk.alloc t2 _) b3 (by simp; omega)
              have a3 := Blk.below (Blk.alloc a2 _) b3 (by simp; omega)
              have B3 := (B2.alloc B2.size _).trans (b3.mono (by simp; have := B2.size; omega))
              clear d0 d1 d2
              have d0 := Blk.cell a3 0
              have d1 := Blk.cell a3 1
              have d2 := Blk.cell a3 2
              have c0 := Blk.cell t3 0
              have c1 := Blk.cell t3 1
              have c2 := Blk.cell t3 2
              simp at d0 d1 d2 c0 c1 c2
              go_wp2_with fail
              go_ret
              exact ⟨rfl, B3⟩

theorem own : ownKnob Try.prog.godebug = none := by kernel_rfl

set_option maxRecDepth 100000 in
theorem lifted (os : Os) (started : os.Started) (H : Type) (enc : TypeId × Value → H) :
    ReturnsInHanded {} Try.checked os 3 .any (Rows.paramsDiffSpec.pre6 enc Try.prog Try.f3 Rows.paramsDiffRow.domain false) (Rows.paramsDiffSpec.post enc Try.prog Try.f3 false true false false) := by
  refine returnsInHanded_of_change (C := Try.checked) own started (by kernel_rfl) Try.func3
    (ChangeSpec.witness6 (enc := enc) (C := Try.checked) false ⟨#[], #[.agg #[.int .i64 0, .int .i64 0, .int .i64 0], .agg #[.int .i64 0, .int .i64 0, .int .i64 0]], []⟩ 8 (by kernel_rfl) (by kernel_rfl) (by kernel_rfl) (by kernel_rfl)) ?_
  intro W base args ds gs before hval0 hW hcnd _
  have hval : ∀ (j : Nat) t v, Try.f3.params[j]? = some t → args[j]? = some v → Value.okWide Try.prog W .any base t v := hval0
  have hW' := hW
  obtain ⟨p, q, hA0, hV, rfl, hfz, hnd⟩ := hW
  have hA : DataW.TrodAll enc Try.prog W 0 (fun _ => true) true Try.f3.params.toList args.toList ds p := hA0
  rw [Try.params3] at hA hval
  obtain ⟨v0, vs0, d0, ds0, p0, q0, hargs, rfl, rfl, h0, r0⟩ := trodAll_cons hA
  obtain ⟨v1, vs1, d1, ds1, p1, q1, rfl, rfl, rfl, h1, r1⟩ := trodAll_cons r0
  obtain ⟨rfl, rfl, rfl⟩ := trodAll_nil r1
  obtain rfl : args = #[v0, v1] := by cases args; simp_all
  obtain ⟨rfl, rfl⟩ := trodVars_none hV
  have g0 := h0
  have g1 := h1
  obtain ⟨x0, y0, z0, rfl, bx0, by0, bz0⟩ := open_ints3 Try.underlying23 Try.underlying3 (by kernel_rfl) (by kernel_rfl) rfl rfl rfl rfl rfl rfl (hval 0 23 v0 rfl rfl) h0
  obtain ⟨x1, y1, z1, rfl, bx1, by1, bz1⟩ := open_ints3 Try.underlying23 Try.underlying3 (by kernel_rfl) (by kernel_rfl) rfl rfl rfl rfl rfl rfl (hval 1 23 v1 rfl rfl) h1
  clear hA0 hval0
  have hlt : ∀ x ∈ (p0 ++ (p1 ++ [])), x.block < W.heap.size := fun x hx => hW'.lt x (by simpa using hx)
  refine (walk W x0 y0 z0 bx0 by0 bz0 x1 y1 z1 bx1 by1 bz1).mono fun e W' ⟨he, hb⟩ => ?_
  subst he
  refine ⟨_, rfl, post_of_below (pa := (p0 ++ (p1 ++ []))) (pv := []) hW' (fun _ _ _ => (trodAll_cons_mk (shut_bool Try.underlying4 _) trodAll_mk0)) (fun sp hsp => ?_) (fun _ _ => rfl) (by simp) hb (ok_one (by kernel_rfl) rfl (okWide_bool_mk Try.underlying4 _))⟩
  exact trodAll_cons_mk (below_trod sp (by kernel_rfl) (by kernel_rfl) (of_decide_eq_true (by kernel_rfl)) g0 hb (fun x hx => hlt x (by simp [hx])) (fun x hx => hsp x (by simp [hx])))
    (trodAll_cons_mk (below_trod sp (by kernel_rfl) (by kernel_rfl) (of_decide_eq_true (by kernel_rfl)) g1 hb (fun x hx => hlt x (by simp [hx])) (fun x hx => hsp x (by simp [hx])))
    (trodAll_mk0))

theorem over : Rows.paramsDiffRow.holds Try.pinned (OpenSpec.ofChange Rows.paramsDiffSpec) :=
  OpenClaim.holds_of_wide 3 Try.f3 rfl rfl rfl rfl rfl rfl rfl ⟨rfl, rfl, rfl, rfl, rfl⟩ rfl rfl rfl rfl rfl (by kernel_rfl) Try.func3 (by kernel_rfl)
    (of_decide_eq_true (by kernel_rfl)) (by unfold Func.isWrapper; rw [if_neg (by decide +kernel)]; exact ⟨rfl, rfl⟩)
    (fun os started H enc _ => lifted os started H enc)

theorem proved : Rows.ParamsDiffSaid := over
#print axioms proved
end Go.Proofs.Ytgmnhiofenpafaa.ParamsDiff
