/- What must come at any rate. -/
import Derived.Test.YtpbahmnlhckgbaaCredDo
import Derived.Test.YtpbahmnlhckgbaaLift
import Derived.Deep.QuietTactic
import Derived.BigQuiet
import Derived.Deep.RegionWith
import Derived.Deep.RegionHeld3
import Derived.Deep.DeepCutAuto
import Derived.WalkLawsBesides
import Derived.WalkSmall
namespace Go.Proofs.Ytpbahmnlhckgbaa
open Go.RowKit
open Go.ChangeShapes Go.WideShapes Go.ChangeAt
set_option linter.unusedVariables false
theorem open_ints4 {H : Type} {enc : TypeId × Value → H} {P : Program} {w : World} {base : Nat} {spare : Nat → Bool} {held : Bool} {r : Reach} {t it : TypeId} {f0 f1 f2 f3 : Field} {v : Value} {d : DataW H} {p : List MemPlace}
    (he : P.underlying t = some (.struct #[f0, f1, f2, f3])) (hit : P.underlying it = some (.int .i64)) (h1 : P.cellsOf it = 1) (hC : P.cellsOf t = 4) (o0 : f0.offset = 0) (o1 : f1.offset = 1) (o2 : f2.offset = 2) (o3 : f3.offset = 3) (t0 : f0.type = it) (t1 : f1.type = it) (t2 : f2.type = it) (t3 : f3.type = it)
    {b0 : Nat} (hv : Value.okWide P w r b0 t v) (h : DataW.Trod enc P w base spare held t v d p) :
    ∃ x y z u : Int, v = .agg #[.int .i64 x, .int .i64 y, .int .i64 z, .int .i64 u] := by
  obtain ⟨cs, rfl, hsz⟩ := okWide_struct he hv
  obtain ⟨l⟩ := cs
  obtain ⟨fuel, hf⟩ := h
  have hl : l.length = 4 := by simpa using hsz.trans hC
  have hf' : DataW.trod enc P w base spare held fuel t l = some (d, p) := by simpa [Value.cells] using hf
  obtain ⟨x, y, z, u, rfl, _⟩ := four_of he hit h1 o0 o1 o2 o3 t0 t1 t2 t3 fuel l _ hl hf'
  exact ⟨x, y, z, u, rfl⟩
theorem place_nil {x : Int} {i : Nat} (h : Place [] x i) : i = 0 := by have := h.1; simpa using this
theorem place_end {a : Ln} {x : Int} {i : Nat} (h : Place [a] x i) (ha : a.id < x) : i = 1 := by
  obtain ⟨h1, h2, h3⟩ := h
  simp only [List.length_cons, List.length_nil] at h1
  rcases Nat.lt_or_ge 0 i with h0 | h0
  · omega
  · have := h3 0 (by simp) (by omega)
    simp at this
    omega
theorem own_of_blk2 {w : World} {g : Nat} {x y : Value} (h : Blk w g 3 #[x, y]) : w.ownsRow 0 3 1 (.slice (some ⟨g, 0, none⟩) 2 2) 2 [x, y] :=
  ⟨rfl, .inr ⟨g, 2, #[x, y], rfl, Nat.zero_le _, h, Nat.le_refl _, by unfold maxLen; omega, rfl, rfl⟩⟩
set_option maxHeartbeats 4000000 in
theorem awake_any (w : World) : Calls Try.prog 7 #[] w fun e w' => e = .returned (.bool true) ∧ Below w.heap.size w w' := by
  go_enter Try.func7, Try.ntmps7
  go_wp2_with fail
  refine (new_ok 10 w (by decide) (by decide)).mono ?_
  rintro e w1 ⟨⟨g, cw, rfl, k1, _⟩, b1⟩
  have K1 := Lib.hid (And.intro (k1 w.heap.size (Nat.le_refl _)) b1)
  clear k1 b1
  go_wp2_with fail
  refine (open_ok w.heap.size g cw 0 10 0 0 1 none [] w1 K1.out.1 8 (by simp) (by decide) (by decide) (by decide) (by decide) (by simp)).mono ?_
  rintro e w2 ⟨rfl, ⟨A2, c2, wb, i, hp, k2⟩, b2, _⟩
  obtain rfl := place_nil hp
  have K2 : Hid (Led w.heap.size w2 g cw 10 0 A2 c2 [⟨1, wb, 8, 0⟩] 0 ∧ Below w.heap.size w w2) := ⟨k2, K1.out.2.trans b2⟩
  clear hp k2 b2
  go_wp2_with fail
  refine (open_ok w.heap.size g cw c2 10 0 0 3 A2 [⟨1, wb, 8, 0⟩] w2 K2.out.1 8 (by intro j hj; simp at hj; subst hj; show (1 : Int) ≠ 3; decide) (by decide) (by decide) (by decide) (by decide) (by simp)).mono ?_
  rintro e w3 ⟨rfl, ⟨A3, c3, wb3, i, hp, k3⟩, b3, _⟩
  obtain rfl := place_end hp (by show (1 : Int) < 3; decide)
  have K3 : Hid (Led w.heap.size w3 g cw 10 0 A3 c3 [⟨1, wb, 8, 0⟩, ⟨3, wb3, 8, 0⟩] 0 ∧ Below w.heap.size w w3) := ⟨k3, K2.out.2.trans b3⟩
  clear hp k3 b3
  go_wp2_with fail
  refine (spend_ok w.heap.size g cw c3 10 0 0 A3 [⟨1, wb, 8, 0⟩, ⟨3, wb3, 8, 0⟩] w3 K3.out.1 8 0 (by simp) (by decide) (by show (8 : Int) ≤ min (max 8 0) (max 10 0); decide) (by decide)).mono ?_
  rintro e w4 ⟨rfl, k4, b4, _⟩
  have K4 : Hid (Led w.heap.size w4 g cw 2 8 A3 c3 [⟨1, wb, 0, 8⟩, ⟨3, wb3, 8, 0⟩] (0 + 2147483647) ∧ Below w.heap.size w w4) := ⟨k4, K3.out.2.trans b4⟩
  clear k4 b4
  go_wp2_with fail
  refine (spent_conn w.heap.size g cw c3 2 8 _ A3 _ w4 K4.out.1).mono ?_
  rintro e w5 ⟨rfl, rfl⟩
  go_wp2_with fail
  refine (free_at w.heap.size g cw c3 2 8 _ A3 _ w4 K4.out.1 1 (by simp)).mono ?_
  rintro e w5 ⟨rfl, b5⟩
  have K5 := Lib.hid (And.intro (K4.out.1.below b5) (K4.out.2.trans (b5.mono K4.out.2.size)))
  clear b5
  go_wp2_with fail
  refine (free_at w.heap.size g cw c3 2 8 _ A3 _ w5 K5.out.1 0 (by simp)).mono ?_
  rintro e w6 ⟨rfl, b6⟩
  have K6 := Lib.hid (And.intro (K5.out.1.below b6) (K5.out.2.trans (b6.mono K5.out.2.size)))
  clear b6
  go_wp2_with fail
  refine (ids_any w.heap.size g cw c3 2 8 _ A3 _ w6 K6.out.1).mono ?_
  rintro e w7 ⟨A7, c7, rfl, h7, b7⟩
  have K7 : Hid (Held w7 3 1 A7 2 c7 (nums [1, 3]) ∧ Below w.heap.size w w7) := ⟨h7, K6.out.2.trans (b7.mono K6.out.2.size)⟩
  have hs7 := K7.out.2.size
  clear h7 b7
  go_wp2_with fail
  refine (ints_eq _ _ _ _ _ _ [1, 3] _ rfl rfl (by exact K7.out.1.alloc _) (by exact Held.of_own (own_of_blk2 (Blk.new w7 3 #[.int .i64 1, .int .i64 3]))) (by decide)).mono ?_
  rintro e w8 ⟨rfl, q8, rfl⟩
  have K8 := Lib.hid (below_drewN (K7.out.2.alloc hs7 (.cells #[.int .i64 1, .int .i64 3] 3)) q8)
  go_wp2_with fail
  go_ret
  exact ⟨rfl, K8.out⟩
end Go.Proofs.Ytpbahmnlhckgbaa
