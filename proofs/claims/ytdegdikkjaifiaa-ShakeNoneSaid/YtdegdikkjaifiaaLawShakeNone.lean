/- Proved: ShakeNone answers true for every input, and leaves its arguments as they were; no condition. -/
import Derived.Test.YtdegdikkjaifiaaRows
import Derived.Test.YtdegdikkjaifiaaMem
import Derived.Test.YtdegdikkjaifiaaLift
import Derived.Test.YtdegdikkjaifiaaShakeAw
import Derived.WalkKit
import Derived.ProofKit
import Derived.OpenShut
import Derived.Handy
import Derived.Deep.QuietTactic
import Derived.BigQuiet
import Derived.Deep.RegionWith
import Derived.WalkLawsBesides
import Derived.Test.YtdegdikkjaifiaaShake2
import Derived.Deep.RegionHeld3
namespace Go.Proofs.Ytdegdikkjaifiaa.ShakeNone
open Go.ChangeShapes Go.WideShapes Go.ChangeAt Go.RowKit Go.Deep
set_option linter.unusedVariables false

set_option maxRecDepth 100000 in
set_option maxHeartbeats 16000000 in
theorem walk (w : World) (x y z : Int) (bx : -9223372036854775808 ≤ x ∧ x ≤ 9223372036854775807) (by_ : -9223372036854775808 ≤ y ∧ y ≤ 9223372036854775807) (bz : -9223372036854775808 ≤ z ∧ z ≤ 9223372036854775807) :
    Calls Try.prog 4 #[.agg #[.int .i64 x, .int .i64 y, .int .i64 z]] w fun e w' => e = .returned (.bool true) ∧ Below w.heap.size w w' := by
  go_enter Try.func4, Try.ntmps4
  go_wp2_with fail
  refine (send_nil x y z _).mono ?_
  rintro e w1 ⟨rfl, b1⟩
  have B1 : Below w.heap.size w w1 := ((Below.refl _ _).alloc (Nat.le_refl _) _).trans (b1.mono (by simp))
  clear b1
  go_wp2_with fail
  refine (ack_nil _).mono ?_
  rintro e w2 ⟨rfl, b2⟩
  have B2 : Below w.heap.size w w2 := B1.trans (b2.mono B1.size)
  clear b2 B1
  have x5 := Blk.alloc (Blk.alloc (Blk.new w2 27 #[.int .i64 0, .int .i64 0, .int .i64 0]) (.cells #[.int .i64 0, .int .i64 0, .int .i64 0] 27)) (.cells #[.int .i64 0, .int .i64 0, .int .i64 0] 27)
  have y5 := Blk.alloc (Blk.new (w2.alloc (.cells #[.int .i64 0, .int .i64 0, .int .i64 0] 27)) 27 #[.int .i64 0, .int .i64 0, .int .i64 0]) (.cells #[.int .i64 0, .int .i64 0, .int .i64 0] 27)
  have z5 := Blk.new ((w2.alloc (.cells #[.int .i64 0, .int .i64 0, .int .i64 0] 27)).alloc (.cells #[.int .i64 0, .int .i64 0, .int .i64 0] 27)) 27 #[.int .i64 0, .int .i64 0, .int .i64 0]
  simp only [World.size_alloc] at y5 z5
  have B5 := ((B2.alloc B2.size (.cells #[.int .i64 0, .int .i64 0, .int .i64 0] 27)).alloc (Nat.le_trans B2.size (by simp)) (.cells #[.int .i64 0, .int .i64 0, .int .i64 0] 27)).alloc (Nat.le_trans B2.size (by simp; omega)) (.cells #[.int .i64 0, .int .i64 0, .int .i64 0] 27)
  go_wp2_with fail
  generalize ((w2.alloc (.cells #[.int .i64 0, .int .i64 0, .int .i64 0] 27)).alloc (.cells #[.int .i64 0, .int .i64 0, .int .i64 0] 27)).alloc (.cells #[.int .i64 0, .int .i64 0, .int .i64 0] 27) = w5 at *
  generalize w2.heap.size = G at *
  have cx0 := Blk.cell x5 0
  have cx1 := Blk.cell x5 1
  have cx2 := Blk.cell x5 2
  have cy0 := Blk.cell y5 0
  have cy1 := Blk.cell y5 1
  have cy2 := Blk.cell y5 2
  have cz0 := Blk.cell z5 0
  have cz1 := Blk.cell z5 1
  have cz2 := Blk.cell z5 2
  simp at cx0 cx1 cx2 cy0 cy1 cy2 cz0 cz1 cz2
  have X5 := Lib.hid x5
  have Y5 := Lib.hid y5
  have Z5 := Lib.hid z5
  clear x5 y5 z5
  go_region_held3 (fun w' => w'.cell? ⟨G, 0, none⟩ = some (.int .i64 0) ∧ w'.cell? ⟨G, 1, none⟩ = some (.int .i64 0) ∧ w'.cell? ⟨G, 2, none⟩ = some (.int .i64 0)
      ∧ w'.cell? ⟨G + 1, 0, none⟩ = some (.int .i64 0) ∧ w'.cell? ⟨G + 1, 1, none⟩ = some (.int .i64 0) ∧ w'.cell? ⟨G + 1, 2, none⟩ = some (.int .i64 0)
      ∧ w'.cell? ⟨G + 1 + 1, 0, none⟩ = some (.int .i64 0) ∧ w'.cell? ⟨G + 1 + 1, 1, none⟩ = some (.int .i64 0) ∧ w'.cell? ⟨G + 1 + 1, 2, none⟩ = some (.int .i64 0))
    (first
      | go_keep
      | (refine ⟨?_, ?_, ?_, ?_, ?_, ?_, ?_, ?_, ?_⟩ <;> with_reducible assumption))
    ((first
      | (go_at_call 6
         refine (awake_any _).mono ?_
         rintro e w6 ⟨rfl, b6'⟩
         have b6 : Below w5.heap.size w5 w6 := ⟨b6'.os, b6'.tape, b6'.output, b6'.size, b6'.block⟩
         have x6 := Blk.below X5.out b6 (Blk.lt X5.out)
         have y6 := Blk.below Y5.out b6 (Blk.lt Y5.out)
         have z6 := Blk.below Z5.out b6 (Blk.lt Z5.out)
         have d60 := Blk.cell x6 0
         have d61 := Blk.cell x6 1
         have d62 := Blk.cell x6 2
         have d63 := Blk.cell y6 0
         have d64 := Blk.cell y6 1
         have d65 := Blk.cell y6 2
         have d66 := Blk.cell z6 0
         have d67 := Blk.cell z6 1
         have d68 := Blk.cell z6 2
         simp at d60 d61 d62 d63 d64 d65 d66 d67 d68)
      | (go_at_call 12
         refine (holds_nil _).mono ?_
         rintro e w7 ⟨rfl, b7'⟩
         have b7 : Below w6.heap.size w6 w7 := b7'
         have x7 := Blk.below x6 b7 (Blk.lt x6)
         have y7 := Blk.below y6 b7 (Blk.lt y6)
         have z7 := Blk.below z6 b7 (Blk.lt z6)
         have d70 := Blk.cell x7 0
         have d71 := Blk.cell x7 1
         have d72 := Blk.cell x7 2
         have d73 := Blk.cell y7 0
         have d74 := Blk.cell y7 1
         have d75 := Blk.cell y7 2
         have d76 := Blk.cell z7 0
         have d77 := Blk.cell z7 1
         have d78 := Blk.cell z7 2
         simp at d70 d71 d72 d73 d74 d75 d76 d77 d78)
      | (go_at_call 13
         refine (latest_nil _).mono ?_
         rintro e w8 ⟨rfl, b8'⟩
         have b8 : Below w7.heap.size w7 w8 := b8'
         have x8 := Blk.below x7 b8 (Blk.lt x7)
         have y8 := Blk.below y7 b8 (Blk.lt y7)
         have z8 := Blk.below z7 b8 (Blk.lt z7)
         have d80 := Blk.cell x8 0
         have d81 := Blk.cell x8 1
         have d82 := Blk.cell x8 2
         have d83 := Blk.cell y8 0
         have d84 := Blk.cell y8 1
         have d85 := Blk.cell y8 2
         have d86 := Blk.cell z8 0
         have d87 := Blk.cell z8 1
         have d88 := Blk.cell z8 2
         simp at d80 d81 d82 d83 d84 d85 d86 d87 d88)
      | (go_at_call 14
         refine (most_nil _).mono ?_
         rintro e w9 ⟨rfl, b9'⟩
         have b9 : Below w8.heap.size w8 w9 := b9'
         have x9 := Blk.below x8 b9 (Blk.lt x8)
         have y9 := Blk.below y8 b9 (Blk.lt y8)
         have z9 := Blk.below z8 b9 (Blk.lt z8)
         have d90 := Blk.cell x9 0
         have d91 := Blk.cell x9 1
         have d92 := Blk.cell x9 2
         have d93 := Blk.cell y9 0
         have d94 := Blk.cell y9 1
         have d95 := Blk.cell y9 2
         have d96 := Blk.cell z9 0
         have d97 := Blk.cell z9 1
         have d98 := Blk.cell z9 2
         simp at d90 d91 d92 d93 d94 d95 d96 d97 d98)
      | (go_at_call 15
         refine (waiting_nil _).mono ?_
         rintro e w10 ⟨rfl, rfl⟩)))
  go_wp2_with fail
  go_ret
  have S5 := B5.size
  have S6 := b6.size
  have S7 := b7.size
  have S8 := b8.size
  exact ⟨rfl, (((B5.trans (b6.mono (by omega))).trans (b7.mono (by omega))).trans (b8.mono (by omega))).trans (b9.mono (by omega))⟩

theorem own : ownKnob Try.prog.godebug = none := by kernel_rfl

set_option maxRecDepth 100000 in
theorem lifted (os : Os) (started : os.Started) (H : Type) (enc : TypeId × Value → H) :
    ReturnsInHanded {} Try.checked os 4 .any (Rows.shakeNoneSpec.pre6 enc Try.prog Try.f4 Rows.shakeNoneRow.domain false) (Rows.shakeNoneSpec.post enc Try.prog Try.f4 false true false false) := by
  refine returnsInHanded_of_change (C := Try.checked) own started (by kernel_rfl) Try.func4
    (ChangeSpec.witness6 (enc := enc) (C := Try.checked) false ⟨#[], #[.agg #[.int .i64 0, .int .i64 0, .int .i64 0]], []⟩ 8 (by kernel_rfl) (by kernel_rfl) (by kernel_rfl) (by kernel_rfl)) ?_
  intro W base args ds gs before hval0 hW hcnd _
  have hval : ∀ (j : Nat) t v, Try.f4.params[j]? = some t → args[j]? = some v → Value.okWide Try.prog W .any base t v := hval0
  have hW' := hW
  obtain ⟨p, q, hA0, hV, rfl, hfz, hnd⟩ := hW
  have hA : DataW.TrodAll enc Try.prog W 0 (fun _ => true) true Try.f4.params.toList args.toList ds p := hA0
  rw [Try.params4] at hA hval
  obtain ⟨v0, vs0, d0, ds0, p0, q0, hargs, rfl, rfl, h0, r0⟩ := trodAll_cons hA
  obtain ⟨rfl, rfl, rfl⟩ := trodAll_nil r0
  obtain rfl : args = #[v0] := by cases args; simp_all
  obtain ⟨rfl, rfl⟩ := trodVars_none hV
  have g0 := h0
  obtain ⟨x0, y0, z0, rfl, bx0, by0, bz0⟩ := open_ints3 Try.underlying27 Try.underlying3 (by kernel_rfl) (by kernel_rfl) rfl rfl rfl rfl rfl rfl (hval 0 27 v0 rfl rfl) h0
  clear hA0 hval0
  have hlt : ∀ x ∈ (p0 ++ []), x.block < W.heap.size := fun x hx => hW'.lt x (by simpa using hx)
  refine (walk W x0 y0 z0 bx0 by0 bz0).mono fun e W' ⟨he, hb⟩ => ?_
  subst he
  refine ⟨_, rfl, post_of_below (pa := (p0 ++ [])) (pv := []) hW' (fun _ _ _ => (trodAll_cons_mk (shut_bool Try.underlying4 _) trodAll_mk0)) (fun sp hsp => ?_) (fun _ _ => rfl) (by simp) hb (ok_one (by kernel_rfl) rfl (okWide_bool_mk Try.underlying4 _))⟩
  exact trodAll_cons_mk (below_trod sp (by kernel_rfl) (by kernel_rfl) (of_decide_eq_true (by kernel_rfl)) g0 hb (fun x hx => hlt x (by simp [hx])) (fun x hx => hsp x (by simp [hx])))
    (trodAll_mk0)

theorem over : Rows.shakeNoneRow.holds Try.pinned (OpenSpec.ofChange Rows.shakeNoneSpec) :=
  OpenClaim.holds_of_wide 4 Try.f4 rfl rfl rfl rfl rfl rfl rfl ⟨rfl, rfl, rfl, rfl, rfl⟩ rfl rfl rfl rfl rfl (by kernel_rfl) Try.func4 (by kernel_rfl)
    (of_decide_eq_true (by kernel_rfl)) (by unfold Func.isWrapper; rw [if_neg (by decide +kernel)]; exact ⟨rfl, rfl⟩)
    (fun os started H enc _ => lifted os started H enc)

theorem proved : Rows.ShakeNoneSaid := over
#print axioms proved
end Go.Proofs.Ytdegdikkjaifiaa.ShakeNone
