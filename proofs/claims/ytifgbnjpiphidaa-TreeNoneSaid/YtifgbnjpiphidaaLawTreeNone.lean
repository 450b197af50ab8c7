/- Proved: TreeNone answers true for every input, and leaves its arguments as they were; no condition. -/
import Derived.Test.YtifgbnjpiphidaaRows
import Derived.Test.YtifgbnjpiphidaaMem
import Derived.Test.YtifgbnjpiphidaaLift
import Derived.Test.YtifgbnjpiphidaaTreN
import Derived.WalkKit
import Derived.ProofKit
import Derived.OpenShut
import Derived.Handy
import Derived.Deep.QuietTactic
import Derived.BigQuiet
import Derived.Deep.RegionWith
import Derived.WalkLawsBesides
import Derived.Deep.RegionHeld3
namespace Go.Proofs.Ytifgbnjpiphidaa.TreeNone
open Go.ChangeShapes Go.WideShapes Go.ChangeAt Go.RowKit Go.Deep
set_option linter.unusedVariables false

set_option maxRecDepth 100000 in
set_option maxHeartbeats 16000000 in
theorem walk (w : World) (v0 : Value) (h0 : ∃ a : Ac, v0 = .agg (av a).toArray ∧ AcIn a) :
    Calls Try.prog 6 #[v0] w fun e w' => e = .returned (.bool true) ∧ Below w.heap.size w w' := by
  obtain ⟨⟨kd, id, on, wt, ex⟩, rfl, _⟩ := h0
  have z0 := Blk.new w 42 #[.int .i64 kd, .int .i64 id, .int .i64 on, .int .i64 wt, .bool ex]
  have t0 : Below w.heap.size w (w.alloc (.cells #[.int .i64 kd, .int .i64 id, .int .i64 on, .int .i64 wt, .bool ex] 42)) := (Below.refl _ _).alloc (Nat.le_refl _) _
  unfold av
  simp only
  go_enter Try.func6, Try.ntmps6
  go_upto_region 2 with fail
  generalize w.alloc (.cells #[.int .i64 kd, .int .i64 id, .int .i64 on, .int .i64 wt, .bool ex] 42) = w0 at *
  have d01 := Blk.cell z0 1
  have d02 := Blk.cell z0 2
  have d03 := Blk.cell z0 3
  have d04 := Blk.cell z0 4
  simp at d01 d02 d03 d04
  try simp only [List.append]
  go_region_held3 (fun w' => w'.cell? ⟨w.heap.size, 1, none⟩ = some (.int .i64 id) ∧ w'.cell? ⟨w.heap.size, 2, none⟩ = some (.int .i64 on) ∧ w'.cell? ⟨w.heap.size, 3, none⟩ = some (.int .i64 wt) ∧ w'.cell? ⟨w.heap.size, 4, none⟩ = some (.bool ex))
    (first
      | go_keep
      | (refine ⟨?_, ?_, ?_, ?_⟩ <;> with_reducible assumption))
    ((first
      | (go_at_call 8
         refine (awake_any _).mono ?_
         rintro e w1 ⟨rfl, b1'⟩
         have b1 : Below w0.heap.size w0 w1 := ⟨b1'.os, b1'.tape, b1'.output, b1'.size, b1'.block⟩
         have z1 := z0.below b1 z0.lt
         have t1 := t0.trans (b1.mono t0.size)
         have d11 := Blk.cell z1 1
         have d12 := Blk.cell z1 2
         have d13 := Blk.cell z1 3
         have d14 := Blk.cell z1 4
         simp at d11 d12 d13 d14)
      | (go_at_call 9
         refine (insert_nil id ⟨on, wt, ex⟩ _).mono ?_
         rintro e w2 ⟨rfl, b2'⟩
         have b2 : Below w1.heap.size w1 w2 := ⟨b2'.os, b2'.tape, b2'.output, b2'.size, b2'.block⟩
         have z2 := z1.below b2 z1.lt
         have t2 := t1.trans (b2.mono t1.size)
         have d21 := Blk.cell z2 1
         have d22 := Blk.cell z2 2
         have d23 := Blk.cell z2 3
         have d24 := Blk.cell z2 4
         simp at d21 d22 d23 d24)
      | (go_at_call 16
         refine (move_nil id ⟨on, wt, ex⟩ _).mono ?_
         rintro e w3 ⟨rfl, b3'⟩
         have b3 : Below w2.heap.size w2 w3 := ⟨b3'.os, b3'.tape, b3'.output, b3'.size, b3'.block⟩
         have z3 := z2.below b3 z2.lt
         have t3 := t2.trans (b3.mono t2.size)
         have d31 := Blk.cell z3 1
         have d32 := Blk.cell z3 2
         have d33 := Blk.cell z3 3
         have d34 := Blk.cell z3 4
         simp at d31 d32 d33 d34)
      | (go_at_call 10
         refine (remove_nil _ _).mono ?_
         rintro e wx ⟨rfl, rfl⟩)
      | (go_at_call 19
         refine (has_nil _ _).mono ?_
         rintro e wx ⟨rfl, rfl⟩)
      | (go_at_call 12
         refine (parent_nil _ _).mono ?_
         rintro e wx ⟨rfl, rfl⟩)
      | (go_at_call 11
         refine (weight_nil _ _).mono ?_
         rintro e wx ⟨rfl, rfl⟩)
      | (go_at_call 18
         refine (depth_nil _ _).mono ?_
         rintro e wx ⟨rfl, rfl⟩)
      | (go_at_call 13
         refine (len_nil _).mono ?_
         rintro e wx ⟨rfl, rfl⟩)
      | (go_at_call 20
         refine (kids_nil _ _).mono ?_
         rintro e w4 ⟨A4, c4, rfl, _, b4'⟩
         have b4 : Below w3.heap.size w3 w4 := ⟨b4'.os, b4'.tape, b4'.output, b4'.size, b4'.block⟩
         have z4 := z3.below b4 z3.lt
         have t4 := t3.trans (b4.mono t3.size)
         have d41 := Blk.cell z4 1
         have d42 := Blk.cell z4 2
         have d43 := Blk.cell z4 3
         have d44 := Blk.cell z4 4
         simp at d41 d42 d43 d44
         rw [show ([] : List Int).length = 0 from rfl])
      | (go_at_call 17
         refine (order_nil _).mono ?_
         rintro e w5 ⟨A5, c5, rfl, _, b5'⟩
         have b5 : Below w4.heap.size w4 w5 := ⟨b5'.os, b5'.tape, b5'.output, b5'.size, b5'.block⟩
         have z5 := z4.below b5 z4.lt
         have t5 := t4.trans (b5.mono t4.size)
         have d51 := Blk.cell z5 1
         have d52 := Blk.cell z5 2
         have d53 := Blk.cell z5 3
         have d54 := Blk.cell z5 4
         simp at d51 d52 d53 d54
         rw [show ([] : List Int).length = 0 from rfl])))
  go_wp2_with fail
  go_ret
  exact ⟨rfl, t5⟩

theorem own : ownKnob Try.prog.godebug = none := by kernel_rfl

set_option maxRecDepth 100000 in
theorem lifted (os : Os) (started : os.Started) (H : Type) (enc : TypeId × Value → H) :
    ReturnsInHanded {} Try.checked os 6 .any (Rows.treeNoneSpec.pre6 enc Try.prog Try.f6 Rows.treeNoneRow.domain false) (Rows.treeNoneSpec.post enc Try.prog Try.f6 false true false false) := by
  refine returnsInHanded_of_change (C := Try.checked) own started (by kernel_rfl) Try.func6
    (ChangeSpec.witness6 (enc := enc) (C := Try.checked) false ⟨#[], #[.agg #[.int .i64 0, .int .i64 0, .int .i64 0, .int .i64 0, .bool false]], []⟩ 8 (by kernel_rfl) (by kernel_rfl) (by kernel_rfl) (by kernel_rfl)) ?_
  intro W base args ds gs before hval0 hW hcnd _
  have hval : ∀ (j : Nat) t v, Try.f6.params[j]? = some t → args[j]? = some v → Value.okWide Try.prog W .any base t v := hval0
  have hW' := hW
  obtain ⟨p, q, hA0, hV, rfl, hfz, hnd⟩ := hW
  have hA : DataW.TrodAll enc Try.prog W 0 (fun _ => true) true Try.f6.params.toList args.toList ds p := hA0
  rw [Try.params6] at hA hval
  obtain ⟨v0, vs0, d0, ds0, p0, q0, hargs, rfl, rfl, h0, r0⟩ := trodAll_cons hA
  obtain ⟨rfl, rfl, rfl⟩ := trodAll_nil r0
  obtain rfl : args = #[v0] := by cases args; simp_all
  obtain ⟨rfl, rfl⟩ := trodVars_none hV
  have g0 := h0
  have k0 := open_ac Try.underlying42 Try.underlying30 Try.underlying3 Try.underlying4 (by kernel_rfl) (by kernel_rfl) (by kernel_rfl) (by kernel_rfl) rfl rfl rfl rfl rfl rfl rfl rfl rfl rfl rfl rfl (hval 0 42 v0 rfl rfl) h0
  clear hA0 hval0
  have hlt : ∀ x ∈ (p0 ++ []), x.block < W.heap.size := fun x hx => hW'.lt x (by simpa using hx)
  refine (walk W v0 k0).mono fun e W' ⟨he, hb⟩ => ?_
  subst he
  refine ⟨_, rfl, post_of_below (pa := (p0 ++ [])) (pv := []) hW' (fun _ _ _ => (trodAll_cons_mk (shut_bool Try.underlying4 _) trodAll_mk0)) (fun sp hsp => ?_) (fun _ _ => rfl) (by simp) hb (ok_one (by kernel_rfl) rfl (okWide_bool_mk Try.underlying4 _))⟩
  exact trodAll_cons_mk (below_trod sp (by kernel_rfl) (by kernel_rfl) (of_decide_eq_true (by kernel_rfl)) g0 hb (fun x hx => hlt x (by simp [hx])) (fun x hx => hsp x (by simp [hx])))
    (trodAll_mk0)

theorem over : Rows.treeNoneRow.holds Try.pinned (OpenSpec.ofChange Rows.treeNoneSpec) :=
  OpenClaim.holds_of_wide 6 Try.f6 rfl rfl rfl rfl rfl rfl rfl ⟨rfl, rfl, rfl, rfl, rfl⟩ rfl rfl rfl rfl rfl (by kernel_rfl) Try.func6 (by kernel_rfl)
    (of_decide_eq_true (by kernel_rfl)) (by unfold Func.isWrapper; rw [if_neg (by decide +kernel)]; exact ⟨rfl, rfl⟩)
    (fun os started H enc _ => lifted os started H enc)

theorem proved : Rows.TreeNoneSaid := over
#print axioms proved
end Go.Proofs.Ytifgbnjpiphidaa.TreeNone
