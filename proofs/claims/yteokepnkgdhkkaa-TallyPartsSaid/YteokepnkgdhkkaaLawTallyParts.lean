/- Proved: TallyParts answers true for every input, and leaves its arguments as they were; no condition. -/
import Derived.Test.YteokepnkgdhkkaaRows
import Derived.Test.YteokepnkgdhkkaaMem
import Derived.Test.YteokepnkgdhkkaaLift
import Derived.Test.YteokepnkgdhkkaaTalE
import Derived.Test.YteokepnkgdhkkaaTalP
import Derived.WalkKit
import Derived.ProofKit
import Derived.OpenShut
import Derived.Handy
import Derived.Deep.QuietTactic
import Derived.BigQuiet
import Derived.Deep.RegionWith
import Derived.WalkLawsBesides
import Derived.Deep.RegionHeld3
import Derived.Deep.Cut
import Derived.Test.YteokepnkgdhkkaaSeq
namespace Go.Proofs.Yteokepnkgdhkkaa.TallyParts
open Go.ChangeShapes Go.WideShapes Go.ChangeAt Go.RowKit Go.Deep
set_option linter.unusedVariables false

set_option maxRecDepth 100000 in
set_option maxHeartbeats 4000000 in
theorem walk (w : World) (v0 : Value) (n : Nat) (C : Nat → List Value) (h0 : RowsAt w v0 n 5 MvOk C) (a1 : Int) (u1 : (Lit.int .u8 a1).wf = true) :
    Calls Try.prog 5 #[v0, .int .u8 a1] w fun e w' => e = .returned (.bool true) ∧ Below w.heap.size w w' := by
  obtain ⟨A, c, L, rfl, hm, hwf⟩ := mvs_of_rows h0
  have HC := Lib.hid (cut_any w.heap.size n c A L w hm)
  have HW := Lib.hid hwf
  have ha1 : 0 ≤ a1 ∧ a1 ≤ 255 := by
    have e1 : IntKind.u8.min = 0 := by decide
    have e2 : IntKind.u8.max = 255 := by decide
    simp [Lit.wf, e1, e2] at u1
    omega
  obtain ⟨ha0, ha2⟩ := ha1
  clear h0 hm hwf u1
  go_enter Try.func5, Try.ntmps5
  go_wp2_with fail
  refine HC.out.mono ?_
  rintro e w1 ⟨m, rfl, hm, hm2, rfl⟩
  have HM := Lib.hid hm
  have hl := hm.len
  have hc := hm.cap_ge
  have hc2 := hm.cap_le
  have HWl : Hid (∀ a ∈ L.take 200, (Lit.int .i64 a.st).wf = true) := fun a ha => HW.out a (List.mem_of_mem_take ha)
  clear hm HW
  generalize L.take 200 = l at *
  have HL := Lib.hid hl
  clear hl
  obtain ⟨k, hk, hkm⟩ : ∃ k : Nat, a1.tmod ((m : Int) + 1) = k ∧ k ≤ m := by
    have h1 := Int.tmod_nonneg ((m : Int) + 1) ha0
    have h2 := Int.tmod_lt_of_pos a1 (show (0 : Int) < (m : Int) + 1 by omega)
    exact ⟨(a1.tmod ((m : Int) + 1)).toNat, by omega, by omega⟩
  have hw1 : IntKind.i64.wrap a1 = a1 := by rw [IntKind.wrap_i64]; omega
  have hne : ((m : Int) + 1 == 0) = false := by simp; omega
  go_upto_region 3 with fail
  clear hne hw1
  have HP := Lib.hid (And.intro (ofL_parts l k) (And.intro (ofL_parts' l k) (all_moves l)))
  have hU := fun W => run_upto Try.underlying22 (by kernel_rfl : (Try.prog.info? 45).map (·.size) = some 5) A m c k (by omega) W
  obtain ⟨X, hX1, hX2⟩ := run_fromR Try.underlying22 (by kernel_rfl : (Try.prog.info? 45).map (·.size) = some 5) A m c k hkm hc
  have hMb : Mvs w.drew w.heap.size X (m - k) (c - k) (l.drop k) := by
    have h := hX2 w w.heap.size _ HM.out.reads
    rw [mvs_drop] at h
    exact ⟨h, by rw [List.length_drop, HL.out], by omega, by omega⟩
  have hMa : Mvs w.drew w.heap.size A k c (l.take k) := by
    have h := HM.out.cut hkm (by omega) hc2
    exact ⟨h.reads, h.len, h.cap_ge, h.cap_le⟩
  have HMM := Lib.hid (And.intro hMa hMb)
  have HLa : Hid ((ofL (l.take k)).length ≤ k ∧ (ofL (l.drop k)).length ≤ m - k ∧ (ofL l).length ≤ m) := by
    have h1 := ofL_length (l.take k)
    have h2 := ofL_length (l.drop k)
    have h3 := ofL_length l
    rw [List.length_take] at h1
    rw [List.length_drop] at h2
    have h4 := HL.out
    exact ⟨by omega, by omega, by omega⟩
  have HBa : Hid ((∀ a ∈ ofL (l.take k), a.bd 219902325555200) ∧ (∀ a ∈ ofL (l.drop k), a.bd 219902325555200) ∧ (∀ a ∈ ofL l, a.bd 219902325555200)) := by
    have h4 := HL.out
    exact ⟨ofL_bd200 _ (by rw [List.length_take]; omega), ofL_bd200 _ (by rw [List.length_drop]; omega), ofL_bd200 _ (by omega)⟩
  have HWa : Hid ((∀ a ∈ ofL (l.take k), (Lit.int .i64 a.st).wf = true) ∧ (∀ a ∈ ofL (l.drop k), (Lit.int .i64 a.st).wf = true)) :=
    ⟨ofL_wf _ (fun x hx => HWl.out x (List.mem_of_mem_take hx)), ofL_wf _ (fun x hx => HWl.out x (List.mem_of_mem_drop hx))⟩
  clear hX2 hMa hMb
  refine wp_region_seq (fun _ => True) [(true, 0), (true, 1), (true, 2), (true, 4), (true, 5), (true, 6), (false, 3), (false, 7), (true, 8), (true, 9)] default (by kernel_rfl) (by kernel_rfl) (fun d _ _ _ _ h => by cases d <;> exact h) trivial ?_
  simp only [List.map_cons, List.map_nil, List.getD_cons_succ, List.getD_cons_zero]
  iterate 6
    (refine heldS_take ?_ ?_ ?_
     rotate_left
     · intro w' _
       go_simp
       try with_reducible rfl
     try simp only [Act.put, List.setIfInBounds_toArray, List.set_cons_zero, List.set_cons_succ])
  refine heldS_move (fun K hK => ?_)
  go_simp
  refine (of_any w.heap.size k c A (l.take k) _ HMM.out.1 (Nat.le_refl _) (by omega) (fun x hx => HWl.out x (List.mem_of_mem_take hx))).mono ?_
  rintro e w3 ⟨A3, c3, rfl, h3, b3'⟩
  have b3 : Below w.heap.size w w3 := ⟨b3'.os, b3'.tape, b3'.output, b3'.size, b3'.block⟩
  have H3 := Lib.hid (And.intro h3 (And.intro b3 (And.intro (HMM.out.2.below b3') (HM.out.below b3))))
  clear h3 b3 b3'
  refine hK.out _ _ trivial (fun _ => ?_)
  clear hK K
  try simp only [Act.put, List.setIfInBounds_toArray, List.set_cons_zero, List.set_cons_succ]
  refine heldS_move (fun K hK => ?_)
  go_simp
  refine (of_any w.heap.size (m - k) (c - k) X (l.drop k) w3 H3.out.2.2.1 H3.out.2.1.size (by omega) (fun x hx => HWl.out x (List.mem_of_mem_drop hx))).mono ?_
  rintro e w4 ⟨A4, c4, rfl, h4, b4⟩
  have H4 := Lib.hid (And.intro h4 (And.intro (H3.out.1.below b4) (And.intro (H3.out.2.1.trans (b4.mono H3.out.2.1.size)) (And.intro (H3.out.2.2.2.below (b4.mono H3.out.2.1.size)) b4.size))))
  clear h4 b4
  refine hK.out _ _ trivial (fun _ => ?_)
  clear hK K
  try simp only [Act.put, List.setIfInBounds_toArray, List.set_cons_zero, List.set_cons_succ]
  iterate 2
    (refine heldS_take ?_ ?_ ?_
     rotate_left
     · intro w' _
       go_simp
       try with_reducible rfl
     try simp only [Act.put, List.setIfInBounds_toArray, List.set_cons_zero, List.set_cons_succ])
  refine heldS_done ?_
  have hla := HLa.out.1
  have hlb := HLa.out.2.1
  have hlc := HLa.out.2.2
  have hs4 := H4.out.2.2.2.2
  go_wp2_with fail
  refine (of_any w.heap.size m c A l w4 H4.out.2.2.2.1 H4.out.2.2.1.size (by omega) HWl.out).mono ?_
  rintro e w5 ⟨A5, c5, rfl, h5, b5⟩
  have H5 := Lib.hid (And.intro (H4.out.2.1.below (b5.mono hs4)) (And.intro (H4.out.1.below b5) (And.intro h5 (And.intro (H4.out.2.2.1.trans (b5.mono H4.out.2.2.1.size)) b5.size))))
  have hs5 := b5.size
  clear h5 b5 H4 H3
  go_wp2_with fail
  refine (all_any _ _ _ _ (ofL l) w5 H5.out.2.2.1 (Nat.le_refl _) (by omega) 219902325555200 (by omega) HBa.out.2.2 (by omega)).mono ?_
  rintro e w6 ⟨rfl, b6⟩
  have hs6 := b6.size
  have H6 := Lib.hid (And.intro (H5.out.1.below (b6.mono (by omega))) (And.intro (H5.out.2.1.below (b6.mono hs5)) (And.intro (H5.out.2.2.1.below b6) (H5.out.2.2.2.1.trans (b6.mono H5.out.2.2.2.1.size)))))
  have hv := HP.out.2.2
  rw [HL.out] at hv
  clear b6 H5
  generalize allL (ofL l) = V at *
  obtain ⟨v0, v1, v2, v3, v4, v5, v6, v7⟩ := V
  obtain rfl : v3 = (m : Int) := hv
  unfold sa
  go_upto_region 6 with fail
  have k1 := H6.out.1.alloc (by omega) (.cells #[.int .i64 v0, .int .i64 v1, .int .i64 v2, .int .i64 m, .bool v4, .bool v5, .int .i64 v6, .int .i64 v7] 33)
  have k2 := H6.out.2.1.alloc (by omega) (.cells #[.int .i64 v0, .int .i64 v1, .int .i64 v2, .int .i64 m, .bool v4, .bool v5, .int .i64 v6, .int .i64 v7] 33)
  have k3 := H6.out.2.2.1.alloc (by omega) (.cells #[.int .i64 v0, .int .i64 v1, .int .i64 v2, .int .i64 m, .bool v4, .bool v5, .int .i64 v6, .int .i64 v7] 33)
  have k4 := H6.out.2.2.2.alloc H6.out.2.2.2.size (.cells #[.int .i64 v0, .int .i64 v1, .int .i64 v2, .int .i64 m, .bool v4, .bool v5, .int .i64 v6, .int .i64 v7] 33)
  have k5 := Blk.new w6 33 #[.int .i64 v0, .int .i64 v1, .int .i64 v2, .int .i64 m, .bool v4, .bool v5, .int .i64 v6, .int .i64 v7]
  have hs7 : (w6.alloc (.cells #[.int .i64 v0, .int .i64 v1, .int .i64 v2, .int .i64 m, .bool v4, .bool v5, .int .i64 v6, .int .i64 v7] 33)).heap.size = w6.heap.size + 1 := by simp
  have H7 := Lib.hid (And.intro k1 (And.intro k2 (And.intro k3 (And.intro k4 k5))))
  clear k1 k2 k3 k4 k5 H6
  generalize w6.alloc (.cells #[.int .i64 v0, .int .i64 v1, .int .i64 v2, .int .i64 m, .bool v4, .bool v5, .int .i64 v6, .int .i64 v7] 33) = w7 at *
  go_wp2_with (first
    | (go_at_call 8
       refine (awake_any _).mono ?_
       rintro e w8 ⟨rfl, b8⟩
       have hs8 := b8.size
       have H8 := Lib.hid (And.intro (H7.out.1.below (b8.mono (by omega))) (And.intro (H7.out.2.1.below (b8.mono (by omega))) (And.intro (H7.out.2.2.1.below (b8.mono (by omega))) (And.intro (H7.out.2.2.2.1.trans (b8.mono H7.out.2.2.2.1.size)) (H7.out.2.2.2.2.below b8 (by omega))))))
       clear b8 H7)
    | (go_at_call_of 16 (Value.slice A3 (ofL (l.take k)).length c3)
       refine (add_sums _ _ c3 _ _ c4 A3 A4 _ _ w8 H8.out.1 (by omega) H8.out.2.1 (by omega) (by omega) (by omega) 219902325555200 (by omega) (by omega) HBa.out.1 HBa.out.2.1 HWa.out.1 HWa.out.2).mono ?_
       rw [HP.out.1]
       rintro e w9 ⟨A9, c9, rfl, h9, b9⟩
       have hs9 := b9.size
       have H9 := Lib.hid (And.intro (H8.out.1.below (b9.mono (by omega))) (And.intro (H8.out.2.1.below (b9.mono (by omega))) (And.intro (H8.out.2.2.1.below (b9.mono (by omega))) (And.intro (H8.out.2.2.2.1.trans (b9.mono H8.out.2.2.2.1.size)) (And.intro (H8.out.2.2.2.2.below b9 (by omega)) h9)))))
       clear b9 h9 H8)
    | (go_at_call_of 9 (Value.slice A9 (ofL l).length c9)
       refine (same_any _ _ _ _ _ _ _ _ (ofL l) w9 H9.out.2.2.2.2.2 H9.out.2.2.1 (by omega)).mono ?_
       rintro e wx ⟨rfl, q, rfl⟩
       have H10 : Hid (Sms (w9.drewN q) w3.heap.size A3 (ofL (l.take k)).length c3 (ofL (l.take k)) ∧ Sms (w9.drewN q) w4.heap.size A4 (ofL (l.drop k)).length c4 (ofL (l.drop k)) ∧ Sms (w9.drewN q) w5.heap.size A5 (ofL l).length c5 (ofL l) ∧ Below w.heap.size w (w9.drewN q) ∧ Blk (w9.drewN q) w6.heap.size 33 #[.int .i64 v0, .int .i64 v1, .int .i64 v2, .int .i64 m, .bool v4, .bool v5, .int .i64 v6, .int .i64 v7] ∧ (w9.drewN q).heap.size = w9.heap.size) := ⟨H9.out.1.drewN q, H9.out.2.1.drewN q, H9.out.2.2.1.drewN q, below_drewN H9.out.2.2.2.1 q, H9.out.2.2.2.2.1, rfl⟩
       have hs10 := H10.out.2.2.2.2.2
       clear H9
       generalize w9.drewN q = w10 at *)
    | (go_at_call_of 16 (Value.slice A4 (ofL (l.drop k)).length c4)
       refine (add_sums _ _ c4 _ _ c3 A4 A3 _ _ w10 H10.out.2.1 (by omega) H10.out.1 (by omega) (by omega) (by omega) 219902325555200 (by omega) (by omega) HBa.out.2.1 HBa.out.1 HWa.out.2 HWa.out.1).mono ?_
       rw [HP.out.2.1]
       rintro e w11 ⟨A11, c11, rfl, h11, b11⟩
       have hs11 := b11.size
       have H11 := Lib.hid (And.intro (H10.out.2.2.1.below (b11.mono (by omega))) (And.intro (H10.out.2.2.2.1.trans (b11.mono H10.out.2.2.2.1.size)) (And.intro (H10.out.2.2.2.2.1.below b11 (by omega)) h11)))
       clear b11 h11 H10)
    | (go_at_call 9
       refine (same_any _ _ _ _ _ _ _ _ (ofL l) w11 H11.out.2.2.2 H11.out.1 (by omega)).mono ?_
       rintro e wy ⟨rfl, q2, rfl⟩
       have e3 : (w11.drewN q2).cell? ⟨w6.heap.size, 3, none⟩ = some (.int .i64 m) := Blk.cell H11.out.2.2.1 3
       have H12 := Lib.hid (below_drewN H11.out.2.1 q2)
       generalize w11.drewN q2 = w12 at *))
  go_ret
  exact ⟨rfl, H12.out⟩

theorem own : ownKnob Try.prog.godebug = none := by kernel_rfl

set_option maxRecDepth 100000 in
theorem lifted (os : Os) (started : os.Started) (H : Type) (enc : TypeId × Value → H) :
    ReturnsInHanded {} Try.checked os 5 .any (Rows.tallyPartsSpec.pre6 enc Try.prog Try.f5 Rows.tallyPartsRow.domain false) (Rows.tallyPartsSpec.post enc Try.prog Try.f5 false true false false) := by
  refine returnsInHanded_of_change (C := Try.checked) own started (by kernel_rfl) Try.func5
    (ChangeSpec.witness6 (enc := enc) (C := Try.checked) false ⟨#[], #[.slice none 0 0, .int .u8 0], []⟩ 8 (by kernel_rfl) (by kernel_rfl) (by kernel_rfl) (by kernel_rfl)) ?_
  intro W base args ds gs before hval0 hW hcnd _
  have hval : ∀ (j : Nat) t v, Try.f5.params[j]? = some t → args[j]? = some v → Value.okWide Try.prog W .any base t v := hval0
  have hW' := hW
  obtain ⟨p, q, hA0, hV, rfl, hfz, hnd⟩ := hW
  have hA : DataW.TrodAll enc Try.prog W 0 (fun _ => true) true Try.f5.params.toList args.toList ds p := hA0
  rw [Try.params5] at hA hval
  obtain ⟨v0, vs0, d0, ds0, p0, q0, hargs, rfl, rfl, h0, r0⟩ := trodAll_cons hA
  obtain ⟨v1, vs1, d1, ds1, p1, q1, rfl, rfl, rfl, h1, r1⟩ := trodAll_cons r0
  obtain ⟨rfl, rfl, rfl⟩ := trodAll_nil r1
  obtain rfl : args = #[v0, v1] := by cases args; simp_all
  obtain ⟨rfl, rfl⟩ := trodVars_none hV
  have g0 := h0
  have g1 := h1
  obtain ⟨n0, C0, k0⟩ := open_rows Try.underlying22 (by kernel_rfl) (by decide) (mv_of Try.underlying45 Try.underlying3 Try.underlying9 Try.underlying4 (by kernel_rfl) (by kernel_rfl) (by kernel_rfl) rfl rfl rfl rfl rfl rfl rfl rfl rfl rfl) (hval 0 22 v0 rfl rfl) h0
  obtain ⟨a1, rfl, _, _, w1⟩ := open_int Try.underlying5 (hval 1 5 v1 rfl rfl) h1
  clear hA0 hval0
  have hlt : ∀ x ∈ (p0 ++ (p1 ++ [])), x.block < W.heap.size := fun x hx => hW'.lt x (by simpa using hx)
  refine (walk W v0 n0 C0 k0 a1 w1).mono fun e W' ⟨he, hb⟩ => ?_
  subst he
  refine ⟨_, rfl, post_of_below (pa := (p0 ++ (p1 ++ []))) (pv := []) hW' (fun _ _ _ => (trodAll_cons_mk (shut_bool Try.underlying4 _) trodAll_mk0)) (fun sp hsp => ?_) (fun _ _ => rfl) (by simp) hb (ok_one (by kernel_rfl) rfl (okWide_bool_mk Try.underlying4 _))⟩
  exact trodAll_cons_mk (below_trod sp (by kernel_rfl) (by kernel_rfl) (of_decide_eq_true (by kernel_rfl)) g0 hb (fun x hx => hlt x (by simp [hx])) (fun x hx => hsp x (by simp [hx])))
    (trodAll_cons_mk (below_trod sp (by kernel_rfl) (by kernel_rfl) (of_decide_eq_true (by kernel_rfl)) g1 hb (fun x hx => hlt x (by simp [hx])) (fun x hx => hsp x (by simp [hx])))
    (trodAll_mk0))

theorem over : Rows.tallyPartsRow.holds Try.pinned (OpenSpec.ofChange Rows.tallyPartsSpec) :=
  OpenClaim.holds_of_wide 5 Try.f5 rfl rfl rfl rfl rfl rfl rfl ⟨rfl, rfl, rfl, rfl, rfl⟩ rfl rfl rfl rfl rfl (by kernel_rfl) Try.func5 (by kernel_rfl)
    (of_decide_eq_true (by kernel_rfl)) (by unfold Func.isWrapper; rw [if_neg (by decide +kernel)]; exact ⟨rfl, rfl⟩)
    (fun os started H enc _ => lifted os started H enc)

theorem proved : Rows.TallyPartsSaid := over
#print axioms proved
end Go.Proofs.Yteokepnkgdhkkaa.TallyParts
