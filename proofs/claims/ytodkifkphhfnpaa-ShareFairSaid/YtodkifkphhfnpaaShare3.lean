/- The walks of package share: all rounds. -/
import Derived.Test.YtodkifkphhfnpaaRows
import Derived.WalkKit
import Derived.ProofKit
import Derived.Handy
import Derived.Test.YtodkifkphhfnpaaMem
import Derived.Test.YtodkifkphhfnpaaLift
import Derived.Test.YtodkifkphhfnpaaApp
import Derived.Test.YtodkifkphhfnpaaReads
import Derived.Test.YtodkifkphhfnpaaOrd
import Derived.Test.YtodkifkphhfnpaaShLaw
import Derived.Test.YtodkifkphhfnpaaShare
import Derived.Test.YtodkifkphhfnpaaShare2
import Derived.Deep.QuietTactic
import Derived.BigQuiet
import Derived.Deep.RegionWith
import Derived.Deep.RegionHeld3
import Derived.Deep.AppendLies
import Derived.WalkLawsBesides
import Derived.WalkSmall
import Derived.ChangeKeysEq
import Derived.Laws.StructEq
namespace Go.Proofs.Ytodkifkphhfnpaa
open Go.RowKit
set_option linter.unusedVariables false
set_option linter.unusedSimpArgs false



theorem run_equalIn_pair {P : Program} (w : World) (d : Nat) (t e : TypeId) (x y a b : Int) (ht : P.underlying t = some (.array 2 e)) (he : P.underlying e = some (.int .i64)) (hz : ∀ w, (Go.sizeOf e).run P w = .ok 1 w) (hc : P.plainKey e = true) :
    (Op.equalIn (d + 2) t (.agg #[.int .i64 x, .int .i64 y]) (.agg #[.int .i64 a, .int .i64 b])).run P w = .ok (x == a && y == b) w := by
  have h1 := fun p q w => run_equalIn_int (P := P) w d e .i64 .i64 p q he
  have hp0 : ∀ (p q : Int) (w : World), (part e #[.int .i64 p, .int .i64 q] 0).run P w = .ok (.int .i64 p) w := fun p q w => run_part_plain w hc rfl
  have hp1 : ∀ (p q : Int) (w : World), (part e #[.int .i64 p, .int .i64 q] 1).run P w = .ok (.int .i64 q) w := fun p q w => run_part_plain w hc rfl
  unfold Op.equalIn
  simp only [Sem.run_bind, run_underlying ht, Result.andThen_ok, hz]
  simp [Std.Legacy.Range.forIn_eq_forIn_range', Std.Legacy.Range.size, List.range', hp0, hp1, h1, Sem.run_bind]
  by_cases e1 : x = a
  · by_cases e2 : y = b
    · simp [e1, e2, hp0, hp1, h1]
    · simp [e1, e2, hp0, hp1, h1]
  · simp [e1, hp0, hp1, h1]
theorem run_eql_pair {P : Program} (w : World) (t e : TypeId) (x y a b : Int) (ht : P.underlying t = some (.array 2 e)) (he : P.underlying e = some (.int .i64)) (hz : ∀ w, (Go.sizeOf e).run P w = .ok 1 w) (hc : P.plainKey e = true) :
    (binOp .eql t (.agg #[.int .i64 x, .int .i64 y]) (.agg #[.int .i64 a, .int .i64 b])).run P w = .ok (.bool (x == a && y == b)) w := by
  rw [run_eql_struct, run_equalIn_pair w 9998 t e x y a b ht he hz hc]
  rfl

open SH in
theorem uw_eq (D : SH.Deal) (h : Nat → Int) : sumF (uw (fun j => D.want j - h j) D.wt) D.n = D.all h :=
  sumF_congr D.n (fun j _ => by
    simp only [uw, Deal.uw]
    by_cases hj : h j < D.want j
    · rw [if_pos (by omega), if_pos hj]
    · rw [if_neg (by omega), if_neg hj])
theorem gv_eq (D : SH.Deal) (h : Nat → Int) (j : Nat) : gv (fun j => D.want j - h j) D.wt (D.left h) (D.all h) j = D.got h j := by
  simp only [gv, SH.Deal.got, SH.Deal.part]
  by_cases hj : h j < D.want j
  · rw [if_pos (by omega), if_pos hj]
  · rw [if_neg (by omega), if_neg hj]
theorem onl_eq (D : SH.Deal) (h : Nat → Int) : ∀ i, onl (fun j => D.want j - h j) (D.left h) i = D.ol h i
  | 0 => rfl
  | i + 1 => by
    simp only [onl, SH.Deal.ol, onl_eq D h i]
    by_cases hj : 0 < D.ol h i ∧ h i < D.want i
    · rw [if_pos ⟨hj.1, by omega⟩, if_pos hj]
    · rw [if_neg (fun hh => hj ⟨hh.1, by omega⟩), if_neg hj]
theorem ov_eq (D : SH.Deal) (h : Nat → Int) (j : Nat) : h j + ov (fun j => D.want j - h j) (D.left h) j = D.ones h j := by
  simp only [ov, SH.Deal.ones, onl_eq]
  by_cases hj : 0 < D.ol h j ∧ h j < D.want j
  · rw [if_pos ⟨hj.1, by omega⟩, if_pos hj]
  · rw [if_neg (fun hh => hj ⟨hh.1, by omega⟩), if_neg hj]; omega

/-- The bounds. -/
structure Fits (D : SH.Deal) : Prop where
  ok : D.Ok
  W1 : D.W ≤ 2147483647
  want1 : ∀ j, j < D.n → D.want j ≤ 2147483647
  wt1 : ∀ j, j < D.n → D.wt j ≤ 256
def Dealt (w : World) (d : DL) (D : SH.Deal) (h : Nat → Int) : Prop := DealAt w d (fun j => D.want j - h j) D.wt h (D.left h)
def Doned (w : World) (d : DL) (D : SH.Deal) (e : Ending) (w' : World) : Prop :=
  e = .returned (.pointer (some ⟨d.g, 0, none⟩)) ∧ ∃ h, D.End h ∧ Dealt w' d D h ∧ Only [d.g, d.gw, d.gh] w w'

set_option maxHeartbeats 4000000 in
theorem done_any (d : DL) (D : SH.Deal) (F : Fits D) (w : World) (hn : d.n = D.n) (k : Dealt w d D (D.it 0)) :
    Calls Try.prog 16 #[.pointer (some ⟨d.g, 0, none⟩)] w (Doned w d D) := by
  have hL := fun (W : World) (h : Nat → Int) (k : Dealt W d D h) => look_any d _ _ _ _ W k (fun j hj => ⟨F.ok.wt0 j (by omega), F.wt1 j (by omega)⟩)
  simp only [hn, uw_eq] at hL
  have HL := Lib.hid hL
  have HF := Lib.hid F
  have K := Lib.hid k
  have hg := Blk.lt k.blk
  clear F hL k
  go_enter Try.func16, Try.ntmps16
  go_wp2_with fail
  go_step3
  go_wp2_with fail
  go_step3
  go_wp2_with fail
  go_loopw [] (fun wr => ∃ (k : Nat), D.At k ∧ Dealt wr d D (D.it k) ∧ Only [d.g, d.gw, d.gh] w wr) (fun wr => (intOf ((wr.cell? ⟨d.g, 3, none⟩).getD (.int .i64 0))).toNat)
  case atStart => exact ⟨0, fun j hj => absurd hj (by omega), K.out, Only.refl _ w⟩
  case round =>
    obtain ⟨k, hA, rk, ro⟩ := hrel
    have I := SH.Deal.At.inv HF.out.ok hA
    have hlw : d.g < w.heap.size := hg
    have RO := Lib.hid ro
    have RK := Lib.hid rk
    have hgr := Blk.lt rk.blk
    have hsz := ro.size
    have hl0 := I.left0
    have hl1 : D.left (D.it k) ≤ 2147483647 := by
      have h1 := SH.sumF_nonneg (f := D.it k) D.n I.lo
      have := HF.out.W1
      unfold SH.Deal.left; omega
    have ha0 := HF.out.ok.all0 (h := D.it k)
    clear rk ro
    go_wp2_with fail
    refine (HL.out _ _ RK.out).mono ?_
    rintro e w1 ⟨rfl, b1⟩
    have RK1 := RK.out.below b1
    have RO1 : Only [d.g, d.gw, d.gh] w w1 := RO.out.trans_ (Only.of_below b1)
    by_cases hs : D.stop (D.it k)
    · have fin : Doned w d D (.returned (.pointer (some ⟨d.g, 0, none⟩))) (w1.alloc (.cells #[.int .i64 (D.left (D.it k)), .int .i64 (D.all (D.it k))] 48)) :=
        ⟨rfl, D.it k, ⟨k, hA, hs, rfl⟩, RK1.alloc _, RO1.alloc _⟩
      have FIN := Lib.hid fin
      clear fin RK1 RO1
      rcases hs with hs | hs
      · rw [hs] at FIN ⊢
        go_wp2_with fail
        go_ret
        exact FIN.out
      · by_cases hs0 : D.left (D.it k) = 0
        · rw [hs0] at FIN ⊢
          rw [hs] at FIN ⊢
          go_wp2_with fail
          go_ret
          exact FIN.out
        · have e0 : (D.left (D.it k) == 0) = false := by simp [hs0]
          rw [hs] at FIN ⊢
          go_wp2_with fail
          go_ret
          exact FIN.out
    · have hs1 : ¬ D.left (D.it k) = 0 := fun h => hs (.inl h)
      have hs2 : ¬ D.all (D.it k) = 0 := fun h => hs (.inr h)
      have e1 : (D.left (D.it k) == 0) = false := by simp [hs1]
      have e2 : (D.all (D.it k) == 0) = false := by simp [hs2]
      have HS := Lib.hid hs
      have x1 := Blk.new w1 48 #[.int .i64 (D.left (D.it k)), .int .i64 (D.all (D.it k))]
      have RK2 := RK1.alloc (.cells #[.int .i64 (D.left (D.it k)), .int .i64 (D.all (D.it k))] 48)
      have RO2 := RO1.alloc (.cells #[.int .i64 (D.left (D.it k)), .int .i64 (D.all (D.it k))] 48)
      have hu := fun n => uw_bound (rem := fun j => D.want j - D.it k j) (wt := D.wt) (n := D.n) (fun j hj => ⟨HF.out.ok.wt0 j hj, HF.out.wt1 j hj⟩) n
      have hu' := hu D.n (Nat.le_refl _)
      rw [uw_eq] at hu'
      have hn256 := RK1.caps.2.2.2
      have hR := round_any d _ D.wt _ (D.left (D.it k)) (D.left (D.it k)) (D.all (D.it k)) _ RK2 (fun j hj => ⟨HF.out.ok.wt0 j (by omega), HF.out.wt1 j (by omega)⟩) hl0 hl1 (by omega) (by omega) hl1
        (fun j hj => by rw [gv_eq]; exact SH.Deal.got_nonneg HF.out.ok I (by omega))
        (fun j hj hj' => by
          rw [show gv (fun j => D.want j - D.it k j) D.wt (D.left (D.it k)) (D.all (D.it k)) = D.got (D.it k) from funext (gv_eq D (D.it k))]
          exact SH.Deal.pre_part HF.out.ok I hs2 (by omega) (by omega))
        (fun j hj => by have := I.lo j (by omega); have := I.hi j (by omega); have := HF.out.want1 j (by omega); omega)
        (fun j hj => by have := I.lo j (by omega); have := I.hi j (by omega); have := HF.out.want1 j (by omega); omega)
      have HRD := Lib.hid hR
      have HRO := Lib.hid RO2
      have hn0 : 0 < d.n := by
        rcases Nat.eq_zero_or_pos d.n with h | h
        · exfalso; apply hs2
          rw [hn] at h
          unfold SH.Deal.all; rw [h]; rfl
        · exact h
      have hnd : ¬ w1.heap.size ∈ [d.g, d.gw, d.gh] := by
        obtain ⟨_, _, _, _, _, _, j1, j2, j3⟩ := RK1.row hn0
        have := Blk.lt RK1.blk
        have := j1.lt
        have := j3.lt
        simp; omega
      clear hs RK1 RO1 RK2 RO2 hR hu
      go_wp2_with fail
      refine HRD.out.mono ?_
      rintro e w2 ⟨rfl, k2, o2⟩
      have k2' : Dealt w2 d D (D.next (D.it k)) := k2.congr (fun j _ => by rw [gv_eq]; simp only [SH.Deal.next]; omega) (fun j _ => by rw [gv_eq]; rfl) (by
        rw [hn, show gv (fun j => D.want j - D.it k j) D.wt (D.left (D.it k)) (D.all (D.it k)) = D.got (D.it k) from funext (gv_eq D (D.it k))]
        have := SH.Deal.next_sum (D := D) (h := D.it k)
        simp only [SH.Deal.left] at this ⊢; omega)
      have x2 := x1.only o2 hnd
      have O2 : Only [d.g, d.gw, d.gh] w w2 := HRO.out.trans_ o2
      clear k2 o2 x1
      have z0 := Blk.cell x2 0
      have z1 := Blk.cell x2 1
      simp at z0 z1
      have K2 := Lib.hid k2'
      have HO2 := Lib.hid O2
      have HX := Lib.hid x2
      clear k2' O2 x2
      go_wp2_with fail
      refine wp_region_ord (fun w' => w'.cell? ⟨w1.heap.size, 0, none⟩ = some (.int .i64 (D.left (D.it k))) ∧ w'.cell? ⟨w1.heap.size, 1, none⟩ = some (.int .i64 (D.all (D.it k)))) 3 [(true, 0), (true, 2), (false, 1)] default (by kernel_rfl) (by kernel_rfl) (fun d _ _ _ _ h => by cases d <;> exact h) ?_ ?_
      · exact ⟨z0, z1⟩
      simp only [List.map_cons, List.map_nil, List.getD_cons_succ, List.getD_cons_zero]
      repeat
        (refine heldL_take ?_ ?_ ?_
         rotate_left
         · intro w' hw'
           try dsimp only at hw'
           go_simp
           try with_reducible rfl
         try simp only [Act.put, List.setIfInBounds_toArray, List.set_cons_zero, List.set_cons_succ])
      refine heldL_move (fun K hK => ?_)
      go_simp
      refine (HL.out _ _ K2.out.drew).mono ?_
      rintro e w3 ⟨rfl, b3⟩
      have b3' : Below w2.heap.size w2 w3 := ⟨b3.os, b3.tape, b3.output, b3.size, b3.block⟩
      have k3 := DealAt.below K2.out b3'
      have o3 := HO2.out.trans_ (Only.of_below b3')
      have x3 := Blk.below HX.out b3' (Blk.lt HX.out)
      have z0 := Blk.cell x3 0
      have z1 := Blk.cell x3 1
      simp at z0 z1
      refine hK.out _ _ ?_ (fun hS => ?_)
      · exact ⟨z0, z1⟩
      clear hK K
      try simp only [Act.put, List.setIfInBounds_toArray, List.set_cons_zero, List.set_cons_succ]
      refine heldL_last (fun K hK => ?_)
      have hq := fun (x y a b : Int) (W : World) => run_eql_pair (P := Try.prog) W 48 3 x y a b Try.underlying48 Try.underlying3 (fun w => by simp [go_sem]) (by kernel_rfl)
      have hEG : Try.prog.eqGuardType Try.prog.depth 48 = false := by kernel_rfl
      go_simp
      refine hK _ _ ?_
      clear hK K hq hEG
      try simp only [Act.put, List.setIfInBounds_toArray, List.set_cons_zero, List.set_cons_succ]
      have hstep := SH.Deal.step_left HF.out.ok I HS.out
      have hA' := hA.succ HS.out
      have hcr := Blk.cell RK.out.blk 3
      simp at hcr
      by_cases he : SH.sumF (D.next (D.it k)) D.n = SH.sumF (D.it k) D.n
      · have hsame := SH.Deal.next_same HF.out.ok I he
        have hst : D.step (D.it k) = D.ones (D.it k) := by unfold SH.Deal.step; rw [if_pos he]
        have q1 : D.left (D.next (D.it k)) = D.left (D.it k) := by unfold SH.Deal.left; rw [he]
        have q2 : D.all (D.next (D.it k)) = D.all (D.it k) := SH.sumF_congr D.n (fun j hj => by unfold SH.Deal.uw; rw [hsame j hj])
        have k4 : Dealt w3 d D (D.it k) := k3.congr (fun j hj => by rw [hsame j (by omega)]) (fun j hj => hsame j (by omega)) q1
        rw [q1, q2, beq_self_eq_true, beq_self_eq_true, Bool.and_self]
        have hO := ones_any d _ D.wt _ _ w3 k4 hl0 hl1
          (fun j hj => by have := I.lo j (by omega); have := I.hi j (by omega); have := HF.out.want1 j (by omega); omega)
          (fun j hj => by have := I.lo j (by omega); have := I.hi j (by omega); have := HF.out.want1 j (by omega); omega)
        have HO := Lib.hid hO
        have O3 := Lib.hid o3
        clear hO o3 k4 k3 x3 z0 z1 hS
        go_wp2_with fail
        refine HO.out.mono ?_
        rintro e w5 ⟨rfl, k5, o5⟩
        have k5' : Dealt w5 d D (D.it (k + 1)) := by
          show Dealt w5 d D (D.step (D.it k))
          rw [hst]
          exact k5.congr (fun j _ => by rw [← ov_eq]; dsimp only; omega) (fun j _ => ov_eq D (D.it k) j) (by rw [hn, onl_eq, SH.Deal.ones_left])
        have hc5 := Blk.cell k5'.blk 3
        simp at hc5
        have K5 := Lib.hid k5'
        have O5 := Lib.hid (O3.out.trans_ o5)
        clear k5 k5' o5
        go_wp2_with fail
        go_roundw
        case rel => exact ⟨k + 1, hA', K5.out, O5.out⟩
        case measure =>
          have hstep' : D.left (D.it (k + 1)) < D.left (D.it k) := hstep
          simp only [hc5, hcr, Option.getD_some, intOf]
          have := (SH.Deal.At.inv HF.out.ok hA').left0
          omega
      · have hst : D.step (D.it k) = D.next (D.it k) := by unfold SH.Deal.step; rw [if_neg he]
        have q1 : (D.left (D.next (D.it k)) == D.left (D.it k)) = false := by
          simp only [beq_eq_false_iff_ne, ne_eq]
          intro hq
          apply he
          have hq1 : D.W - SH.sumF (D.next (D.it k)) D.n = D.W - SH.sumF (D.it k) D.n := hq
          omega
        rw [q1, Bool.false_and]
        have k5' : Dealt w3 d D (D.it (k + 1)) := by
          show Dealt w3 d D (D.step (D.it k))
          rw [hst]
          exact k3
        have hc5 := Blk.cell k5'.blk 3
        simp at hc5
        have K5 := Lib.hid k5'
        have O5 := Lib.hid o3
        clear k5' o3 k3 x3 z0 z1 hS
        go_wp2_with fail
        go_roundw
        case rel => exact ⟨k + 1, hA', K5.out, O5.out⟩
        case measure =>
          have hstep' : D.left (D.it (k + 1)) < D.left (D.it k) := hstep
          simp only [hc5, hcr, Option.getD_some, intOf]
          have := (SH.Deal.At.inv HF.out.ok hA').left0
          omega
end Go.Proofs.Ytodkifkphhfnpaa
