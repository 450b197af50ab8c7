/- The walks of tree's Depth, Remove. -/
import Derived.Test.YtifgbnjpiphidaaRows
import Derived.WalkKit
import Derived.ProofKit
import Derived.Handy
import Derived.Deep.QuietTactic
import Derived.BigQuiet
import Derived.Deep.RegionWith
import Derived.Deep.RegionHeld3
import Derived.Deep.AppendLies
import Derived.WalkLawsBesides
import Derived.WalkSmall
import Derived.Deep.Cut
import Derived.Test.YtifgbnjpiphidaaTreN
import Derived.Test.YtifgbnjpiphidaaTreP
namespace Go.Proofs.Ytifgbnjpiphidaa
open Go.RowKit
set_option linter.unusedVariables false
theorem depth_any (g b : Nat) (most : Int) (l : List Nd) (w : World) (k : Trs w g b most l) (r : Int → Nat) (hr : TreeOk l r) (x0 : Int) (hx0 : (Lit.int .i64 x0).wf = true) :
    Calls Try.prog 18 #[.pointer (some ⟨g, 0, none⟩), .int .i64 x0] w fun e w' => e = .returned (.int .i64 (dp l r x0)) ∧ Below w.heap.size w w' := by
  have HK := Lib.hid k
  have HR := Lib.hid hr
  have HW := Lib.hid hx0
  have HD := Lib.hid (Nat.le_trans (dp_le hr x0) k.few)
  clear k hr hx0
  go_enter Try.func18, Try.ntmps18
  go_wp2_with fail
  go_loopw [1, 5] (fun xv nv wr => ∃ (x : Int) (n : Nat), xv = .int .i64 x ∧ nv = .int .i64 n ∧ (Lit.int .i64 x).wf = true ∧ dp l r x0 = n + dp l r x ∧ Below w.heap.size w wr) (fun xv _ _ => r (intOf xv))
  case atStart => exact ⟨x0, 0, rfl, rfl, HW.out, by omega, Below.refl _ _⟩
  case round =>
    obtain ⟨x, n, rfl, rfl, hx, ha, hb⟩ := hrel
    have hn0 : (0 : Int) ≤ n := by omega
    have hn1 : (n : Int) ≤ 256 := by have := HD.out; omega
    have HB := Lib.hid (And.intro ha (And.intro hb (And.intro hx (HK.out.below hb))))
    clear ha hb hx
    go_wp2_with fail
    refine (has_any g b most l wr HB.out.2.2.2 x HB.out.2.2.1).mono ?_
    rintro e w1 ⟨rfl, b1⟩
    have H1 := Lib.hid (And.intro (HB.out.2.2.2.below b1) (HB.out.2.1.trans (b1.mono HB.out.2.1.size)))
    clear b1
    cases hg : getN l x with
    | none =>
      have HF : Hid (dp l r x0 = n) := by
        have h := HB.out.1
        rw [dp_none hg] at h
        exact h
      clear hg
      simp only [Option.isSome_none]
      go_wp2_with fail
      go_ret
      exact ⟨by rw [HF.out]; rfl, H1.out.2⟩
    | some p =>
      have hpm := getN_mem hg
      have hpn := HK.out.nd p hpm.1
      have HW2 := Lib.hid (wf31 hpn.2.1.1 hpn.2.1.2)
      have hlt := Lib.hid (rk_get HR.out.rk hg)
      have HF : Hid (dp l r x0 = (n + 1) + dp l r p.on) := by
        have h := HB.out.1
        rw [dp_some HR.out.rk hg] at h
        show dp l r x0 = (n + 1) + dp l r p.on
        omega
      have hl : (Instr.lookup 52 (.map (some b)) (.int .i64 x) false).run Try.prog w1 = .ok (.agg #[.int .i64 p.on, .int .i64 p.wt]) w1 := by
        have h := H1.out.1.map.look HB.out.2.2.1
        rw [hg] at h
        exact h
      have f0 := field0 w1 (.int .i64 p.on) (.int .i64 p.wt)
      have c1 := Blk.cell H1.out.1.blk 1
      simp at c1
      clear hg hpm hpn
      simp only [Option.isSome_some]
      go_wp2_with fail
      go_roundw
      case rel => exact ⟨p.on, n + 1, rfl, by go_num, HW2.out, HF.out, H1.out.2⟩
      case measure => simp only [intOf]; exact hlt.out
theorem share_any (t xo xw a : Int) (bx ba : Nat) (w : World) (h1 : w.cell? ⟨bx, 1, none⟩ = some (.int .i64 xw)) (h2 : w.cell? ⟨ba, 0, none⟩ = some (.int .i64 a)) (ht : 0 ≤ t ∧ t ≤ 256) (hx : 0 ≤ xw ∧ xw ≤ 256) (ha : 1 ≤ a ∧ a ≤ 100000) :
    Calls Try.prog 25 #[.int .i64 t, .pointer (some ⟨bx, 0, none⟩), .pointer (some ⟨ba, 0, none⟩)] w fun e w' => e = .returned (.int .i64 (shareI t xw a)) ∧ w = w' := by
  obtain ⟨P, hP⟩ : ∃ P, P = t * xw := ⟨_, rfl⟩
  have hP0 : 0 ≤ P := by rw [hP]; exact Int.mul_nonneg ht.1 hx.1
  have hP1 : P ≤ 256 * 256 := by
    rw [hP]
    exact Int.le_trans (Int.mul_le_mul_of_nonneg_right ht.2 hx.1) (Int.mul_le_mul_of_nonneg_left hx.2 (by omega))
  unfold shareI
  rw [← hP]
  have hw : IntKind.i64.wrap (t * xw) = P := by rw [← hP, IntKind.wrap_i64]; omega
  obtain ⟨ha1, ha2⟩ := ha
  clear ht hx hP
  go_enter Try.func25, Try.ntmps25
  go_wp2_with fail
  go_ret
  exact ⟨rfl, rfl⟩
theorem trs_strike (g b : Nat) (most : Int) (l : List Nd) (w : World) (k : Trs w g b most l) (i : Int) (hi : (Lit.int .i64 i).wf = true) {x : Nd} (hx : getN l i = some x) :
    ∃ w5, (Builtin.delete_ #[52, 3] 0 #[.map (some b), .int .i64 i]).run Try.prog w = .ok (.tuple #[]) w5 ∧ Trs w5 g b most (dropN l i) ∧ Only [b] w w5 := by
  obtain ⟨w5, hrun, hm5, hg5⟩ := k.map.strike hi 0
  refine ⟨w5, hrun, ⟨(hg5.block g k.lt.1 (by simp; exact k.ne)).trans k.blk, ?_, k.uq.drop i, ?_, fun q hq => k.nd q (List.mem_filter.1 hq).1, k.mst⟩, ⟨hg5.os, hg5.tape, hg5.output, hg5.size, fun q hq hn => hg5.block q hq (by simp at hn; simp; exact hn)⟩⟩
  · rw [length_drop k.uq hx]
    rw [hx] at hm5
    refine hm5.ext fun j => ?_
    rw [getN_drop]
    unfold upd
    split <;> rfl
  · rw [length_drop k.uq hx]
    have := k.few
    omega
section
variable (g b : Nat) (most : Int) (l : List Nd) (w : World) (k : Trs w g b most l) (i : Int) (hi : (Lit.int .i64 i).wf = true)
include k hi
theorem remove_none (hp : getN l i = none) : Calls Try.prog 10 #[.pointer (some ⟨g, 0, none⟩), .int .i64 i] w (TurnE w g b most 7 l) := by
  have HK := Lib.hid k
  have HP := Lib.hid hp
  clear k hp
  go_enter Try.func10, Try.ntmps10
  go_wp2_with fail
  refine (has_any g b most l w HK.out i hi).mono ?_
  rintro e w1 ⟨rfl, b1⟩
  rw [HP.out]
  have HF := Lib.hid (turned_same HK.out b1)
  clear b1
  simp only [Option.isSome_none]
  go_wp2_with fail
  go_ret
  exact ⟨rfl, HF.out⟩
set_option maxHeartbeats 4000000 in
theorem remove_ok (x : Nd) (hx : getN l i = some x) : Calls Try.prog 10 #[.pointer (some ⟨g, 0, none⟩), .int .i64 i] w (TurnE w g b most 0 (remL l i x)) := by
  have HK := Lib.hid k
  have HX := Lib.hid hx
  have HI := Lib.hid hi
  have hxn := k.nd x (getN_mem hx).1
  have hxo1 : 0 ≤ x.wt ∧ x.wt ≤ 256 := by have := hxn.2.2; omega
  have HXN := Lib.hid (And.intro hxn hxo1)
  have HREM : Hid (remL l i x = dropN (shareN l (kidsL l i) x (sumW l (kidsL l i))) i) := by
    show remL l i x = _
    rw [sumW_kids k.uq]
    rfl
  generalize remL l i x = LR at *
  clear k hx hi hxn hxo1
  go_enter Try.func10, Try.ntmps10
  go_wp2_with fail
  refine (has_any g b most l w HK.out i HI.out).mono ?_
  rintro e w1 ⟨rfl, b1⟩
  rw [HX.out]
  simp only [Option.isSome_some]
  have k1 := HK.out.below b1
  have hl : (Instr.lookup 52 (.map (some b)) (.int .i64 i) false).run Try.prog w1 = .ok (.agg #[.int .i64 x.on, .int .i64 x.wt]) w1 := by
    have h := k1.map.look HI.out
    rw [HX.out] at h
    exact h
  have c1 := Blk.cell k1.blk 1
  simp at c1
  have z1 := Blk.new w1 60 #[.int .i64 x.on, .int .i64 x.wt]
  have B1 := b1.alloc b1.size (.cells #[.int .i64 x.on, .int .i64 x.wt] 60)
  have k2 := k1.alloc (.cells #[.int .i64 x.on, .int .i64 x.wt] 60)
  have H1 := Lib.hid (And.intro k2 (And.intro z1 B1))
  have hw1 := b1.size
  clear k1 z1 B1 k2 b1
  go_wp2_with fail
  refine (kids_own g b most l _ H1.out.1 i).mono ?_
  rintro e w3 ⟨A, c, rfl, ho, b3⟩
  obtain ⟨bX, hbX⟩ : ∃ bX, bX = w1.heap.size := ⟨_, rfl⟩
  have z3 := H1.out.2.1.below b3 H1.out.2.1.lt
  rw [← hbX] at z3 ⊢
  have hbXw : w.heap.size ≤ bX := by omega
  have H2 := Lib.hid (And.intro (H1.out.1.below b3) (And.intro z3 (And.intro (H1.out.2.2.trans (b3.mono H1.out.2.2.size)) (Held.of_own ho))))
  clear hbX z3 ho b3 H1 hl c1 hw1 w1
  have hc := H2.out.2.2.2.2.1
  have hkl := kids_length l i
  have hfew := HK.out.few
  have hlt := HK.out.lt
  have HKD := Lib.hid (kids_nodup HK.out.uq i)
  have HMK : Hid (∀ q ∈ kidsL l i, ∃ p, getN l q = some p ∧ p.id = q ∧ p.on = i ∧ Ndok p) := fun q hq => by
    obtain ⟨p, hp, h1, h2⟩ := mem_kids.1 hq
    have e := getN_of_mem HK.out.uq hp
    rw [h2] at e
    exact ⟨p, e, h2, h1, HK.out.nd p hp⟩
  generalize kidsL l i = ks at *
  obtain ⟨bA, hbA⟩ : ∃ bA, bA = w3.heap.size := ⟨_, rfl⟩
  have z4 := Blk.new w3 3 #[.int .i64 0]
  have hg3 := H2.out.1.lt
  have H3 := Lib.hid (And.intro hbA (And.intro z4 ((Below.refl w3.heap.size w3).alloc (Nat.le_refl _) (.cells #[.int .i64 0] 3))))
  clear z4
  go_wp2_with fail
  rw [← hbA]
  clear hbA
  go_loopw [32] (fun iv wr => ∃ (j : Nat) (s : Int), j ≤ ks.length ∧ iv = .int .i64 j ∧ s = sumW l (ks.take j) ∧ (j : Int) ≤ s ∧ s ≤ 256 * j ∧ Blk wr bA 3 #[.int .i64 s] ∧ Below w3.heap.size w3 wr) (fun iv _ => ks.length - (intOf iv).toNat)
  case atStart => exact ⟨0, 0, by omega, rfl, by rw [List.take_zero, sumW_nil], by omega, by omega, by rw [H3.out.1]; exact H3.out.2.1, H3.out.2.2⟩
  case round =>
    obtain ⟨j, s, hj, rfl, hs, hs1, hs2, kz, kb⟩ := hrel
    have HM := Lib.hid (And.intro hs (And.intro kz kb))
    have hbA : w3.heap.size ≤ bA := by rw [H3.out.1]; exact Nat.le_refl _
    clear hs kz kb
    have hj0 : (0 : Int) ≤ j := by omega
    by_cases hlt2 : j < ks.length
    · obtain ⟨ab, ao, rfl, hal, x0⟩ := (H2.out.2.2.2.below HM.out.2.2).at_ (j := j) (u := .int .i64 ks[j]) (by simp [nums, hlt2])
      have hj1 : (j : Int) < ks.length := by omega
      have HT := Lib.hid (show ks.take (j + 1) = ks.take j ++ [ks[j]] from List.take_succ_eq_append_getElem hlt2)
      obtain ⟨p, hp, hpi, hpo, hpn⟩ := HMK.out ks[j] (List.getElem_mem hlt2)
      generalize ks[j] = q at *
      have hq31 : (Lit.int .i64 q).wf = true := by rw [← hpi]; exact wf31 (by have := hpn.1; omega) hpn.1.2
      have hwt1 := hpn.2.2.1
      have hwt2 := hpn.2.2.2
      have HS1 : Hid (sumW l (ks.take (j + 1)) = s + p.wt) := by
        show _ = _
        rw [HT.out, sumW_snoc, hp, HM.out.1]
        rfl
      have HP := Lib.hid (And.intro hp (And.intro hq31 hpn))
      clear hp hpi hpo hq31 hpn HT
      have hsw : IntKind.i64.wrap (s + p.wt) = s + p.wt := by rw [IntKind.wrap_i64]; omega
      have HSW := Lib.hid hsw
      clear hsw
      go_upto_region 11 with fail
      have c1 := Blk.cell (H2.out.1.below HM.out.2.2).blk 1
      have ca := Blk.cell HM.out.2.1 0
      have fa := Blk.frozen HM.out.2.1 0
      simp at c1 ca
      refine wp_region_ord (fun w' => w'.cell? ⟨bA, 0, none⟩ = some (.int .i64 s) ∧ w'.cell? ⟨g, 1, none⟩ = some (.map (some b)) ∧ MapN w' b (getN l) l.length) 9
        [(true, 0), (true, 1), (true, 2), (true, 3), (true, 4), (true, 5), (true, 6), (true, 7), (true, 8)]
        default (by kernel_rfl) (by kernel_rfl) (fun d _ _ _ _ h => by cases d <;> exact h) ?_ ?_
      · exact ⟨ca, c1, (H2.out.1.below HM.out.2.2).map⟩
      simp only [List.map_cons, List.map_nil, List.getD_cons_succ, List.getD_cons_zero]
      repeat
        (refine heldL_take ?_ ?_ ?_
         rotate_left
         · intro w' hw'
           try dsimp only at hw'
           have l1 : (Instr.lookup 52 (.map (some b)) (.int .i64 q) false).run Try.prog w' = .ok (.agg #[.int .i64 p.on, .int .i64 p.wt]) w' := by
             have h := hw'.2.2.look HP.out.2.1
             rw [HP.out.1] at h
             exact h
           have f1 := field1 w' (.int .i64 p.on) (.int .i64 p.wt)
           have hsw := HSW.out
           obtain ⟨q1, q2, _⟩ := hw'
           go_simp
           try with_reducible rfl
         try simp only [Act.put, List.setIfInBounds_toArray, List.set_cons_zero, List.set_cons_succ])
      refine heldL_last (fun K hK => ?_)
      go_simp
      refine hK _ _ ?_
      clear hK K
      try simp only [Act.put, List.setIfInBounds_toArray, List.set_cons_zero, List.set_cons_succ]
      have z5 := Blk.set_ HM.out.2.1 0 (.int .i64 (s + p.wt))
      have B5 := (HM.out.2.2.setCell (p := ⟨bA, 0, none⟩) hbA (.int .i64 (s + p.wt))).drew
      have H5 := Lib.hid (And.intro z5 B5)
      clear z5 B5 c1 ca fa
      go_wp2_with fail
      go_roundw
      case rel => exact ⟨j + 1, s + p.wt, by omega, by go_num, HS1.out.symm, by omega, by omega, H5.out⟩
      case measure => simp [intOf]; omega
    · obtain rfl : ks.length = j := by omega
      have e0 : ks.take ks.length = ks := List.take_of_length_le (Nat.le_refl _)
      rw [e0] at HM
      have hbX : bX < w3.heap.size := H2.out.2.1.lt
      have H4 := Lib.hid (And.intro (H2.out.1.below HM.out.2.2) (And.intro (H2.out.2.1.below HM.out.2.2 hbX) (And.intro HM.out.2.1 (And.intro (H2.out.2.2.1.trans (HM.out.2.2.mono H2.out.2.2.1.size)) (H2.out.2.2.2.below HM.out.2.2)))))
      have HSS := Lib.hid HM.out.1
      have hbXA : w.heap.size ≤ bA := by have := H2.out.2.2.1.size; omega
      clear HM e0 H3
      go_wp2_with fail
      obtain ⟨wl, hwl⟩ : ∃ x, x = wr := ⟨_, rfl⟩
      rw [← hwl] at H4
      have HWL := Lib.hid hwl
      clear hwl
      go_loopw [49] (fun iv wr => ∃ j : Nat, j ≤ ks.length ∧ iv = .int .i64 j ∧ Trs wr g b most (shareN l (ks.take j) x s) ∧ Only [b] wl wr) (fun iv _ => ks.length - (intOf iv).toNat)
      case atStart => exact ⟨0, by omega, rfl, by rw [List.take_zero, shareN_nil, ← HWL.out]; exact H4.out.1, by rw [← HWL.out]; exact Only.refl _ _⟩
      case round =>
        obtain ⟨j, hj, rfl, kt, ko⟩ := hrel
        have kx := H4.out.2.1.only ko (by have := hlt.2; simp; omega)
        have ka := H4.out.2.2.1.only ko (by have := hlt.2; simp; omega)
        have kh := held_mapOnly H4.out.2.2.2.2 H4.out.1.map ko
        have HM := Lib.hid (And.intro kt (And.intro ko (And.intro kx (And.intro ka kh))))
        clear kt ko kx ka kh
        have hj0 : (0 : Int) ≤ j := by omega
        by_cases hlt2 : j < ks.length
        · obtain ⟨ab, ao, rfl, hal, x0⟩ := HM.out.2.2.2.2.at_ (j := j) (u := .int .i64 ks[j]) (by simp [nums, hlt2])
          have hj1 : (j : Int) < ks.length := by omega
          have hts : ks.take (j + 1) = ks.take j ++ [ks[j]] := List.take_succ_eq_append_getElem hlt2
          have hnot : ks[j] ∉ ks.take j := by
            intro hm
            have hnd := HKD.out
            rw [← List.take_append_drop j ks, List.nodup_append] at hnd
            exact hnd.2.2 _ hm _ (by rw [List.drop_eq_getElem_cons hlt2]; exact List.mem_cons_self) rfl
          obtain ⟨p, hp, hpi, hpo, hpn⟩ := HMK.out ks[j] (List.getElem_mem hlt2)
          have hle : p.wt ≤ s := by
            have h := wt_le_sum (l := l) (ks := ks) (fun q hq => by
              obtain ⟨p', hp', _, _, hn'⟩ := HMK.out q hq
              rw [hp']
              have := hn'.2.2.1
              show 0 ≤ p'.wt
              omega) (List.getElem_mem hlt2)
            rw [hp] at h
            rw [HSS.out]
            exact h
          have HSN : Hid (shareN l (ks.take (j + 1)) x s = putN (shareN l (ks.take j) x s) ⟨ks[j], x.on, shareI p.wt x.wt s⟩) := by
            show _ = _
            rw [hts, shareN_snoc HK.out.uq _ _ _ _ p hp hnot]
          have hgs : getN (shareN l (ks.take j) x s) ks[j] = some p := by
            rw [getN_share, hp]
            simp [hpi, hnot]
          clear hts hnot
          generalize ks[j] = q at *
          have hq31 : (Lit.int .i64 q).wf = true := by rw [← hpi]; exact wf31 (by have := hpn.1; omega) hpn.1.2
          have hsb := share_bd (xw := x.wt) hpn.2.2.1 hle HXN.out.1.2.2
          obtain ⟨w6, hrun, ht6, ho6⟩ := trs_put g b most (shareN l (ks.take j) x s) wr HM.out.1 ⟨q, x.on, shareI p.wt x.wt s⟩ ⟨by rw [← hpi]; exact hpn.1, HXN.out.1.2.1, hsb⟩ (.inl (by rw [hgs]; rfl))
          rw [← HSN.out] at ht6
          have hfin := Lib.hid (And.intro ht6 (HM.out.2.1.trans_ ho6))
          have HP := Lib.hid (And.intro hgs hq31)
          have HSH := Lib.hid (fun (W : World) h1 h2 => share_any p.wt 0 x.wt s bX bA W h1 h2 (by have := hpn.2.2; omega) HXN.out.2 (by omega))
          unfold enN at hrun
          simp only at hrun
          clear ht6 ho6 hsb hq31 hgs HSN hle hp hpi hpo hpn
          go_upto_region 17 with fail
          have c1 := Blk.cell HM.out.1.blk 1
          have x0' := Blk.cell HM.out.2.2.1 0
          have x1' := Blk.cell HM.out.2.2.1 1
          have a0' := Blk.cell HM.out.2.2.2.1 0
          simp at c1 x0' x1' a0'
          refine wp_region_ord (fun w' => w'.cell? ⟨g, 1, none⟩ = some (.map (some b)) ∧ w'.cell? ⟨bX, 0, none⟩ = some (.int .i64 x.on) ∧ w'.cell? ⟨bX, 1, none⟩ = some (.int .i64 x.wt) ∧ w'.cell? ⟨bA, 0, none⟩ = some (.int .i64 s) ∧ MapN w' b (getN (shareN l (ks.take j) x s)) (shareN l (ks.take j) x s).length) 17
            [(true, 0), (true, 1), (true, 2), (true, 3), (true, 4), (true, 5), (true, 6), (true, 7), (true, 8), (true, 9), (true, 10), (true, 11), (true, 12), (true, 13), (true, 14), (false, 15), (true, 16)]
            default (by kernel_rfl) (by kernel_rfl) (fun d _ _ _ _ h => by cases d <;> exact h) ?_ ?_
          · exact ⟨c1, x0', x1', a0', HM.out.1.map⟩
          simp only [List.map_cons, List.map_nil, List.getD_cons_succ, List.getD_cons_zero]
          repeat
            (refine heldL_take ?_ ?_ ?_
             rotate_left
             · intro w' hw'
               try dsimp only at hw'
               have l1 : (Instr.lookup 52 (.map (some b)) (.int .i64 q) false).run Try.prog w' = .ok (.agg #[.int .i64 p.on, .int .i64 p.wt]) w' := by
                 have h := hw'.2.2.2.2.look HP.out.2
                 rw [HP.out.1] at h
                 exact h
               have f1 := field1 w' (.int .i64 p.on) (.int .i64 p.wt)
               obtain ⟨q1, q2, q3, q4, _⟩ := hw'
               go_simp
               try with_reducible rfl
             try simp only [Act.put, List.setIfInBounds_toArray, List.set_cons_zero, List.set_cons_succ])
          refine heldL_move (fun K hK => ?_)
          go_simp
          refine (HSH.out _ (by exact x1') (by exact a0')).mono ?_
          rintro e w5 ⟨rfl, rfl⟩
          refine hK.out _ _ ?_ (fun hS => ?_)
          · exact ⟨c1, x0', x1', a0', MapV.drew HM.out.1.map⟩
          clear hK K
          try simp only [Act.put, List.setIfInBounds_toArray, List.set_cons_zero, List.set_cons_succ]
          repeat
            (refine heldL_take ?_ ?_ ?_
             rotate_left
             · intro w' hw'
               try dsimp only at hw'
               obtain ⟨q1, q2, q3, q4, _⟩ := hw'
               go_simp
               try with_reducible rfl
             try simp only [Act.put, List.setIfInBounds_toArray, List.set_cons_zero, List.set_cons_succ])
          refine heldL_last (fun K hK => ?_)
          go_simp
          refine hK _ _ ?_
          clear hK K
          try simp only [Act.put, List.setIfInBounds_toArray, List.set_cons_zero, List.set_cons_succ]
          go_wp2_with fail
          go_roundw
          case rel => exact ⟨j + 1, by omega, by go_num, hfin.out⟩
          case measure => simp [intOf]; omega
        · obtain rfl : ks.length = j := by omega
          have e0 : ks.take ks.length = ks := List.take_of_length_le (Nat.le_refl _)
          rw [e0] at HM
          have hgx : ∃ y, getN (shareN l ks x s) i = some y := by rw [getN_share, HX.out]; exact ⟨_, rfl⟩
          obtain ⟨y, hy⟩ := hgx
          obtain ⟨w7, hrun, ht7, ho7⟩ := trs_strike g b most _ wr HM.out.1 i HI.out hy
          rw [HSS.out, ← HREM.out] at ht7
          have hfin : Hid (Turned w g b most LR w7) := ⟨ht7, ((Only.of_below (S := [b]) H4.out.2.2.2.1).trans_ HM.out.2.1).trans_ ho7⟩
          have c1 := Blk.cell HM.out.1.blk 1
          simp at c1
          clear ht7 ho7 hy e0
          go_wp2_with fail
          go_ret
          exact ⟨rfl, hfin.out⟩
end
end Go.Proofs.Ytifgbnjpiphidaa
