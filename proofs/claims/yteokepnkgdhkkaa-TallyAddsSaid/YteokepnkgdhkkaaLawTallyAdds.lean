/- Proved: TallyAdds answers true for every input, and leaves its arguments as they were; no condition. -/
import Derived.Test.YteokepnkgdhkkaaRows
import Derived.Test.YteokepnkgdhkkaaMem
import Derived.Test.YteokepnkgdhkkaaLift
import Derived.Test.YteokepnkgdhkkaaTalE
import Derived.WalkKit
import Derived.ProofKit
import Derived.OpenShut
import Derived.Handy
import Derived.Deep.QuietTactic
import Derived.BigQuiet
import Derived.Deep.RegionWith
import Derived.WalkLawsBesides
import Derived.Deep.RegionHeld3
import Derived.Deep.Cut
namespace Go.Proofs.Yteokepnkgdhkkaa.TallyAdds
open Go.ChangeShapes Go.WideShapes Go.ChangeAt Go.RowKit Go.Deep
set_option linter.unusedVariables false

theorem allL_st (l : List Sm) : (allL l).st = 0 := by
  unfold allL
  have : ∀ (r : List Sm) (acc : Sm), acc.st = 0 → (r.foldl Sm.add acc).st = 0 := by
    intro r
    induction r with
    | nil => intro acc h; exact h
    | cons x r ih => intro acc h; exact ih _ h
  exact this l _ rfl
set_option maxRecDepth 100000 in
set_option maxHeartbeats 16000000 in
theorem walk (w : World) (v0 : Value) (n : Nat) (C : Nat → List Value) (h0 : RowsAt w v0 n 8 SmOk C) (v1 : Value) (n1 : Nat) (C1 : Nat → List Value) (h1 : RowsAt w v1 n1 8 SmOk C1) (a2 : Int) (w2 : (Lit.int .i64 a2).wf = true) :
    Calls Try.prog 6 #[v0, v1, .int .i64 a2] w fun e w' => e = .returned (.bool true) ∧ Below w.heap.size w w' := by
  obtain ⟨A, c, La, rfl, ha, hia⟩ := sms_of_rows h0
  obtain ⟨A', c', Lb, rfl, hb, hib⟩ := sms_of_rows h1
  have HA := Lib.hid (And.intro ha hia)
  have HB := Lib.hid (And.intro hb hib)
  clear h0 h1 ha hia hb hib w2
  go_enter Try.func6, Try.ntmps6
  go_wp2_with fail
  refine (few_any w.heap.size n c A La w HA.out.1 (Nat.le_refl _) HA.out.2).mono ?_
  rintro e w1 ⟨A1, c1, rfl, h1, b1⟩
  have H1 := Lib.hid (And.intro h1 b1)
  have HL1 := Lib.hid (And.intro (fewL_length La) (And.intro (fewL_bd La) (fewL_wf La HA.out.2)))
  clear h1 b1
  generalize fewL La = l at *
  go_wp2_with fail
  refine (few_any w.heap.size n1 c' A' Lb w1 (HB.out.1.below H1.out.2) H1.out.2.size HB.out.2).mono ?_
  rintro e w2 ⟨A2, c2, rfl, h2, b2⟩
  have H2 := Lib.hid (And.intro h2 (And.intro (H1.out.1.below b2) (H1.out.2.trans (b2.mono H1.out.2.size))))
  have HL2 := Lib.hid (And.intro (fewL_length Lb) (And.intro (fewL_bd Lb) (fewL_wf Lb HB.out.2)))
  have hs2 := b2.size
  clear h2 b2 HA HB
  generalize fewL Lb = l2 at *
  have hl1 : l.length ≤ 60 := HL1.out.1
  have hl2 : l2.length ≤ 60 := HL2.out.1
  have HLG : Hid ((gatherL (l ++ l2)).length ≤ 120) := by
    have := gatherL_length (l ++ l2)
    rw [List.length_append] at this
    show (gatherL (l ++ l2)).length ≤ 120
    omega
  go_wp2_with (first
    | (go_at_call 16
       refine (add_sums _ _ c1 _ _ c2 A1 A2 l l2 w2 H2.out.2.1 hs2 H2.out.1 (Nat.le_refl _) (by omega) (by omega) 1099511627776 (by omega) (by omega) HL1.out.2.1 HL2.out.2.1 HL1.out.2.2 HL2.out.2.2).mono ?_
       rintro e w3 ⟨A3, c3, rfl, h3, b3⟩
       have H3 := Lib.hid (And.intro h3 (And.intro (H2.out.2.1.below (b3.mono hs2)) (And.intro (H2.out.1.below b3) (H2.out.2.2.trans (b3.mono H2.out.2.2.size)))))
       have hs3 := b3.size
       clear h3 b3)
    | (go_at_call 17
       refine (radd_any _ _ c1 _ _ c2 A1 A2 l l2 w3 H3.out.2.1 (by omega) H3.out.2.2.1 hs3 (by omega) (by omega) HL1.out.2.1 HL2.out.2.1).mono ?_
       rintro e w4 ⟨A4, c4, rfl, h4, b4⟩
       have H4 := Lib.hid (And.intro h4 (And.intro (H3.out.1.below b4) (And.intro (H3.out.2.1.below (b4.mono (by omega))) (H3.out.2.2.2.trans (b4.mono H3.out.2.2.2.size)))))
       have hs4 := b4.size
       clear h4 b4)
    | (go_at_call 9
       refine (same_any _ _ _ _ _ _ _ _ (gatherL (l ++ l2)) w4 H4.out.2.1 H4.out.1 (by have := HLG.out; omega)).mono ?_
       rintro e w5 ⟨rfl, q, rfl⟩
       have H5 : Hid (Sms (w4.drewN q) w1.heap.size A1 l.length c1 l ∧ Below w.heap.size w (w4.drewN q) ∧ w1.heap.size ≤ (w4.drewN q).heap.size) := ⟨H4.out.2.2.1.drewN q, below_drewN H4.out.2.2.2 q, by show w1.heap.size ≤ w4.heap.size; omega⟩
       generalize w4.drewN q = w5 at *))
  go_upto_region 6 with fail
  have k1 : Blk (w5.alloc (.cells #[.int .i64 0, .int .i64 0, .int .i64 0, .int .i64 0, .bool false, .bool false, .int .i64 0, .int .i64 0] 33)) w5.heap.size 33 (sa (allL (l.take 0))) := Blk.new w5 33 #[.int .i64 0, .int .i64 0, .int .i64 0, .int .i64 0, .bool false, .bool false, .int .i64 0, .int .i64 0]
  have k2 : Below w.heap.size w (w5.alloc (.cells #[.int .i64 0, .int .i64 0, .int .i64 0, .int .i64 0, .bool false, .bool false, .int .i64 0, .int .i64 0] 33)) := H5.out.2.1.alloc H5.out.2.1.size _
  have k3 := H5.out.1.alloc H5.out.2.2 (.cells #[.int .i64 0, .int .i64 0, .int .i64 0, .int .i64 0, .bool false, .bool false, .int .i64 0, .int .i64 0] 33)
  have k4 : w1.heap.size ≤ (w5.alloc (.cells #[.int .i64 0, .int .i64 0, .int .i64 0, .int .i64 0, .bool false, .bool false, .int .i64 0, .int .i64 0] 33)).heap.size := Nat.le_trans H5.out.2.2 (by simp)
  have HG := Lib.hid (And.intro H5.out.2.2 H5.out.2.1.size)
  have H6 := Lib.hid (And.intro k1 (And.intro k2 (And.intro k3 k4)))
  clear k1 k2 k3 k4 H2 H3 H4 H5 hs2 hs3 hs4
  generalize w5.alloc (.cells #[.int .i64 0, .int .i64 0, .int .i64 0, .int .i64 0, .bool false, .bool false, .int .i64 0, .int .i64 0] 33) = w6 at *
  generalize hGG : w5.heap.size = G at *
  have hG : w.heap.size ≤ G := HG.out.2
  have hG1 : w1.heap.size ≤ G := HG.out.1
  have hc1 := H1.out.1.cap_ge
  have hc1b := H1.out.1.cap_le
  clear hGG
  go_wp2_with fail
  go_loopw [8] (fun iv wr => ∃ k : Nat, k ≤ l.length ∧ iv = .int .i64 k ∧ Blk wr G 33 (sa (allL (l.take k))) ∧ Below w.heap.size w wr ∧ Below G w6 wr) (fun i _ => l.length - (intOf i).toNat)
  case atStart => exact ⟨0, by omega, rfl, H6.out.1, H6.out.2.1, Below.refl _ _⟩
  case round =>
    obtain ⟨k, hk, rfl, hbk, hbw, hb6⟩ := hrel
    have HM := Lib.hid (And.intro hbk (And.intro hbw hb6))
    have hgl := hbk.lt
    have hk0 : (0 : Int) ≤ k := by omega
    clear hbk hbw hb6
    by_cases hlt : k < l.length
    · obtain ⟨b, off, rfl, hbB, c0', c1', c2', c3', c4', c5', c6', c7'⟩ := (H6.out.2.2.1.below (HM.out.2.2.mono hG1)).at_ k hlt
      have hk1 : (k : Int) < l.length := by omega
      have HT := Lib.hid (allL_take l k hlt)
      have hst := allL_st (l.take k)
      have hbd : (allL (l.take k)).bd 70368744177664 := Sm.bd_mono (allL_bd (K := 1099511627776) (by omega) (fun a ha => HL1.out.2.1 a (List.mem_of_mem_take ha))) (by rw [List.length_take]; omega)
      have hbx := HL1.out.2.1 l[k] (List.getElem_mem hlt)
      generalize allL (l.take k) = Y at *
      generalize l[k] = y at *
      obtain ⟨x0, x1, x2, x3, x4, x5, x6, x7⟩ := y
      obtain ⟨y0, y1, y2, y3, y4, y5, y6, y7⟩ := Y
      obtain rfl : y0 = 0 := hst
      unfold Sm.bd at hbd hbx
      simp only at hbd hbx
      have e1 : IntKind.i64.wrap (y1 + x1) = y1 + x1 := by rw [IntKind.wrap_i64]; omega
      have e2 : IntKind.i64.wrap (y2 + x2) = y2 + x2 := by rw [IntKind.wrap_i64]; omega
      have e3 : IntKind.i64.wrap (y3 + x3) = y3 + x3 := by rw [IntKind.wrap_i64]; omega
      have e6 : IntKind.i64.wrap (y6 + x6) = y6 + x6 := by rw [IntKind.wrap_i64]; omega
      have e7 : IntKind.i64.wrap (y7 + x7) = y7 + x7 := by rw [IntKind.wrap_i64]; omega
      clear hbd hbx
      try simp only at c0' c1' c2' c3' c4' c5' c6' c7'
      have k1 := HM.out.1.alloc (.cells #[.int .i64 x0, .int .i64 x1, .int .i64 x2, .int .i64 x3, .bool x4, .bool x5, .int .i64 x6, .int .i64 x7] 33)
      have k2 := HM.out.2.1.alloc HM.out.2.1.size (.cells #[.int .i64 x0, .int .i64 x1, .int .i64 x2, .int .i64 x3, .bool x4, .bool x5, .int .i64 x6, .int .i64 x7] 33)
      have k3 := HM.out.2.2.alloc (by omega) (.cells #[.int .i64 x0, .int .i64 x1, .int .i64 x2, .int .i64 x3, .bool x4, .bool x5, .int .i64 x6, .int .i64 x7] 33)
      have k4 := Blk.new wr 33 #[.int .i64 x0, .int .i64 x1, .int .i64 x2, .int .i64 x3, .bool x4, .bool x5, .int .i64 x6, .int .i64 x7]
      have H3 : Hid (Blk (wr.alloc (.cells #[.int .i64 x0, .int .i64 x1, .int .i64 x2, .int .i64 x3, .bool x4, .bool x5, .int .i64 x6, .int .i64 x7] 33)) G 33 (sa ⟨0, y1, y2, y3, y4, y5, y6, y7⟩) ∧ Below w.heap.size w (wr.alloc (.cells #[.int .i64 x0, .int .i64 x1, .int .i64 x2, .int .i64 x3, .bool x4, .bool x5, .int .i64 x6, .int .i64 x7] 33)) ∧ Below G w6 (wr.alloc (.cells #[.int .i64 x0, .int .i64 x1, .int .i64 x2, .int .i64 x3, .bool x4, .bool x5, .int .i64 x6, .int .i64 x7] 33)) ∧ Blk (wr.alloc (.cells #[.int .i64 x0, .int .i64 x1, .int .i64 x2, .int .i64 x3, .bool x4, .bool x5, .int .i64 x6, .int .i64 x7] 33)) wr.heap.size 33 #[.int .i64 x0, .int .i64 x1, .int .i64 x2, .int .i64 x3, .bool x4, .bool x5, .int .i64 x6, .int .i64 x7]) := ⟨k1, k2, k3, k4⟩
      clear k1 k2 k3 k4
      go_upto_region 10 with fail
      generalize wr.alloc (.cells #[.int .i64 x0, .int .i64 x1, .int .i64 x2, .int .i64 x3, .bool x4, .bool x5, .int .i64 x6, .int .i64 x7] 33) = w7 at *
      have d0 := Blk.cell H3.out.1 0
      have d1 := Blk.cell H3.out.1 1
      have d2 := Blk.cell H3.out.1 2
      have d3 := Blk.cell H3.out.1 3
      have d4 := Blk.cell H3.out.1 4
      have d5 := Blk.cell H3.out.1 5
      have d6 := Blk.cell H3.out.1 6
      have d7 := Blk.cell H3.out.1 7
      have f0 := Blk.frozen H3.out.1 0
      have f1 := Blk.frozen H3.out.1 1
      have f2 := Blk.frozen H3.out.1 2
      have f3 := Blk.frozen H3.out.1 3
      have f4 := Blk.frozen H3.out.1 4
      have f5 := Blk.frozen H3.out.1 5
      have f6 := Blk.frozen H3.out.1 6
      have f7 := Blk.frozen H3.out.1 7
      have g0 := Blk.cell H3.out.2.2.2 0
      have g1 := Blk.cell H3.out.2.2.2 1
      have g2 := Blk.cell H3.out.2.2.2 2
      have g3 := Blk.cell H3.out.2.2.2 3
      have g4 := Blk.cell H3.out.2.2.2 4
      have g5 := Blk.cell H3.out.2.2.2 5
      have g6 := Blk.cell H3.out.2.2.2 6
      have g7 := Blk.cell H3.out.2.2.2 7
      simp [sa] at d0 d1 d2 d3 d4 d5 d6 d7 g0 g1 g2 g3 g4 g5 g6 g7
      clear c0' c1' c2' c3' c4' c5' c6' c7'
      cases y4 <;> cases y5
      · go_wp2_with fail
        have kA : Blk (set8 w7 G (Sm.add ⟨0, y1, y2, y3, false, false, y6, y7⟩ ⟨x0, x1, x2, x3, x4, x5, x6, x7⟩)) G 33 (sa (allL (l.take (k + 1)))) := by
          rw [HT.out]
          exact Blk.set8 H3.out.1 (Sm.add ⟨0, y1, y2, y3, false, false, y6, y7⟩ ⟨x0, x1, x2, x3, x4, x5, x6, x7⟩)
        have kB := below_set8 H3.out.2.1 hG (Sm.add ⟨0, y1, y2, y3, false, false, y6, y7⟩ ⟨x0, x1, x2, x3, x4, x5, x6, x7⟩)
        have kC := below_set8 H3.out.2.2.1 (Nat.le_refl G) (Sm.add ⟨0, y1, y2, y3, false, false, y6, y7⟩ ⟨x0, x1, x2, x3, x4, x5, x6, x7⟩)
        have hfin := Lib.hid (And.intro kA (And.intro kB kC))
        clear kA kB kC
        go_roundw
        case rel => exact ⟨k + 1, by omega, by go_num, hfin.out⟩
        case measure => simp [intOf]; omega
      · go_wp2_with fail
        have kA : Blk (set8 w7 G (Sm.add ⟨0, y1, y2, y3, false, true, y6, y7⟩ ⟨x0, x1, x2, x3, x4, x5, x6, x7⟩)) G 33 (sa (allL (l.take (k + 1)))) := by
          rw [HT.out]
          exact Blk.set8 H3.out.1 (Sm.add ⟨0, y1, y2, y3, false, true, y6, y7⟩ ⟨x0, x1, x2, x3, x4, x5, x6, x7⟩)
        have kB := below_set8 H3.out.2.1 hG (Sm.add ⟨0, y1, y2, y3, false, true, y6, y7⟩ ⟨x0, x1, x2, x3, x4, x5, x6, x7⟩)
        have kC := below_set8 H3.out.2.2.1 (Nat.le_refl G) (Sm.add ⟨0, y1, y2, y3, false, true, y6, y7⟩ ⟨x0, x1, x2, x3, x4, x5, x6, x7⟩)
        have hfin := Lib.hid (And.intro kA (And.intro kB kC))
        clear kA kB kC
        go_roundw
        case rel => exact ⟨k + 1, by omega, by go_num, hfin.out⟩
        case measure => simp [intOf]; omega
      · go_wp2_with fail
        have kA : Blk (set8 w7 G (Sm.add ⟨0, y1, y2, y3, true, false, y6, y7⟩ ⟨x0, x1, x2, x3, x4, x5, x6, x7⟩)) G 33 (sa (allL (l.take (k + 1)))) := by
          rw [HT.out]
          exact Blk.set8 H3.out.1 (Sm.add ⟨0, y1, y2, y3, true, false, y6, y7⟩ ⟨x0, x1, x2, x3, x4, x5, x6, x7⟩)
        have kB := below_set8 H3.out.2.1 hG (Sm.add ⟨0, y1, y2, y3, true, false, y6, y7⟩ ⟨x0, x1, x2, x3, x4, x5, x6, x7⟩)
        have kC := below_set8 H3.out.2.2.1 (Nat.le_refl G) (Sm.add ⟨0, y1, y2, y3, true, false, y6, y7⟩ ⟨x0, x1, x2, x3, x4, x5, x6, x7⟩)
        have hfin := Lib.hid (And.intro kA (And.intro kB kC))
        clear kA kB kC
        go_roundw
        case rel => exact ⟨k + 1, by omega, by go_num, hfin.out⟩
        case measure => simp [intOf]; omega
      · go_wp2_with fail
        have kA : Blk (set8 w7 G (Sm.add ⟨0, y1, y2, y3, true, true, y6, y7⟩ ⟨x0, x1, x2, x3, x4, x5, x6, x7⟩)) G 33 (sa (allL (l.take (k + 1)))) := by
          rw [HT.out]
          exact Blk.set8 H3.out.1 (Sm.add ⟨0, y1, y2, y3, true, true, y6, y7⟩ ⟨x0, x1, x2, x3, x4, x5, x6, x7⟩)
        have kB := below_set8 H3.out.2.1 hG (Sm.add ⟨0, y1, y2, y3, true, true, y6, y7⟩ ⟨x0, x1, x2, x3, x4, x5, x6, x7⟩)
        have kC := below_set8 H3.out.2.2.1 (Nat.le_refl G) (Sm.add ⟨0, y1, y2, y3, true, true, y6, y7⟩ ⟨x0, x1, x2, x3, x4, x5, x6, x7⟩)
        have hfin := Lib.hid (And.intro kA (And.intro kB kC))
        clear kA kB kC
        go_roundw
        case rel => exact ⟨k + 1, by omega, by go_num, hfin.out⟩
        case measure => simp [intOf]; omega
    · obtain rfl : l.length = k := by omega
      have e0 := Lib.hid (show l.take l.length = l from List.take_of_length_le (Nat.le_refl _))
      have hbk := HM.out.1
      rw [e0.out] at hbk
      have H7 := Lib.hid (And.intro hbk (And.intro HM.out.2.1 (H6.out.2.2.1.below (HM.out.2.2.mono hG1))))
      have hws := HM.out.2.1.size
      have hw1 : w1.heap.size ≤ wr.heap.size := by omega
      clear hbk HM H6
      go_wp2_with fail
      refine (find_sum _ _ _ _ l a2 wr H7.out.2.2 hw1 (by omega)).mono ?_
      rintro e w8 ⟨b8, hf⟩
      have H8 := Lib.hid (And.intro (H7.out.1.below b8 hgl) (And.intro (H7.out.2.1.trans (b8.mono hws)) (H7.out.2.2.below (b8.mono hw1))))
      have hs8 := b8.size
      clear b8 H7
      rcases hf with ⟨j, hj, hjs, hjn, rfl⟩ | ⟨hno, rfl⟩
      · skip
        obtain ⟨b, off, rfl, hbB, c0, c1, c2, c3, c4, c5, c6, c7⟩ := H8.out.2.2.at_ j hj
        have hjl : (j : Int) < l.length := by omega
        have hj0 : (0 : Int) ≤ j := by omega
        have HJ := Lib.hid (And.intro hjs hjn)
        have HR : Hid (∀ (r : Int), FindIs l a2 r → r = j) := fun r hr => by
          rcases hr with ⟨i, hi, hi1, rfl, hi2⟩ | ⟨_, h⟩
          · rcases Nat.lt_trichotomy i j with h | h | h
            · exact absurd hi1 (hjn i hi h)
            · rw [h]
            · exact absurd hjs (hi2 j hj h)
          · exact absurd hjs (h j hj)
        clear hjs hjn HJ
        generalize l[j] = v at *
        obtain ⟨v0, v1, v2, v3, v4, v5, v6, v7⟩ := v
        unfold sa
        try simp only at c0 c1 c2 c3 c4 c5 c6 c7
        have p1 := H8.out.1.alloc (.cells #[.int .i64 v0, .int .i64 v1, .int .i64 v2, .int .i64 v3, .bool v4, .bool v5, .int .i64 v6, .int .i64 v7] 33)
        have p2 := H8.out.2.1.alloc H8.out.2.1.size (.cells #[.int .i64 v0, .int .i64 v1, .int .i64 v2, .int .i64 v3, .bool v4, .bool v5, .int .i64 v6, .int .i64 v7] 33)
        have p3 := H8.out.2.2.alloc (by omega) (.cells #[.int .i64 v0, .int .i64 v1, .int .i64 v2, .int .i64 v3, .bool v4, .bool v5, .int .i64 v6, .int .i64 v7] 33)
        have p4 := Blk.new w8 33 #[.int .i64 v0, .int .i64 v1, .int .i64 v2, .int .i64 v3, .bool v4, .bool v5, .int .i64 v6, .int .i64 v7]
        have hbl : b < w8.heap.size := by omega
        have h1s : w1.heap.size ≤ (w8.alloc (.cells #[.int .i64 v0, .int .i64 v1, .int .i64 v2, .int .i64 v3, .bool v4, .bool v5, .int .i64 v6, .int .i64 v7] 33)).heap.size := by simp; omega
        have H9 := Lib.hid (And.intro p1 (And.intro p2 (And.intro p3 (And.intro p4 h1s))))
        clear p1 p2 p3 p4
        go_wp2_with fail
        refine (find_any _ _ _ _ l a2 _ H9.out.2.2.1).mono ?_
        rintro e w10 ⟨r, rfl, hr, rfl⟩
        obtain rfl := HR.out r hr
        clear hr
        have d0 := (World.cell?_alloc_lt w8 (.cells #[.int .i64 v0, .int .i64 v1, .int .i64 v2, .int .i64 v3, .bool v4, .bool v5, .int .i64 v6, .int .i64 v7] 33) ⟨b, off + j * 8, none⟩ hbl).trans c0
        have d1 := (World.cell?_alloc_lt w8 (.cells #[.int .i64 v0, .int .i64 v1, .int .i64 v2, .int .i64 v3, .bool v4, .bool v5, .int .i64 v6, .int .i64 v7] 33) ⟨b, off + j * 8 + 1, none⟩ hbl).trans c1
        have d2 := (World.cell?_alloc_lt w8 (.cells #[.int .i64 v0, .int .i64 v1, .int .i64 v2, .int .i64 v3, .bool v4, .bool v5, .int .i64 v6, .int .i64 v7] 33) ⟨b, off + j * 8 + 2, none⟩ hbl).trans c2
        have d3 := (World.cell?_alloc_lt w8 (.cells #[.int .i64 v0, .int .i64 v1, .int .i64 v2, .int .i64 v3, .bool v4, .bool v5, .int .i64 v6, .int .i64 v7] 33) ⟨b, off + j * 8 + 3, none⟩ hbl).trans c3
        have d4 := (World.cell?_alloc_lt w8 (.cells #[.int .i64 v0, .int .i64 v1, .int .i64 v2, .int .i64 v3, .bool v4, .bool v5, .int .i64 v6, .int .i64 v7] 33) ⟨b, off + j * 8 + 4, none⟩ hbl).trans c4
        have d5 := (World.cell?_alloc_lt w8 (.cells #[.int .i64 v0, .int .i64 v1, .int .i64 v2, .int .i64 v3, .bool v4, .bool v5, .int .i64 v6, .int .i64 v7] 33) ⟨b, off + j * 8 + 5, none⟩ hbl).trans c5
        have d6 := (World.cell?_alloc_lt w8 (.cells #[.int .i64 v0, .int .i64 v1, .int .i64 v2, .int .i64 v3, .bool v4, .bool v5, .int .i64 v6, .int .i64 v7] 33) ⟨b, off + j * 8 + 6, none⟩ hbl).trans c6
        have d7 := (World.cell?_alloc_lt w8 (.cells #[.int .i64 v0, .int .i64 v1, .int .i64 v2, .int .i64 v3, .bool v4, .bool v5, .int .i64 v6, .int .i64 v7] 33) ⟨b, off + j * 8 + 7, none⟩ hbl).trans c7
        have e0 : (w8.alloc (.cells #[.int .i64 v0, .int .i64 v1, .int .i64 v2, .int .i64 v3, .bool v4, .bool v5, .int .i64 v6, .int .i64 v7] 33)).cell? ⟨w8.heap.size, 0, none⟩ = some (.int .i64 v0) := Blk.cell H9.out.2.2.2.1 0
        have e1 : (w8.alloc (.cells #[.int .i64 v0, .int .i64 v1, .int .i64 v2, .int .i64 v3, .bool v4, .bool v5, .int .i64 v6, .int .i64 v7] 33)).cell? ⟨w8.heap.size, 1, none⟩ = some (.int .i64 v1) := Blk.cell H9.out.2.2.2.1 1
        have e2 : (w8.alloc (.cells #[.int .i64 v0, .int .i64 v1, .int .i64 v2, .int .i64 v3, .bool v4, .bool v5, .int .i64 v6, .int .i64 v7] 33)).cell? ⟨w8.heap.size, 2, none⟩ = some (.int .i64 v2) := Blk.cell H9.out.2.2.2.1 2
        have e3 : (w8.alloc (.cells #[.int .i64 v0, .int .i64 v1, .int .i64 v2, .int .i64 v3, .bool v4, .bool v5, .int .i64 v6, .int .i64 v7] 33)).cell? ⟨w8.heap.size, 3, none⟩ = some (.int .i64 v3) := Blk.cell H9.out.2.2.2.1 3
        have e4 : (w8.alloc (.cells #[.int .i64 v0, .int .i64 v1, .int .i64 v2, .int .i64 v3, .bool v4, .bool v5, .int .i64 v6, .int .i64 v7] 33)).cell? ⟨w8.heap.size, 4, none⟩ = some (.bool v4) := Blk.cell H9.out.2.2.2.1 4
        have e5 : (w8.alloc (.cells #[.int .i64 v0, .int .i64 v1, .int .i64 v2, .int .i64 v3, .bool v4, .bool v5, .int .i64 v6, .int .i64 v7] 33)).cell? ⟨w8.heap.size, 5, none⟩ = some (.bool v5) := Blk.cell H9.out.2.2.2.1 5
        have e6 : (w8.alloc (.cells #[.int .i64 v0, .int .i64 v1, .int .i64 v2, .int .i64 v3, .bool v4, .bool v5, .int .i64 v6, .int .i64 v7] 33)).cell? ⟨w8.heap.size, 6, none⟩ = some (.int .i64 v6) := Blk.cell H9.out.2.2.2.1 6
        have e7 : (w8.alloc (.cells #[.int .i64 v0, .int .i64 v1, .int .i64 v2, .int .i64 v3, .bool v4, .bool v5, .int .i64 v6, .int .i64 v7] 33)).cell? ⟨w8.heap.size, 7, none⟩ = some (.int .i64 v7) := Blk.cell H9.out.2.2.2.1 7
        have H10 := Lib.hid (And.intro H9.out.1 (And.intro H9.out.2.1 (And.intro H9.out.2.2.1 H9.out.2.2.2.2)))
        clear c0 c1 c2 c3 c4 c5 c6 c7 H8 H9 h1s
        generalize w8.alloc (.cells #[.int .i64 v0, .int .i64 v1, .int .i64 v2, .int .i64 v3, .bool v4, .bool v5, .int .i64 v6, .int .i64 v7] 33) = w10 at *
        go_wp2_with fail
        go_quiet (fail)
        go_wp2_with fail
        have HQ := Lib.hid (And.intro (H10.out.1.drewN nq) (And.intro (below_drewN H10.out.2.1 nq) (And.intro (H10.out.2.2.1.drewN nq) (show w1.heap.size ≤ (w10.drewN nq).heap.size from H10.out.2.2.2))))
        clear H10
        generalize w10.drewN nq = w10 at *
        have HAll := Lib.hid (allL_bd (K := 1099511627776) (by omega) HL1.out.2.1)
        generalize hZ : allL l = Z at *
        have HZ := Lib.hid hZ
        clear hZ
        obtain ⟨z0, z1, z2, z3, z4, z5, z6, z7⟩ := Z
        have kg := HQ.out.1
        have t0 := Blk.cell kg 0
        have t1 := Blk.cell kg 1
        have t2 := Blk.cell kg 2
        have t3 := Blk.cell kg 3
        have t4 := Blk.cell kg 4
        have t5 := Blk.cell kg 5
        have t6 := Blk.cell kg 6
        have t7 := Blk.cell kg 7
        simp [sa] at t0 t1 t2 t3 t4 t5 t6 t7
        clear kg
        go_region_held3 (fun w' => w'.cell? ⟨G, 0, none⟩ = some (.int .i64 z0) ∧ w'.cell? ⟨G, 1, none⟩ = some (.int .i64 z1) ∧ w'.cell? ⟨G, 2, none⟩ = some (.int .i64 z2) ∧ w'.cell? ⟨G, 3, none⟩ = some (.int .i64 z3) ∧ w'.cell? ⟨G, 4, none⟩ = some (.bool z4) ∧ w'.cell? ⟨G, 5, none⟩ = some (.bool z5) ∧ w'.cell? ⟨G, 6, none⟩ = some (.int .i64 z6) ∧ w'.cell? ⟨G, 7, none⟩ = some (.int .i64 z7))
          (first
            | go_keep
            | (refine ⟨?_, ?_, ?_, ?_, ?_, ?_, ?_, ?_⟩ <;> with_reducible assumption))
          ((first
            | (go_at_call 8
               refine (awake_any _).mono ?_
               rintro e w11 ⟨rfl, b11'⟩
               have b11 : Below w10.heap.size w10 w11 := ⟨b11'.os, b11'.tape, b11'.output, b11'.size, b11'.block⟩
               have H11 := Lib.hid (And.intro (HQ.out.1.below b11 HQ.out.1.lt) (And.intro (HQ.out.2.1.trans (b11.mono HQ.out.2.1.size)) (And.intro (HQ.out.2.2.1.below (b11.mono HQ.out.2.2.2)) (Nat.le_trans HQ.out.2.2.2 b11.size))))
               have u0 := Blk.cell H11.out.1 0
               have u1 := Blk.cell H11.out.1 1
               have u2 := Blk.cell H11.out.1 2
               have u3 := Blk.cell H11.out.1 3
               have u4 := Blk.cell H11.out.1 4
               have u5 := Blk.cell H11.out.1 5
               have u6 := Blk.cell H11.out.1 6
               have u7 := Blk.cell H11.out.1 7
               simp [sa] at u0 u1 u2 u3 u4 u5 u6 u7
               clear b11 b11')
            | (go_at_call 15
               refine (all_any _ _ _ _ l _ H11.out.2.2.1 H11.out.2.2.2 (by omega) 1099511627776 (by omega) HL1.out.2.1 (by omega)).mono ?_
               rintro e w12 ⟨rfl, b12'⟩
               have b12 : Below w11.heap.size w11 w12 := ⟨b12'.os, b12'.tape, b12'.output, b12'.size, b12'.block⟩
               have H12 := Lib.hid (And.intro (H11.out.1.below b12 H11.out.1.lt) (H11.out.2.1.trans (b12.mono H11.out.2.1.size)))
               have x0 := Blk.cell H12.out.1 0
               have x1 := Blk.cell H12.out.1 1
               have x2 := Blk.cell H12.out.1 2
               have x3 := Blk.cell H12.out.1 3
               have x4 := Blk.cell H12.out.1 4
               have x5 := Blk.cell H12.out.1 5
               have x6 := Blk.cell H12.out.1 6
               have x7 := Blk.cell H12.out.1 7
               simp [sa] at x0 x1 x2 x3 x4 x5 x6 x7
               rw [HZ.out]
               unfold sa
               clear b12 b12')))
        go_wp2_with fail
        go_ret
        exact ⟨rfl, H12.out.2⟩
      · skip
        have HR : Hid (∀ (r : Int), FindIs l a2 r → r = -1) := fun r hr => by
          rcases hr with ⟨i, hi, hi1, _, _⟩ | ⟨h, _⟩
          · exact absurd hi1 (hno i hi)
          · exact h
        clear hno
        simp only [sa, Sm.zero]
        have p1 := H8.out.1.alloc (.cells #[.int .i64 0, .int .i64 0, .int .i64 0, .int .i64 0, .bool false, .bool false, .int .i64 0, .int .i64 0] 33)
        have p2 := H8.out.2.1.alloc H8.out.2.1.size (.cells #[.int .i64 0, .int .i64 0, .int .i64 0, .int .i64 0, .bool false, .bool false, .int .i64 0, .int .i64 0] 33)
        have p3 := H8.out.2.2.alloc (by omega) (.cells #[.int .i64 0, .int .i64 0, .int .i64 0, .int .i64 0, .bool false, .bool false, .int .i64 0, .int .i64 0] 33)
        have p4 := Blk.new w8 33 #[.int .i64 0, .int .i64 0, .int .i64 0, .int .i64 0, .bool false, .bool false, .int .i64 0, .int .i64 0]
        have h1s : w1.heap.size ≤ (w8.alloc (.cells #[.int .i64 0, .int .i64 0, .int .i64 0, .int .i64 0, .bool false, .bool false, .int .i64 0, .int .i64 0] 33)).heap.size := by simp; omega
        have H9 := Lib.hid (And.intro p1 (And.intro p2 (And.intro p3 (And.intro p4 h1s))))
        clear p1 p2 p3 p4
        go_wp2_with fail
        refine (find_any _ _ _ _ l a2 _ H9.out.2.2.1).mono ?_
        rintro e w10 ⟨r, rfl, hr, rfl⟩
        obtain rfl := HR.out r hr
        clear hr
        have e0 : (w8.alloc (.cells #[.int .i64 0, .int .i64 0, .int .i64 0, .int .i64 0, .bool false, .bool false, .int .i64 0, .int .i64 0] 33)).cell? ⟨w8.heap.size, 0, none⟩ = some (.int .i64 0) := Blk.cell H9.out.2.2.2.1 0
        have e1 : (w8.alloc (.cells #[.int .i64 0, .int .i64 0, .int .i64 0, .int .i64 0, .bool false, .bool false, .int .i64 0, .int .i64 0] 33)).cell? ⟨w8.heap.size, 1, none⟩ = some (.int .i64 0) := Blk.cell H9.out.2.2.2.1 1
        have e2 : (w8.alloc (.cells #[.int .i64 0, .int .i64 0, .int .i64 0, .int .i64 0, .bool false, .bool false, .int .i64 0, .int .i64 0] 33)).cell? ⟨w8.heap.size, 2, none⟩ = some (.int .i64 0) := Blk.cell H9.out.2.2.2.1 2
        have e3 : (w8.alloc (.cells #[.int .i64 0, .int .i64 0, .int .i64 0, .int .i64 0, .bool false, .bool false, .int .i64 0, .int .i64 0] 33)).cell? ⟨w8.heap.size, 3, none⟩ = some (.int .i64 0) := Blk.cell H9.out.2.2.2.1 3
        have e4 : (w8.alloc (.cells #[.int .i64 0, .int .i64 0, .int .i64 0, .int .i64 0, .bool false, .bool false, .int .i64 0, .int .i64 0] 33)).cell? ⟨w8.heap.size, 4, none⟩ = some (.bool false) := Blk.cell H9.out.2.2.2.1 4
        have e5 : (w8.alloc (.cells #[.int .i64 0, .int .i64 0, .int .i64 0, .int .i64 0, .bool false, .bool false, .int .i64 0, .int .i64 0] 33)).cell? ⟨w8.heap.size, 5, none⟩ = some (.bool false) := Blk.cell H9.out.2.2.2.1 5
        have e6 : (w8.alloc (.cells #[.int .i64 0, .int .i64 0, .int .i64 0, .int .i64 0, .bool false, .bool false, .int .i64 0, .int .i64 0] 33)).cell? ⟨w8.heap.size, 6, none⟩ = some (.int .i64 0) := Blk.cell H9.out.2.2.2.1 6
        have e7 : (w8.alloc (.cells #[.int .i64 0, .int .i64 0, .int .i64 0, .int .i64 0, .bool false, .bool false, .int .i64 0, .int .i64 0] 33)).cell? ⟨w8.heap.size, 7, none⟩ = some (.int .i64 0) := Blk.cell H9.out.2.2.2.1 7
        have H10 := Lib.hid (And.intro H9.out.1 (And.intro H9.out.2.1 (And.intro H9.out.2.2.1 H9.out.2.2.2.2)))
        clear H8 H9 h1s
        generalize w8.alloc (.cells #[.int .i64 0, .int .i64 0, .int .i64 0, .int .i64 0, .bool false, .bool false, .int .i64 0, .int .i64 0] 33) = w10 at *
        go_wp2_with fail
        go_quiet (fail)
        go_wp2_with fail
        have HQ := Lib.hid (And.intro (H10.out.1.drewN nq) (And.intro (below_drewN H10.out.2.1 nq) (And.intro (H10.out.2.2.1.drewN nq) (show w1.heap.size ≤ (w10.drewN nq).heap.size from H10.out.2.2.2))))
        clear H10
        generalize w10.drewN nq = w10 at *
        have HAll := Lib.hid (allL_bd (K := 1099511627776) (by omega) HL1.out.2.1)
        generalize hZ : allL l = Z at *
        have HZ := Lib.hid hZ
        clear hZ
        obtain ⟨z0, z1, z2, z3, z4, z5, z6, z7⟩ := Z
        have kg := HQ.out.1
        have t0 := Blk.cell kg 0
        have t1 := Blk.cell kg 1
        have t2 := Blk.cell kg 2
        have t3 := Blk.cell kg 3
        have t4 := Blk.cell kg 4
        have t5 := Blk.cell kg 5
        have t6 := Blk.cell kg 6
        have t7 := Blk.cell kg 7
        simp [sa] at t0 t1 t2 t3 t4 t5 t6 t7
        clear kg
        go_region_held3 (fun w' => w'.cell? ⟨G, 0, none⟩ = some (.int .i64 z0) ∧ w'.cell? ⟨G, 1, none⟩ = some (.int .i64 z1) ∧ w'.cell? ⟨G, 2, none⟩ = some (.int .i64 z2) ∧ w'.cell? ⟨G, 3, none⟩ = some (.int .i64 z3) ∧ w'.cell? ⟨G, 4, none⟩ = some (.bool z4) ∧ w'.cell? ⟨G, 5, none⟩ = some (.bool z5) ∧ w'.cell? ⟨G, 6, none⟩ = some (.int .i64 z6) ∧ w'.cell? ⟨G, 7, none⟩ = some (.int .i64 z7))
          (first
            | go_keep
            | (refine ⟨?_, ?_, ?_, ?_, ?_, ?_, ?_, ?_⟩ <;> with_reducible assumption))
          ((first
            | (go_at_call 8
               refine (awake_any _).mono ?_
               rintro e w11 ⟨rfl, b11'⟩
               have b11 : Below w10.heap.size w10 w11 := ⟨b11'.os, b11'.tape, b11'.output, b11'.size, b11'.block⟩
               have H11 := Lib.hid (And.intro (HQ.out.1.below b11 HQ.out.1.lt) (And.intro (HQ.out.2.1.trans (b11.mono HQ.out.2.1.size)) (And.intro (HQ.out.2.2.1.below (b11.mono HQ.out.2.2.2)) (Nat.le_trans HQ.out.2.2.2 b11.size))))
               have u0 := Blk.cell H11.out.1 0
               have u1 := Blk.cell H11.out.1 1
               have u2 := Blk.cell H11.out.1 2
               have u3 := Blk.cell H11.out.1 3
               have u4 := Blk.cell H11.out.1 4
               have u5 := Blk.cell H11.out.1 5
               have u6 := Blk.cell H11.out.1 6
               have u7 := Blk.cell H11.out.1 7
               simp [sa] at u0 u1 u2 u3 u4 u5 u6 u7
               clear b11 b11')
            | (go_at_call 15
               refine (all_any _ _ _ _ l _ H11.out.2.2.1 H11.out.2.2.2 (by omega) 1099511627776 (by omega) HL1.out.2.1 (by omega)).mono ?_
               rintro e w12 ⟨rfl, b12'⟩
               have b12 : Below w11.heap.size w11 w12 := ⟨b12'.os, b12'.tape, b12'.output, b12'.size, b12'.block⟩
               have H12 := Lib.hid (And.intro (H11.out.1.below b12 H11.out.1.lt) (H11.out.2.1.trans (b12.mono H11.out.2.1.size)))
               have x0 := Blk.cell H12.out.1 0
               have x1 := Blk.cell H12.out.1 1
               have x2 := Blk.cell H12.out.1 2
               have x3 := Blk.cell H12.out.1 3
               have x4 := Blk.cell H12.out.1 4
               have x5 := Blk.cell H12.out.1 5
               have x6 := Blk.cell H12.out.1 6
               have x7 := Blk.cell H12.out.1 7
               simp [sa] at x0 x1 x2 x3 x4 x5 x6 x7
               rw [HZ.out]
               unfold sa
               clear b12 b12')))
        go_wp2_with fail
        go_ret
        exact ⟨rfl, H12.out.2⟩

theorem own : ownKnob Try.prog.godebug = none := by kernel_rfl

set_option maxRecDepth 100000 in
theorem lifted (os : Os) (started : os.Started) (H : Type) (enc : TypeId × Value → H) :
    ReturnsInHanded {} Try.checked os 6 .any (Rows.tallyAddsSpec.pre6 enc Try.prog Try.f6 Rows.tallyAddsRow.domain false) (Rows.tallyAddsSpec.post enc Try.prog Try.f6 false true false false) := by
  refine returnsInHanded_of_change (C := Try.checked) own started (by kernel_rfl) Try.func6
    (ChangeSpec.witness6 (enc := enc) (C := Try.checked) false ⟨#[], #[.slice none 0 0, .slice none 0 0, .int .i64 0], []⟩ 8 (by kernel_rfl) (by kernel_rfl) (by kernel_rfl) (by kernel_rfl)) ?_
  intro W base args ds gs before hval0 hW hcnd _
  have hval : ∀ (j : Nat) t v, Try.f6.params[j]? = some t → args[j]? = some v → Value.okWide Try.prog W .any base t v := hval0
  have hW' := hW
  obtain ⟨p, q, hA0, hV, rfl, hfz, hnd⟩ := hW
  have hA : DataW.TrodAll enc Try.prog W 0 (fun _ => true) true Try.f6.params.toList args.toList ds p := hA0
  rw [Try.params6] at hA hval
  obtain ⟨v0, vs0, d0, ds0, p0, q0, hargs, rfl, rfl, h0, r0⟩ := trodAll_cons hA
  obtain ⟨v1, vs1, d1, ds1, p1, q1, rfl, rfl, rfl, h1, r1⟩ := trodAll_cons r0
  obtain ⟨v2, vs2, d2, ds2, p2, q2, rfl, rfl, rfl, h2, r2⟩ := trodAll_cons r1
  obtain ⟨rfl, rfl, rfl⟩ := trodAll_nil r2
  obtain rfl : args = #[v0, v1, v2] := by cases args; simp_all
  obtain ⟨rfl, rfl⟩ := trodVars_none hV
  have g0 := h0
  have g1 := h1
  have g2 := h2
  obtain ⟨n0, C0, k0⟩ := open_rows Try.underlying26 (by kernel_rfl) (by decide) (sm_of Try.underlying33 Try.underlying3 Try.underlying4 (by kernel_rfl) (by kernel_rfl) rfl rfl rfl rfl rfl rfl rfl rfl rfl rfl rfl rfl rfl rfl rfl rfl) (hval 0 26 v0 rfl rfl) h0
  obtain ⟨n1, C1, k1⟩ := open_rows Try.underlying26 (by kernel_rfl) (by decide) (sm_of Try.underlying33 Try.underlying3 Try.underlying4 (by kernel_rfl) (by kernel_rfl) rfl rfl rfl rfl rfl rfl rfl rfl rfl rfl rfl rfl rfl rfl rfl rfl) (hval 1 26 v1 rfl rfl) h1
  obtain ⟨a2, rfl, _, _, w2⟩ := open_int Try.underlying3 (hval 2 3 v2 rfl rfl) h2
  clear hA0 hval0
  have hlt : ∀ x ∈ (p0 ++ (p1 ++ (p2 ++ []))), x.block < W.heap.size := fun x hx => hW'.lt x (by simpa using hx)
  refine (walk W v0 n0 C0 k0 v1 n1 C1 k1 a2 w2).mono fun e W' ⟨he, hb⟩ => ?_
  subst he
  refine ⟨_, rfl, post_of_below (pa := (p0 ++ (p1 ++ (p2 ++ [])))) (pv := []) hW' (fun _ _ _ => (trodAll_cons_mk (shut_bool Try.underlying4 _) trodAll_mk0)) (fun sp hsp => ?_) (fun _ _ => rfl) (by simp) hb (ok_one (by kernel_rfl) rfl (okWide_bool_mk Try.underlying4 _))⟩
  exact trodAll_cons_mk (below_trod sp (by kernel_rfl) (by kernel_rfl) (of_decide_eq_true (by kernel_rfl)) g0 hb (fun x hx => hlt x (by simp [hx])) (fun x hx => hsp x (by simp [hx])))
    (trodAll_cons_mk (below_trod sp (by kernel_rfl) (by kernel_rfl) (of_decide_eq_true (by kernel_rfl)) g1 hb (fun x hx => hlt x (by simp [hx])) (fun x hx => hsp x (by simp [hx])))
    (trodAll_cons_mk (below_trod sp (by kernel_rfl) (by kernel_rfl) (of_decide_eq_true (by kernel_rfl)) g2 hb (fun x hx => hlt x (by simp [hx])) (fun x hx => hsp x (by simp [hx])))
    (trodAll_mk0)))

theorem over : Rows.tallyAddsRow.holds Try.pinned (OpenSpec.ofChange Rows.tallyAddsSpec) :=
  OpenClaim.holds_of_wide 6 Try.f6 rfl rfl rfl rfl rfl rfl rfl ⟨rfl, rfl, rfl, rfl, rfl⟩ rfl rfl rfl rfl rfl (by kernel_rfl) Try.func6 (by kernel_rfl)
    (of_decide_eq_true (by kernel_rfl)) (by unfold Func.isWrapper; rw [if_neg (by decide +kernel)]; exact ⟨rfl, rfl⟩)
    (fun os started H enc _ => lifted os started H enc)

theorem proved : Rows.TallyAddsSaid := over
#print axioms proved
end Go.Proofs.Yteokepnkgdhkkaa.TallyAdds
