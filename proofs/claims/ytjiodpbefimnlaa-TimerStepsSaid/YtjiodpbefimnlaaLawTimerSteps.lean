/- Proved: TimerSteps answers true for every input, and leaves its arguments as they were; no condition. -/
import Derived.Test.YtjiodpbefimnlaaRows
import Derived.Test.YtjiodpbefimnlaaMem
import Derived.Test.YtjiodpbefimnlaaLift
import Derived.Test.YtjiodpbefimnlaaTimS
import Derived.WalkKit
import Derived.ProofKit
import Derived.OpenShut
import Derived.Handy
import Derived.Deep.QuietTactic
import Derived.BigQuiet
import Derived.Deep.RegionWith
import Derived.WalkLawsBesides
import Derived.Deep.RegionHeld3
namespace Go.Proofs.Ytjiodpbefimnlaa.TimerSteps
open Go.ChangeShapes Go.WideShapes Go.ChangeAt Go.RowKit Go.Deep
set_option linter.unusedVariables false

set_option maxRecDepth 100000 in
set_option maxHeartbeats 16000000 in
theorem walk (w : World) (v0 : Value) (n : Nat) (C : Nat → List Value) (h0 : RowsAt w v0 n 4 IIIB C) (v1 : Value) (n1 : Nat) (C1 : Nat → List Value) (h1 : RowsAt w v1 n1 1 (OneNum .u16) C1) :
    Calls Try.prog 4 #[v0, v1] w fun e w' => e = .returned (.bool true) ∧ Below w.heap.size w w' := by
  obtain ⟨A1, cap, rfl, hnc, hcap, hcells⟩ := h0
  obtain ⟨A2, cap2, rfl, hnc2, hcapb, hcells2⟩ := h1
  have HC := Lib.hid hcells
  have HC2 := Lib.hid hcells2
  obtain ⟨i0, hi0, hz0, hz1, hz2⟩ := info_parts info_INT
  clear hcells hcells2
  go_enter Try.func4, Try.ntmps4
  go_wp2_with fail
  refine (new_any _).mono ?_
  rintro e w1 ⟨g, b, rfl, hg, hb, k1, b1⟩
  have H1 := Lib.hid (And.intro k1 b1)
  have hgl := k1.lt
  clear k1 b1
  go_wp2_with fail
  refine (new_any _).mono ?_
  rintro e w2 ⟨g', b', rfl, hg', hb', k2, b2⟩
  have hs1 := H1.out.2.size
  have H2 := Lib.hid (And.intro (H1.out.1.below b2) (And.intro k2 (H1.out.2.trans (b2.mono hs1))))
  have hne : g ≠ g' ∧ b ≠ b' ∧ g ≠ b' ∧ b ≠ g' := by omega
  have hgl' := k2.lt
  clear k2 b2 H1
  go_wp2_with fail
  refine (awake_any _).mono ?_
  rintro e w3 ⟨rfl, b3⟩
  have H3 := Lib.hid (And.intro (H2.out.1.below b3) (And.intro (H2.out.2.1.below b3) (H2.out.2.2.trans (b3.mono H2.out.2.2.size))))
  have hs3 := b3.size
  have HNE := Lib.hid hne
  have hgw : g < w3.heap.size ∧ b < w3.heap.size ∧ g' < w3.heap.size ∧ b' < w3.heap.size := by
    have := H2.out.1.lt
    omega
  have HGE := Lib.hid (show w.heap.size ≤ g ∧ w.heap.size ≤ b ∧ w.heap.size ≤ g' ∧ w.heap.size ≤ b' by omega)
  have H3S := Lib.hid (show w.heap.size ≤ w3.heap.size from H3.out.2.2.size)
  clear b3 H2 hne hg hb hg' hb' hgl hgl' hs1 hs3
  go_wp2_with fail
  go_loopw [7] (fun iv wr => ∃ (m : Nat) (l : List (Int × Int)), m ≤ 60 ∧ iv = .int .i64 m ∧ l.length ≤ m ∧ Whl wr g b l 0 ∧ Whl wr g' b' l 0 ∧ Below w.heap.size w wr ∧ w3.heap.size ≤ wr.heap.size) (fun i _ => 60 - (intOf i).toNat)
  case atStart => exact ⟨0, [], by omega, rfl, by simp, H3.out.1, H3.out.2.1, H3.out.2.2, Nat.le_refl _⟩
  case round =>
    obtain ⟨m, l, hm, rfl, hlm, ka, kb, rb, hsw⟩ := hrel
    have HK := Lib.hid (And.intro ka (And.intro kb rb))
    clear ka kb rb H3
    by_cases hgo : m < n ∧ m < 60
    · as_aux_lemma =>
      obtain ⟨hlt, hlt2⟩ := hgo
      obtain ⟨bq, off, kd, x, y, bh, rfl, hbl, c0, c1, c2, c3, hx0, hx, hy⟩ := iiib_at HC.out hlt
      have C1 := Lib.hid (And.intro c1 c2)
      rw [← HK.out.2.2.cell (p := ⟨bq, off + m * 4 + 1, none⟩) hbl] at c1
      rw [← HK.out.2.2.cell (p := ⟨bq, off + m * 4 + 2, none⟩) hbl] at c2
      have hm0 : (0 : Int) ≤ m := by omega
      have hm1 : (m : Int) < n := by omega
      have HX := Lib.hid hx
      clear hx hy hx0 c0 c3
      by_cases hr : y < 0 ∨ 1099511627776 < y
      · as_aux_lemma =>
        have HSA := Lib.hid (fun W (kW : Whl W g b l 0) => set_range g b l 0 W kW x y HX.out hr)
        have HSB := Lib.hid (fun W (kW : Whl W g' b' l 0) => set_range g' b' l 0 W kW x y HX.out hr)
        clear hr
        go_wp2_with fail
        refine wp_region_ord (fun w' => w'.cell? ⟨bq, off + m * 4 + 1, none⟩ = some (.int .i64 x) ∧ w'.cell? ⟨bq, off + m * 4 + 2, none⟩ = some (.int .i64 y)) 24 [(true, 0), (true, 1), (true, 2), (true, 3), (true, 4), (true, 5), (true, 6), (true, 7), (true, 8), (true, 9), (true, 10), (true, 12), (true, 13), (true, 14), (true, 15), (true, 16), (true, 17), (true, 18), (true, 19), (true, 20), (true, 21), (true, 22), (false, 11), (false, 23)] default (by kernel_rfl) (by kernel_rfl) (fun d _ _ _ _ h => by cases d <;> exact h) ?_ ?_
        · exact ⟨c1, c2⟩
        simp only [List.map_cons, List.map_nil, List.getD_cons_succ, List.getD_cons_zero]
        repeat
          (refine heldL_take ?_ ?_ ?_
           rotate_left
           · intro w' hw'
             try dsimp only at hw'
             go_simp
             try with_reducible rfl
           try simp only [Act.put, List.setIfInBounds_toArray, List.set_cons_zero, List.set_cons_succ])
        refine heldL_move (fun K hK => ?_)
        go_simp
        refine (HSA.out _ (by exact HK.out.1.drewN 1)).mono ?_
        rintro e w4 ⟨rfl, rfl⟩
        refine hK.out _ _ ⟨c1, c2⟩ (fun hS => ?_)
        clear hK K hS
        try simp only [Act.put, List.setIfInBounds_toArray, List.set_cons_zero, List.set_cons_succ]
        refine heldL_move (fun K hK => ?_)
        go_simp
        refine (HSB.out _ (by exact HK.out.2.1.drewN 1)).mono ?_
        rintro e w4 ⟨rfl, rfl⟩
        refine hK.out _ _ ⟨c1, c2⟩ (fun hS => ?_)
        clear hK K hS
        try simp only [Act.put, List.setIfInBounds_toArray, List.set_cons_zero, List.set_cons_succ]
        refine heldL_last (fun K hK => ?_)
        go_simp
        refine hK _ _ ?_
        clear hK K
        try simp only [Act.put, List.setIfInBounds_toArray, List.set_cons_zero, List.set_cons_succ]
        go_wp2_with fail
        go_roundw
        case rel => exact ⟨m + 1, l, by omega, by go_num, by omega, HK.out.1.drewN 1, HK.out.2.1.drewN 1, below_drewN HK.out.2.2 1, hsw⟩
        case measure => simp [intOf]; omega
      · as_aux_lemma =>
        have hr1 : 0 ≤ y := by omega
        have hr2 : y ≤ 1099511627776 := by omega
        have HSA := Lib.hid (fun W (kW : Whl W g b l 0) => set_ok' g b l 0 W kW x y HX.out hr1 hr2 (fun _ => by omega))
        have HSB := Lib.hid (fun W (kW : Whl W g' b' l 0) => set_ok' g' b' l 0 W kW x y HX.out hr1 hr2 (fun _ => by omega))
        have hL5 : (setT l x y).length ≤ m + 1 := by
          obtain ⟨_, _, e3⟩ := HK.out.1.sd.set (setT_is l x y)
          rw [e3]
          split <;> omega
        generalize setT l x y = L at *
        clear hr hr1 hr2
        go_wp2_with fail
        refine wp_region_ord (fun w' => w'.cell? ⟨bq, off + m * 4 + 1, none⟩ = some (.int .i64 x) ∧ w'.cell? ⟨bq, off + m * 4 + 2, none⟩ = some (.int .i64 y)) 24 [(true, 0), (true, 1), (true, 2), (true, 3), (true, 4), (true, 5), (true, 6), (true, 7), (true, 8), (true, 9), (true, 10), (true, 12), (true, 13), (true, 14), (true, 15), (true, 16), (true, 17), (true, 18), (true, 19), (true, 20), (true, 21), (true, 22), (false, 11), (false, 23)] default (by kernel_rfl) (by kernel_rfl) (fun d _ _ _ _ h => by cases d <;> exact h) ?_ ?_
        · exact ⟨c1, c2⟩
        simp only [List.map_cons, List.map_nil, List.getD_cons_succ, List.getD_cons_zero]
        repeat
          (refine heldL_take ?_ ?_ ?_
           rotate_left
           · intro w' hw'
             try dsimp only at hw'
             go_simp
             try with_reducible rfl
           try simp only [Act.put, List.setIfInBounds_toArray, List.set_cons_zero, List.set_cons_succ])
        refine heldL_move (fun K hK => ?_)
        go_simp
        refine (HSA.out wr.drew (by exact HK.out.1.drewN 1)).mono ?_
        rintro e w4 ⟨rfl, k4, g4⟩
        have kb4 := whl_grown (by exact HK.out.2.1.drewN 1) g4 (Ne.symm HNE.out.2.2.2) (Ne.symm HNE.out.2.1)
        have H4 := Lib.hid (And.intro k4 (And.intro kb4 ((show Below w.heap.size w wr.drew from below_drewN HK.out.2.2 1).grown g4 HK.out.2.2.size (fun k hk => by injection hk with hk; have := HGE.out; omega))))
        have hs4 : wr.heap.size ≤ w4.heap.size := g4.size
        clear k4 g4 kb4
        have d1 := (H4.out.2.2.cell (p := ⟨bq, off + m * 4 + 1, none⟩) hbl).trans C1.out.1
        have d2 := (H4.out.2.2.cell (p := ⟨bq, off + m * 4 + 2, none⟩) hbl).trans C1.out.2
        refine hK.out _ _ ⟨d1, d2⟩ (fun hS => ?_)
        clear hK K hS c1 c2
        try simp only [Act.put, List.setIfInBounds_toArray, List.set_cons_zero, List.set_cons_succ]
        refine heldL_move (fun K hK => ?_)
        go_simp
        refine (HSB.out w4 (by exact H4.out.2.1)).mono ?_
        rintro e w5 ⟨rfl, k5, g5⟩
        have ka5 := whl_grown H4.out.1 g5 HNE.out.2.2.1 HNE.out.2.1
        have H5 := Lib.hid (And.intro ka5 (And.intro k5 (H4.out.2.2.grown g5 H4.out.2.2.size (fun k hk => by injection hk with hk; have := HGE.out; omega))))
        have hs5 := g5.size
        clear k5 g5 ka5
        have e1 := (H5.out.2.2.cell (p := ⟨bq, off + m * 4 + 1, none⟩) hbl).trans C1.out.1
        have e2 := (H5.out.2.2.cell (p := ⟨bq, off + m * 4 + 2, none⟩) hbl).trans C1.out.2
        refine hK.out _ _ ⟨e1, e2⟩ (fun hS => ?_)
        clear hK K hS d1 d2
        try simp only [Act.put, List.setIfInBounds_toArray, List.set_cons_zero, List.set_cons_succ]
        refine heldL_last (fun K hK => ?_)
        go_simp
        refine hK _ _ ?_
        clear hK K
        try simp only [Act.put, List.setIfInBounds_toArray, List.set_cons_zero, List.set_cons_succ]
        go_wp2_with fail
        go_roundw
        case rel => exact ⟨m + 1, L, by omega, by go_num, by omega, H5.out.1, H5.out.2.1, H5.out.2.2, by omega⟩
        case measure => simp [intOf]; omega
    · have hend : ¬ m < n ∨ (m < n ∧ ¬ m < 60) := by omega
      have hl60 : l.length ≤ 60 := by omega
      clear hgo
      rcases hend with hend | ⟨hend, hend2⟩
      all_goals
        as_aux_lemma =>
        go_wp2_with fail
        clear hend hlm
        go_loopw [8, 9, 10] (fun s8 s9 iv wq => ∃ (i k q c : Nat) (A : Option Addr) (T : Int), i ≤ 60 ∧ s8 = .int .i64 T ∧ s9 = .slice A q c ∧ iv = .int .i64 i ∧ 0 ≤ T ∧ T ≤ i * 65536 ∧ q = k ∧ k ≤ l.length ∧ (∀ p ∈ l.take k, p.2 ≤ T) ∧ wq.ownsRow w3.heap.size 3 1 (.slice A q c) q (nums (ids (l.take k))) ∧ Whl wq g b (l.drop k) T ∧ Whl wq g' b' l 0 ∧ Below w.heap.size w wq ∧ w3.heap.size ≤ wq.heap.size) (fun _ _ i _ => 60 - (intOf i).toNat)
        case atStart => exact ⟨0, 0, 0, 0, none, 0, by omega, rfl, rfl, rfl, by omega, by omega, rfl, Nat.zero_le _, (fun p hp => by simp at hp), own_nil _ _ _ _, HK.out.1, HK.out.2.1, HK.out.2.2, hsw⟩
        case round =>
          obtain ⟨i, k, q, c, A, T, hi, rfl, rfl, rfl, hT0, hT1, hqk, hk, hle, ho, ka, kb, rb, hsq⟩ := hrel
          have HQ := Lib.hid hqk
          have hq60 : q ≤ 60 := by omega
          have HK2 := Lib.hid (And.intro ka (And.intro kb (And.intro rb (And.intro ho hle))))
          clear ka kb rb ho hle HK hqk hsw
          by_cases hgo : i < n1 ∧ i < 60
          · as_aux_lemma =>
            obtain ⟨hlt, hlt2⟩ := hgo
            obtain ⟨⟨s, hs, hsw⟩, _, bs, os, rfl, hbl, hc⟩ := HC2.out i hlt
            have c0 := hc 0 (.int .u16 s) (by rw [hs]; rfl)
            have hs1 : 0 ≤ s ∧ s ≤ 65535 := by
              have e1 : IntKind.u16.min = 0 := by decide
              have e2 : IntKind.u16.max = 65535 := by decide
              simpa [Lit.wf, e1, e2] using hsw
            clear hc hs hsw
            obtain ⟨hs1, hs2⟩ := hs1
            simp only [Nat.mul_one, Nat.add_zero] at c0
            rw [← HK2.out.2.2.1.cell (p := ⟨bs, os + i, none⟩) hbl] at c0
            have hii0 : (0 : Int) ≤ i := by omega
            have hii1 : (i : Int) < n1 := by omega
            have hck : clk T (T + s) = T + s := by unfold clk; rw [if_pos (by omega)]
            have ha := fun W (kW : Whl W g b (l.drop k) T) => advance_any g b (l.drop k) T (T + s) W kW
            rw [hck] at ha
            have HA := Lib.hid ha
            have hts0 : 0 ≤ T + s := by omega
            have hts1 : T + s ≤ (i + 1) * 65536 := by omega
            have HTS := Lib.hid (show T ≤ T + s by omega)
            clear ha hck
            go_wp2_with fail
            refine (HA.out _ HK2.out.1).mono ?_
            rintro e w4 ⟨G, cg, rfl, h7, k7, o7⟩
            generalize T + s = T' at *
            have HDL := Lib.hid (due_le (l.drop k) T')
            have HTD := Lib.hid (take_due (l := l) (k := k) T')
            have HTL := Lib.hid (take_le HK2.out.2.2.2.2 HTS.out)
            have HIL := Lib.hid (ids_len (dueT (l.drop k) T'))
            have hkd : k + (dueT (l.drop k) T').length ≤ l.length := by have := HDL.out; rw [List.length_drop] at this; omega
            rw [List.drop_drop] at k7
            generalize hd : (dueT (l.drop k) T').length = d at *
            have o4 := own_only HK2.out.2.2.2.1 o7 (fun z hz => by have := ownBlock_ge HK2.out.2.2.2.1 hz; simp; omega)
            have kb4 := whl_only HK2.out.2.1 o7 (by simp; have := HNE.out; omega) (by simp; have := HNE.out; omega)
            have H4 := Lib.hid (And.intro k7 (And.intro kb4 (And.intro (bonly HK2.out.2.2.1 o7 (by intro z hz; simp at hz; have := HGE.out; omega)) (And.intro o4 (reads_of_held h7)))))
            have hs4 := o7.size
            have hcg := h7.2.1
            have HDD := Lib.hid hd
            clear h7 k7 o7 o4 kb4 hd HA c0 HK2
            go_wp2_with (first
              | (at_builtin
                 refine wpList_append_any _ rfl (.tmp 75) (.tmp 78) _ rfl w3.heap.size 3 i0 _ 1 8 Try.underlying34 hi0 hz0 hz1 hz2 rfl (by omega) (.slice A q c) q _ rfl H4.out.2.2.2.1 w4.heap.size G d cg _ rfl H4.out.2.2.2.2 (nums_one _) (by simp only [maxLen]; omega) (by omega) (by omega) ?_
                 intro v5 w5 hn5 hg5 hd5
                 obtain ⟨A5, c5, rfl⟩ := slice_of_own' hn5
                 have hge := fun {z : Nat} (hz : (Value.slice A q c).ownBlock = some z) => ownBlock_ge H4.out.2.2.2.1 hz
                 have hneb : ∀ z, z < w3.heap.size → some z ≠ (Value.slice A q c).ownBlock := fun z hz e => by have := hge e.symm; omega
                 have ka5 := H4.out.1.same (w' := w5) (hg5.block g H4.out.1.lt.1 (hneb g (by omega))) (hg5.block b H4.out.1.lt.2 (hneb b (by omega)))
                 have kb5 := H4.out.2.1.same (w' := w5) (hg5.block g' H4.out.2.1.lt.1 (hneb g' (by omega))) (hg5.block b' H4.out.2.1.lt.2 (hneb b' (by omega)))
                 have H5 := Lib.hid (And.intro ka5 (And.intro kb5 (And.intro (H4.out.2.2.1.grown hg5 H4.out.2.2.1.size (fun z hz => by have := hge hz; have := H3S.out; omega)) hn5)))
                 have hs5 := hg5.size
                 clear hn5 hg5 hd5 hge hneb ka5 kb5))
            go_roundw
            case rel => exact ⟨i + 1, k + d, q + d, c5, A5, T', by omega, rfl, rfl, by go_num, hts0, by omega, by have := HQ.out; omega, hkd, HTL.out, by
              have h := H5.out.2.2.2
              rw [← nums_append, ← ids_append, ← HTD.out] at h
              exact h, H5.out.1, H5.out.2.1, H5.out.2.2.1, by omega⟩
            case measure => simp [intOf]; omega
          · have hend : ¬ i < n1 ∨ (i < n1 ∧ ¬ i < 60) := by omega
            clear hgo
            have hck : clk T T = T := by unfold clk; rw [if_pos (by omega)]
            have hck0 : clk 0 T = T := by unfold clk; rw [if_pos (by omega)]
            have ha := fun W (kW : Whl W g b (l.drop k) T) => advance_any g b (l.drop k) T T W kW
            rw [hck] at ha
            have HA := Lib.hid ha
            have hb := fun W (kW : Whl W g' b' l 0) => advance_any g' b' l 0 T W kW
            rw [hck0] at hb
            have HB := Lib.hid hb
            clear ha hb hck hck0
            rcases hend with hend | ⟨hend, hend2⟩
            all_goals
              as_aux_lemma =>
              go_wp2_with fail
              refine (HA.out _ HK2.out.1).mono ?_
              rintro e w4 ⟨G, cg, rfl, h7, k7, o7⟩
              have HDL := Lib.hid (due_le (l.drop k) T)
              have HTD := Lib.hid (take_due (l := l) (k := k) T)
              have HTL := Lib.hid (take_le HK2.out.2.2.2.2 (Int.le_refl T))
              have hdr := due_rest HK2.out.1.sd T
              rw [List.drop_drop] at hdr
              have HSP := Lib.hid (due_split HTL.out hdr)
              have hkd : k + (dueT (l.drop k) T).length ≤ l.length := by have := HDL.out; rw [List.length_drop] at this; omega
              rw [List.drop_drop] at k7
              have HQ2 := Lib.hid (show (dueT l T).length = k + (dueT (l.drop k) T).length by rw [HSP.out, List.length_take]; omega)
              clear hdr
              generalize hd : (dueT (l.drop k) T).length = d at *
              have o4 := own_only HK2.out.2.2.2.1 o7 (fun z hz => by have := ownBlock_ge HK2.out.2.2.2.1 hz; simp; omega)
              have kb4 := whl_only HK2.out.2.1 o7 (by simp; have := HNE.out; omega) (by simp; have := HNE.out; omega)
              have H4 := Lib.hid (And.intro k7 (And.intro kb4 (And.intro (bonly HK2.out.2.2.1 o7 (by intro z hz; simp at hz; have := HGE.out; omega)) (And.intro o4 (reads_of_held h7)))))
              have hs4 := o7.size
              have hcg := h7.2.1
              have HDD := Lib.hid hd
              clear h7 k7 o7 o4 kb4 hd HA HK2
              go_wp2_with (first
                | (at_builtin
                   refine wpList_append_any _ rfl (.tmp 80) (.tmp 83) _ rfl w3.heap.size 3 i0 _ 1 8 Try.underlying34 hi0 hz0 hz1 hz2 rfl (by omega) (.slice A q c) q _ rfl H4.out.2.2.2.1 w4.heap.size G d cg _ rfl H4.out.2.2.2.2 (nums_one _) (by simp only [maxLen]; omega) (by omega) (by omega) ?_
                   intro v5 w5 hn5 hg5 hd5
                   obtain ⟨A5, c5, rfl⟩ := slice_of_own' hn5
                   have hge := fun {z : Nat} (hz : (Value.slice A q c).ownBlock = some z) => ownBlock_ge H4.out.2.2.2.1 hz
                   have hneb : ∀ z, z < w3.heap.size → some z ≠ (Value.slice A q c).ownBlock := fun z hz e => by have := hge e.symm; omega
                   have ka5 := H4.out.1.same (w' := w5) (hg5.block g H4.out.1.lt.1 (hneb g (by omega))) (hg5.block b H4.out.1.lt.2 (hneb b (by omega)))
                   have kb5 := H4.out.2.1.same (w' := w5) (hg5.block g' H4.out.2.1.lt.1 (hneb g' (by omega))) (hg5.block b' H4.out.2.1.lt.2 (hneb b' (by omega)))
                   have H5 := Lib.hid (And.intro ka5 (And.intro kb5 (And.intro (H4.out.2.2.1.grown hg5 H4.out.2.2.1.size (fun z hz => by have := hge hz; have := H3S.out; omega)) hn5)))
                   clear hn5 hg5 hd5 hge hneb ka5 kb5))
              have hgot : Hid (Held w5 3 1 A5 (q + d) c5 (nums (ids (dueT l T)))) := by
                have h := H5.out.2.2.2
                rw [← nums_append, ← ids_append, ← HTD.out, ← HSP.out] at h
                exact Held.of_own h
              refine (HB.out _ H5.out.2.1).mono ?_
              rintro e w6 ⟨G6, c6, rfl, h6, k6, o6⟩
              rw [HQ2.out] at h6 k6 ⊢
              have ka6 := whl_only H5.out.1 o6 (by simp; have := HNE.out; omega) (by simp; have := HNE.out; omega)
              have hg6 := held_only2 (by decide) hgot.out H5.out.2.1 o6
              have H6 := Lib.hid (And.intro ka6 (And.intro k6 (And.intro (bonly H5.out.2.2.1 o6 (by intro z hz; simp at hz; have := HGE.out; omega)) (And.intro hg6 h6))))
              clear ka6 k6 o6 hg6 h6
              have hqd : Hid (q + d = (ids (dueT l T)).length ∧ k + d = (ids (dueT l T)).length) := by
                rw [ids_len, HQ2.out]
                exact ⟨by have := HQ.out; omega, rfl⟩
              have HLL := Lib.hid (show (ids (dueT l T)).length ≤ 100000 by rw [ids_len, HQ2.out]; omega)
              go_wp2_with fail
              refine (ints_eq A5 G6 (q + d) (k + d) c5 c6 (ids (dueT l T)) w6 hqd.out.1 hqd.out.2 H6.out.2.2.2.1 H6.out.2.2.2.2 HLL.out).mono ?_
              rintro e w7 ⟨rfl, q7, rfl⟩
              have H7 := Lib.hid (And.intro (H6.out.1.drewN q7) (And.intro (H6.out.2.1.drewN q7) (below_drewN H6.out.2.2.1 q7)))
              generalize w6.drewN q7 = w7 at *
              go_wp2_with fail
              refine (len_any g b _ T w7 H7.out.1).mono ?_
              rintro e w8 ⟨rfl, rfl⟩
              go_wp2_with fail
              refine (len_any g' b' _ T w7 H7.out.2.1).mono ?_
              rintro e w8 ⟨rfl, rfl⟩
              go_wp2_with fail
              refine (now_any g b _ T w7 H7.out.1).mono ?_
              rintro e w8 ⟨rfl, rfl⟩
              go_wp2_with fail
              refine (now_any g' b' _ T w7 H7.out.2.1).mono ?_
              rintro e w8 ⟨rfl, rfl⟩
              go_wp2_with fail
              go_ret
              exact ⟨rfl, H7.out.2.2⟩

theorem own : ownKnob Try.prog.godebug = none := by kernel_rfl

set_option maxRecDepth 100000 in
theorem lifted (os : Os) (started : os.Started) (H : Type) (enc : TypeId × Value → H) :
    ReturnsInHanded {} Try.checked os 4 .any (Rows.timerStepsSpec.pre6 enc Try.prog Try.f4 Rows.timerStepsRow.domain false) (Rows.timerStepsSpec.post enc Try.prog Try.f4 false true false false) := by
  refine returnsInHanded_of_change (C := Try.checked) own started (by kernel_rfl) Try.func4
    (ChangeSpec.witness6 (enc := enc) (C := Try.checked) false ⟨#[], #[.slice none 0 0, .slice none 0 0], []⟩ 8 (by kernel_rfl) (by kernel_rfl) (by kernel_rfl) (by kernel_rfl)) ?_
  intro W base args ds gs before hval0 hW hcnd _
  have hval : ∀ (j : Nat) t v, Try.f4.params[j]? = some t → args[j]? = some v → Value.okWide Try.prog W .any base t v := hval0
  have hW' := hW
  obtain ⟨p, q, hA0, hV, rfl, hfz, hnd⟩ := hW
  have hA : DataW.TrodAll enc Try.prog W 0 (fun _ => true) true Try.f4.params.toList args.toList ds p := hA0
  rw [Try.params4] at hA hval
  obtain ⟨v0, vs0, d0, ds0, p0, q0, hargs, rfl, rfl, h0, r0⟩ := trodAll_cons hA
  obtain ⟨v1, vs1, d1, ds1, p1, q1, rfl, rfl, rfl, h1, r1⟩ := trodAll_cons r0
  obtain ⟨rfl, rfl, rfl⟩ := trodAll_nil r1
  obtain rfl : args = #[v0, v1] := by cases args; simp_all
  obtain ⟨rfl, rfl⟩ := trodVars_none hV
  have g0 := h0
  have g1 := h1
  obtain ⟨n0, C0, k0⟩ := open_rows Try.underlying22 (by kernel_rfl) (by decide) (iiib_of Try.underlying29 Try.underlying3 Try.underlying4 (by kernel_rfl) (by kernel_rfl) rfl rfl rfl rfl rfl rfl rfl rfl) (hval 0 22 v0 rfl rfl) h0
  obtain ⟨n1, C1, k1⟩ := open_rows Try.underlying48 (by kernel_rfl) (by decide) (one_of Try.underlying49) (hval 1 48 v1 rfl rfl) h1
  clear hA0 hval0
  have hlt : ∀ x ∈ (p0 ++ (p1 ++ [])), x.block < W.heap.size := fun x hx => hW'.lt x (by simpa using hx)
  refine (walk W v0 n0 C0 k0 v1 n1 C1 k1).mono fun e W' ⟨he, hb⟩ => ?_
  subst he
  refine ⟨_, rfl, post_of_below (pa := (p0 ++ (p1 ++ []))) (pv := []) hW' (fun _ _ _ => (trodAll_cons_mk (shut_bool Try.underlying4 _) trodAll_mk0)) (fun sp hsp => ?_) (fun _ _ => rfl) (by simp) hb (ok_one (by kernel_rfl) rfl (okWide_bool_mk Try.underlying4 _))⟩
  exact trodAll_cons_mk (below_trod sp (by kernel_rfl) (by kernel_rfl) (of_decide_eq_true (by kernel_rfl)) g0 hb (fun x hx => hlt x (by simp [hx])) (fun x hx => hsp x (by simp [hx])))
    (trodAll_cons_mk (below_trod sp (by kernel_rfl) (by kernel_rfl) (of_decide_eq_true (by kernel_rfl)) g1 hb (fun x hx => hlt x (by simp [hx])) (fun x hx => hsp x (by simp [hx])))
    (trodAll_mk0))

theorem over : Rows.timerStepsRow.holds Try.pinned (OpenSpec.ofChange Rows.timerStepsSpec) :=
  OpenClaim.holds_of_wide 4 Try.f4 rfl rfl rfl rfl rfl rfl rfl ⟨rfl, rfl, rfl, rfl, rfl⟩ rfl rfl rfl rfl rfl (by kernel_rfl) Try.func4 (by kernel_rfl)
    (of_decide_eq_true (by kernel_rfl)) (by unfold Func.isWrapper; rw [if_neg (by decide +kernel)]; exact ⟨rfl, rfl⟩)
    (fun os started H enc _ => lifted os started H enc)

theorem proved : Rows.TimerStepsSaid := over
#print axioms proved
end Go.Proofs.Ytjiodpbefimnlaa.TimerSteps
