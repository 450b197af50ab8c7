/- Proved: TimerOnce answers true for every input, and leaves its arguments as they were; no condition. -/
import Derived.Test.YtjiodpbefimnlaaRows
import Derived.Test.YtjiodpbefimnlaaMem
import Derived.Test.YtjiodpbefimnlaaLift
import Derived.Test.YtjiodpbefimnlaaTimW
import Derived.WalkKit
import Derived.ProofKit
import Derived.OpenShut
import Derived.Handy
import Derived.Deep.QuietTactic
import Derived.BigQuiet
import Derived.Deep.RegionWith
import Derived.WalkLawsBesides
import Derived.Deep.RegionHeld3
namespace Go.Proofs.Ytjiodpbefimnlaa.TimerOnce
open Go.ChangeShapes Go.WideShapes Go.ChangeAt Go.RowKit Go.Deep
set_option linter.unusedVariables false

def Both (w : World) (g b : Nat) (l : List (Int × Int)) (T : Int) (A : Option Addr) (c : Nat) : Prop := Whl w g b l T ∧ Held w 41 2 A l.length c (prs l)
theorem Both.below {w w' : World} {g b : Nat} {l : List (Int × Int)} {T : Int} {A : Option Addr} {c : Nat} (h : Both w g b l T A c) (hb : Below w.heap.size w w') : Both w' g b l T A c := ⟨h.1.below hb, h.2.below hb⟩
set_option maxRecDepth 100000 in
set_option maxHeartbeats 16000000 in
theorem walk (w : World) (v0 : Value) (n : Nat) (C : Nat → List Value) (h0 : RowsAt w v0 n 4 IIIB C) (v1 : Value) (n1 : Nat) (C1 : Nat → List Value) (h1 : RowsAt w v1 n1 1 (OneNum .u16) C1) :
    Calls Try.prog 5 #[v0, v1] w fun e w' => e = .returned (.bool true) ∧ Below w.heap.size w w' := by
  obtain ⟨A1, cap, rfl, hnc, hcap, hcells⟩ := h0
  obtain ⟨A2, cap2, rfl, hnc2, hcapb, hcells2⟩ := h1
  have HC := Lib.hid hcells
  have HC2 := Lib.hid hcells2
  clear hcells hcells2
  go_enter Try.func5, Try.ntmps5
  go_wp2_with fail
  refine (new_any _).mono ?_
  rintro e w1 ⟨g, b, rfl, hg, hb, k1, b1⟩
  have H1 := Lib.hid (And.intro k1 b1)
  have HS := Lib.hid (show ∀ i ∈ [g, b], w.heap.size ≤ i by intro i hi; simp at hi; rcases hi with rfl | rfl <;> assumption)
  clear k1 b1
  go_wp2_with fail
  refine (awake_any _).mono ?_
  rintro e w2 ⟨rfl, b2⟩
  have H2 := Lib.hid (And.intro (H1.out.1.below b2) (H1.out.2.trans (b2.mono H1.out.2.size)))
  clear b2 H1
  go_wp2_with fail
  go_loopw [6, 7] (fun s6 iv wr => ∃ (m c : Nat) (l : List (Int × Int)) (A : Option Addr), m ≤ 60 ∧ s6 = .slice A l.length c ∧ iv = .int .i64 m ∧ l.length ≤ m ∧ Both wr g b l 0 A c ∧ Below w.heap.size w wr) (fun _ i _ => 60 - (intOf i).toNat)
  case atStart => exact ⟨0, 0, [], none, by omega, rfl, rfl, by simp, ⟨H2.out.1, Held.nil_ _ _ _⟩, H2.out.2⟩
  case round =>
    obtain ⟨m, c, l, A, hm, rfl, rfl, hlm, k, rb⟩ := hrel
    have HK := Lib.hid (And.intro k rb)
    have hcl := k.2.2.1
    have hcl2 := k.2.2.2.1
    clear k rb H2
    by_cases hgo : m < n ∧ m < 60
    · as_aux_lemma =>
      obtain ⟨hlt, hlt2⟩ := hgo
      obtain ⟨bq, off, kd, x, y, bh, rfl, hbl, c0, c1, c2, c3, hx0, hx, hy⟩ := iiib_at HC.out hlt
      have C1 := Lib.hid (And.intro c1 c2)
      rw [← HK.out.2.cell (p := ⟨bq, off + m * 4 + 1, none⟩) hbl] at c1
      rw [← HK.out.2.cell (p := ⟨bq, off + m * 4 + 2, none⟩) hbl] at c2
      have hm0 : (0 : Int) ≤ m := by omega
      have hm1 : (m : Int) < n := by omega
      have HX := Lib.hid hx
      clear hx hy hx0 c0 c3
      by_cases hr : y < 0 ∨ 1099511627776 < y
      · as_aux_lemma =>
        have HSR := Lib.hid (fun W (kW : Whl W g b l 0) => set_range g b l 0 W kW x y HX.out hr)
        clear hr
        go_wp2_with fail
        refine wp_region_ord (fun w' => w'.cell? ⟨bq, off + m * 4 + 1, none⟩ = some (.int .i64 x) ∧ w'.cell? ⟨bq, off + m * 4 + 2, none⟩ = some (.int .i64 y)) 12 [(true, 0), (true, 1), (true, 2), (true, 3), (true, 4), (true, 5), (true, 6), (true, 7), (true, 8), (true, 9), (true, 10), (false, 11)] default (by kernel_rfl) (by kernel_rfl) (fun d _ _ _ _ h => by cases d <;> exact h) ?_ ?_
        · exact ⟨c1, c2⟩
        simp only [List.map_cons, List.map_nil, List.getD_cons_succ, List.getD_cons_zero]
        repeat
          (refine heldL_take ?_ ?_ ?_
           rotate_left
           · intro w' hw'
             try dsimp only at hw'
             go_simp
             try with_reducible rfl
           try simp only [Act.put, List.setIfInBounds_toArray, List.set_cons_zero, List.set_cons_succ])
        refine heldL_move (fun K hK => ?_)
        go_simp
        refine (HSR.out _ (by exact HK.out.1.1.drewN 1)).mono ?_
        rintro e w3 ⟨rfl, rfl⟩
        refine hK.out _ _ ⟨c1, c2⟩ (fun hS => ?_)
        clear hK K hS
        try simp only [Act.put, List.setIfInBounds_toArray, List.set_cons_zero, List.set_cons_succ]
        refine heldL_last (fun K hK => ?_)
        go_simp
        refine hK _ _ ?_
        clear hK K
        try simp only [Act.put, List.setIfInBounds_toArray, List.set_cons_zero, List.set_cons_succ]
        go_wp2_with fail
        go_roundw
        case rel => exact ⟨m + 1, c, l, A, by omega, rfl, by go_num, by omega, ⟨HK.out.1.1.drewN 1, HK.out.1.2.drewN 1⟩, below_drewN HK.out.2 1⟩
        case measure => simp [intOf]; omega
      · as_aux_lemma =>
        have hr1 : 0 ≤ y := by omega
        have hr2 : y ≤ 1099511627776 := by omega
        have HSO := Lib.hid (fun W (kW : Whl W g b l 0) => set_ok g b l 0 W kW x y HX.out hr1 hr2 (fun _ => by omega))
        have HRS := Lib.hid (fun V hV => rset_any A l.length c l x y V rfl (by omega) hV)
        have HSD := Lib.hid HK.out.1.1.sd
        clear hr hr1 hr2
        go_wp2_with fail
        refine wp_region_ord (fun w' => w'.cell? ⟨bq, off + m * 4 + 1, none⟩ = some (.int .i64 x) ∧ w'.cell? ⟨bq, off + m * 4 + 2, none⟩ = some (.int .i64 y)) 12 [(true, 0), (true, 1), (true, 2), (true, 3), (true, 4), (true, 5), (true, 6), (true, 7), (true, 8), (true, 9), (true, 10), (false, 11)] default (by kernel_rfl) (by kernel_rfl) (fun d _ _ _ _ h => by cases d <;> exact h) ?_ ?_
        · exact ⟨c1, c2⟩
        simp only [List.map_cons, List.map_nil, List.getD_cons_succ, List.getD_cons_zero]
        repeat
          (refine heldL_take ?_ ?_ ?_
           rotate_left
           · intro w' hw'
             try dsimp only at hw'
             go_simp
             try with_reducible rfl
           try simp only [Act.put, List.setIfInBounds_toArray, List.set_cons_zero, List.set_cons_succ])
        refine heldL_move (fun K hK => ?_)
        go_simp
        refine (HSO.out wr.drew (by exact HK.out.1.1.drewN 1)).mono ?_
        rintro e w3 ⟨rfl, k3, g3⟩
        have h3 := held_grown (by exact HK.out.1.2.drewN 1) (by exact (HK.out.1.1.drewN 1).map) g3
        have H3 := Lib.hid (And.intro k3 (And.intro h3 ((show Below w.heap.size w wr.drew from below_drewN HK.out.2 1).grown g3 HK.out.2.size (fun k hk => by injection hk with hk; omega))))
        clear k3 g3 h3
        have d1 := (H3.out.2.2.cell (p := ⟨bq, off + m * 4 + 1, none⟩) hbl).trans C1.out.1
        have d2 := (H3.out.2.2.cell (p := ⟨bq, off + m * 4 + 2, none⟩) hbl).trans C1.out.2
        refine hK.out _ _ ⟨d1, d2⟩ (fun hS => ?_)
        clear hK K hS c1 c2
        try simp only [Act.put, List.setIfInBounds_toArray, List.set_cons_zero, List.set_cons_succ]
        refine heldL_last (fun K hK => ?_)
        go_simp
        refine hK _ _ ?_
        clear hK K
        try simp only [Act.put, List.setIfInBounds_toArray, List.set_cons_zero, List.set_cons_succ]
        go_wp2_with fail
        refine wp_region_ord (fun w' => w'.cell? ⟨bq, off + m * 4 + 1, none⟩ = some (.int .i64 x) ∧ w'.cell? ⟨bq, off + m * 4 + 2, none⟩ = some (.int .i64 y)) 13 [(true, 0), (true, 1), (true, 2), (true, 3), (true, 4), (true, 5), (true, 6), (true, 7), (true, 8), (true, 9), (true, 10), (true, 11), (false, 12)] default (by kernel_rfl) (by kernel_rfl) (fun d _ _ _ _ h => by cases d <;> exact h) ?_ ?_
        · exact ⟨d1, d2⟩
        simp only [List.map_cons, List.map_nil, List.getD_cons_succ, List.getD_cons_zero]
        repeat
          (refine heldL_take ?_ ?_ ?_
           rotate_left
           · intro w' hw'
             try dsimp only at hw'
             go_simp
             try with_reducible rfl
           try simp only [Act.put, List.setIfInBounds_toArray, List.set_cons_zero, List.set_cons_succ])
        refine heldL_move (fun K hK => ?_)
        go_simp
        refine (HRS.out w3.drew (by exact H3.out.2.1.drewN 1)).mono ?_
        rintro e w4 ⟨L, hL, A4, c4, rfl, h4, b4⟩
        have b4' : Below w3.heap.size w3 w4 := ⟨b4.os, b4.tape, b4.output, b4.size, b4.block⟩
        have H4 : Hid (Both w4 g b L 0 A4 c4 ∧ Below w.heap.size w w4) := ⟨⟨(H3.out.1 L hL).below b4', h4⟩, H3.out.2.2.trans (b4'.mono H3.out.2.2.size)⟩
        have hL5 : L.length ≤ m + 1 := by
          obtain ⟨_, _, e3⟩ := HSD.out.set hL
          rw [e3]
          split <;> omega
        have e1 := (H4.out.2.cell (p := ⟨bq, off + m * 4 + 1, none⟩) hbl).trans C1.out.1
        have e2 := (H4.out.2.cell (p := ⟨bq, off + m * 4 + 2, none⟩) hbl).trans C1.out.2
        refine hK.out _ _ ⟨e1, e2⟩ (fun hS => ?_)
        clear hK K hS d1 d2 h4 b4 b4' hL
        try simp only [Act.put, List.setIfInBounds_toArray, List.set_cons_zero, List.set_cons_succ]
        refine heldL_last (fun K hK => ?_)
        go_simp
        refine hK _ _ ?_
        clear hK K
        try simp only [Act.put, List.setIfInBounds_toArray, List.set_cons_zero, List.set_cons_succ]
        go_wp2_with fail
        go_roundw
        case rel => exact ⟨m + 1, c4, L, A4, by omega, rfl, by go_num, by omega, H4.out⟩
        case measure => simp [intOf]; omega
    · have hend : ¬ m < n ∨ (m < n ∧ ¬ m < 60) := by omega
      have hl60 : l.length ≤ 60 := by omega
      clear hgo
      rcases hend with hend | ⟨hend, hend2⟩
      all_goals
        as_aux_lemma =>
        go_wp2_with fail
        clear hend hlm hcl hcl2
        go_loopw [6, 8, 9, 10] (fun s6 s8 s9 iv wr => ∃ (i c : Nat) (l : List (Int × Int)) (A : Option Addr) (T was : Int), i ≤ 60 ∧ s6 = .slice A l.length c ∧ s8 = .int .i64 T ∧ s9 = .int .i64 was ∧ iv = .int .i64 i ∧ 0 ≤ T ∧ T ≤ i * 65536 ∧ (was = -1 ∨ (0 ≤ was ∧ was = T ∧ ∀ p ∈ l, was < p.2)) ∧ l.length ≤ 60 ∧ Both wr g b l T A c ∧ Below w.heap.size w wr) (fun _ _ _ i _ => 60 - (intOf i).toNat)
        case atStart => exact ⟨0, c, l, A, 0, -1, by omega, rfl, rfl, rfl, rfl, by omega, by omega, .inl rfl, hl60, HK.out.1, HK.out.2⟩
        case round =>
          clear hl60 HK
          obtain ⟨i, c2, l2, AA, T, was, hi, rfl, rfl, rfl, rfl, hT0, hT1, hwas, hl2, k2, rb2⟩ := hrel
          have HK := Lib.hid (And.intro k2 rb2)
          have HWAS := Lib.hid hwas
          clear k2 rb2 hwas
          by_cases hgo : i < n1 ∧ i < 60
          · obtain ⟨hlt, hlt2⟩ := hgo
            obtain ⟨⟨s, hs, hsw⟩, _, bs, os, rfl, hbl, hc⟩ := HC2.out i hlt
            have c0 := hc 0 (.int .u16 s) (by rw [hs]; rfl)
            have hs1 : 0 ≤ s ∧ s ≤ 65535 := by
              have e1 : IntKind.u16.min = 0 := by decide
              have e2 : IntKind.u16.max = 65535 := by decide
              simpa [Lit.wf, e1, e2] using hsw
            clear hc hs hsw
            obtain ⟨hs1, hs2⟩ := hs1
            simp only [Nat.mul_one, Nat.add_zero] at c0
            rw [← HK.out.2.cell (p := ⟨bs, os + i, none⟩) hbl] at c0
            have hi0 : (0 : Int) ≤ i := by omega
            have hi1 : (i : Int) < n1 := by omega
            have hck : clk T (T + s) = T + s := by unfold clk; rw [if_pos (by omega)]
            have ha := advance_any g b l2 T (T + s) wr HK.out.1.1
            rw [hck] at ha
            have HA := Lib.hid ha
            have hts : IntKind.i64.wrap (T + s) = T + s := by rw [IntKind.wrap_i64]; omega
            have hts0 : 0 ≤ T + s := by omega
            have hts1 : T + s ≤ (i + 1) * 65536 := by omega
            have HSD := Lib.hid HK.out.1.1.sd
            have HTS := Lib.hid hts
            clear ha hck hts
            go_wp2_with fail
            refine HA.out.mono ?_
            rintro e w3 ⟨G, cg, rfl, h7, k7, o7⟩
            generalize T + s = T' at *
            have e7 := held_only2 (by decide) HK.out.1.2 HK.out.1.1 o7
            have HDL := Lib.hid (due_le l2 T')
            have HDA := Lib.hid (fun j hj hl => due_at (l := l2) T' j hj hl)
            have HDR := Lib.hid (due_rest HSD.out T')
            have hil := Lib.hid (ids_len (dueT l2 T'))
            generalize hd : (dueT l2 T').length = d at *
            have H7 := Lib.hid (And.intro h7 (And.intro k7 (And.intro e7 (bonly HK.out.2 o7 HS.out))))
            have hdl : d ≤ l2.length := HDL.out
            have hcg := h7.2.1
            clear h7 k7 e7 o7 hd HA c0 HK
            go_wp2_with fail
            go_loopw [6, 12] (fun s6 iv wx => ∃ (j cx : Nat) (AX : Option Addr), j ≤ d ∧ s6 = .slice AX (l2.drop j).length cx ∧ iv = .int .i64 j ∧ Held wx 41 2 AX (l2.drop j).length cx (prs (l2.drop j)) ∧ Whl wx g b (l2.drop d) T' ∧ Held wx 3 1 G d cg (nums (ids (dueT l2 T'))) ∧ Below w.heap.size w wx) (fun _ i _ => d - (intOf i).toNat)
            case atStart => exact ⟨0, c2, AA, by omega, by simp, rfl, by simpa using H7.out.2.2.1, H7.out.2.1, H7.out.1, H7.out.2.2.2⟩
            case round =>
              obtain ⟨j, cx, AX, hj, rfl, rfl, hx, kx, hgx, bx⟩ := hrel
              have HX := Lib.hid (And.intro hx (And.intro kx (And.intro hgx bx)))
              have hcx := hx.2.1
              have hlx : (l2.drop j).length ≤ 60 := by rw [List.length_drop]; omega
              clear hx kx hgx bx H7
              by_cases hjd : j < d
              · as_aux_lemma =>
                have hjl : j < l2.length := by omega
                have hdr := List.drop_eq_getElem_cons hjl
                obtain ⟨q1, q2⟩ := HDA.out j hjd hjl
                obtain ⟨gb, go', rfl, hgb, y0⟩ := HX.out.2.2.1.at_ q1
                have hndr := (HSD.out.drop j).2
                have hget : getT (l2.drop j) l2[j].1 = some l2[j].2 := by rw [hdr, getT_cons, if_pos rfl]
                have HST : Hid (stopT (l2.drop j) l2[j].1 = l2.drop (j + 1)) := by
                  have h2 := hndr
                  rw [hdr] at h2 ⊢
                  exact stop_head h2
                have HND := Lib.hid hndr
                have HGT := Lib.hid hget
                have hv : HWAS = HWAS := rfl
                have HV : Hid (was = -1 ∨ (0 ≤ was ∧ was < l2[j].2)) := by
                  rcases HWAS.out with h | ⟨h1, h2, h3⟩
                  · exact .inl h
                  · exact .inr ⟨h1, h3 _ (List.getElem_mem hjl)⟩
                clear hv hget hndr hdr q1
                generalize l2[j].1 = id at *
                generalize l2[j].2 = v at *
                generalize hln : (l2.drop j).length = ln at *
                have HLN := Lib.hid hln
                clear hln
                have HFI := Lib.hid (fun W hW => find_any AX ln cx (l2.drop j) id W HLN.out.symm hW)
                have HRS := Lib.hid (fun W hW => rstop_any AX ln cx (l2.drop j) id W HLN.out.symm (by omega) hW)
                rw [HST.out] at HRS
                have hj0 : (0 : Int) ≤ j := by omega
                have hj1 : (j : Int) < d := by omega
                go_wp2_with fail
                refine (HFI.out _ HX.out.1).mono ?_
                rintro e w4 ⟨r, rfl, hf, rfl⟩
                rcases find_get HND.out hf with ⟨k, hk, e1, rfl, e3⟩ | ⟨rfl, e2⟩
                · rw [HGT.out] at e3
                  injection e3 with e3
                  have hk0 : (0 : Int) ≤ k := by omega
                  have hk1 : (k : Int) < (ln : Int) := by have := HLN.out; omega
                  obtain ⟨xb, xo, rfl, hxb, z0, z1⟩ := held_prs HX.out.1 hk
                  rw [← e3] at z1
                  clear hf e1 e3 z0
                  rcases HV.out with hw | ⟨hw1, hw2⟩
                  · subst hw
                    by_cases hv1 : v ≤ -1
                    all_goals
                      as_aux_lemma =>
                      go_wp2_with fail
                      refine (HRS.out _ (by exact HX.out.1)).mono ?_
                      rintro e w5 ⟨A5, c5, rfl, h5, b5⟩
                      have H5 := Lib.hid (And.intro h5 (And.intro (HX.out.2.1.below b5) (And.intro (HX.out.2.2.1.below b5) (HX.out.2.2.2.trans (b5.mono HX.out.2.2.2.size)))))
                      clear h5 b5
                      go_wp2_with fail
                      go_roundw
                      case rel => exact ⟨j + 1, c5, A5, by omega, by first | rfl | simp, by go_num, H5.out⟩
                      case measure => simp [intOf]; omega
                  · as_aux_lemma =>
                    go_wp2_with fail
                    refine (HRS.out _ (by exact HX.out.1)).mono ?_
                    rintro e w5 ⟨A5, c5, rfl, h5, b5⟩
                    have H5 := Lib.hid (And.intro h5 (And.intro (HX.out.2.1.below b5) (And.intro (HX.out.2.2.1.below b5) (HX.out.2.2.2.trans (b5.mono HX.out.2.2.2.size)))))
                    clear h5 b5
                    go_wp2_with fail
                    go_roundw
                    case rel => exact ⟨j + 1, c5, A5, by omega, by first | rfl | simp, by go_num, H5.out⟩
                    case measure => simp [intOf]; omega
                · rw [HGT.out] at e2
                  cases e2
              · as_aux_lemma =>
                obtain rfl : d = j := by omega
                generalize hln : (l2.drop d).length = ln at *
                have HLN := Lib.hid hln
                clear hln
                have hd0 := rdue_any AX ln cx (l2.drop d) T' _ HLN.out.symm HX.out.1
                rw [due_none T' HDR.out] at hd0
                have HD0 := Lib.hid hd0
                clear hd0
                go_wp2_with fail
                refine HD0.out.mono ?_
                rintro e w4 ⟨rfl, rfl⟩
                simp only [List.length_nil]
                go_wp2_with fail
                go_roundw
                case rel => exact ⟨i + 1, cx, l2.drop d, AX, T', T', by omega, by rw [HLN.out], rfl, rfl, by go_num, hts0, by omega, .inr ⟨hts0, rfl, HDR.out⟩, by rw [HLN.out]; exact hlx, ⟨HX.out.2.1, by rw [HLN.out]; exact HX.out.1⟩, HX.out.2.2.2⟩
                case measure => simp [intOf]; omega
          · have hend : ¬ i < n1 ∨ (i < n1 ∧ ¬ i < 60) := by omega
            clear hgo
            have HL := Lib.hid (len_any g b l2 T wr HK.out.1.1)
            rcases hend with hend | ⟨hend, hend2⟩
            all_goals
              go_wp2_with fail
              refine HL.out.mono ?_
              rintro e w3 ⟨rfl, rfl⟩
              go_wp2_with fail
              go_ret
              exact ⟨rfl, HK.out.2⟩

theorem own : ownKnob Try.prog.godebug = none := by kernel_rfl

set_option maxRecDepth 100000 in
theorem lifted (os : Os) (started : os.Started) (H : Type) (enc : TypeId × Value → H) :
    ReturnsInHanded {} Try.checked os 5 .any (Rows.timerOnceSpec.pre6 enc Try.prog Try.f5 Rows.timerOnceRow.domain false) (Rows.timerOnceSpec.post enc Try.prog Try.f5 false true false false) := by
  refine returnsInHanded_of_change (C := Try.checked) own started (by kernel_rfl) Try.func5
    (ChangeSpec.witness6 (enc := enc) (C := Try.checked) false ⟨#[], #[.slice none 0 0, .slice none 0 0], []⟩ 8 (by kernel_rfl) (by kernel_rfl) (by kernel_rfl) (by kernel_rfl)) ?_
  intro W base args ds gs before hval0 hW hcnd _
  have hval : ∀ (j : Nat) t v, Try.f5.params[j]? = some t → args[j]? = some v → Value.okWide Try.prog W .any base t v := hval0
  have hW' := hW
  obtain ⟨p, q, hA0, hV, rfl, hfz, hnd⟩ := hW
  have hA : DataW.TrodAll enc Try.prog W 0 (fun _ => true) true Try.f5.params.toList args.toList ds p := hA0
  rw [Try.params5] at hA hval
  obtain ⟨v0, vs0, d0, ds0, p0, q0, hargs, rfl, rfl, h0, r0⟩ := trodAll_cons hA
  obtain ⟨v1, vs1, d1, ds1, p1, q1, rfl, rfl, rfl, h1, r1⟩ := trodAll_cons r0
  obtain ⟨rfl, rfl, rfl⟩ := trodAll_nil r1
  obtain rfl : args = #[v0, v1] := by cases args; simp_all
  obtain ⟨rfl, rfl⟩ := trodVars_none hV
  have g0 := h0
  have g1 := h1
  obtain ⟨n0, C0, k0⟩ := open_rows Try.underlying22 (by kernel_rfl) (by decide) (iiib_of Try.underlying29 Try.underlying3 Try.underlying4 (by kernel_rfl) (by kernel_rfl) rfl rfl rfl rfl rfl rfl rfl rfl) (hval 0 22 v0 rfl rfl) h0
  obtain ⟨n1, C1, k1⟩ := open_rows Try.underlying48 (by kernel_rfl) (by decide) (one_of Try.underlying49) (hval 1 48 v1 rfl rfl) h1
  clear hA0 hval0
  have hlt : ∀ x ∈ (p0 ++ (p1 ++ [])), x.block < W.heap.size := fun x hx => hW'.lt x (by simpa using hx)
  refine (walk W v0 n0 C0 k0 v1 n1 C1 k1).mono fun e W' ⟨he, hb⟩ => ?_
  subst he
  refine ⟨_, rfl, post_of_below (pa := (p0 ++ (p1 ++ []))) (pv := []) hW' (fun _ _ _ => (trodAll_cons_mk (shut_bool Try.underlying4 _) trodAll_mk0)) (fun sp hsp => ?_) (fun _ _ => rfl) (by simp) hb (ok_one (by kernel_rfl) rfl (okWide_bool_mk Try.underlying4 _))⟩
  exact trodAll_cons_mk (below_trod sp (by kernel_rfl) (by kernel_rfl) (of_decide_eq_true (by kernel_rfl)) g0 hb (fun x hx => hlt x (by simp [hx])) (fun x hx => hsp x (by simp [hx])))
    (trodAll_cons_mk (below_trod sp (by kernel_rfl) (by kernel_rfl) (of_decide_eq_true (by kernel_rfl)) g1 hb (fun x hx => hlt x (by simp [hx])) (fun x hx => hsp x (by simp [hx])))
    (trodAll_mk0))

theorem over : Rows.timerOnceRow.holds Try.pinned (OpenSpec.ofChange Rows.timerOnceSpec) :=
  OpenClaim.holds_of_wide 5 Try.f5 rfl rfl rfl rfl rfl rfl rfl ⟨rfl, rfl, rfl, rfl, rfl⟩ rfl rfl rfl rfl rfl (by kernel_rfl) Try.func5 (by kernel_rfl)
    (of_decide_eq_true (by kernel_rfl)) (by unfold Func.isWrapper; rw [if_neg (by decide +kernel)]; exact ⟨rfl, rfl⟩)
    (fun os started H enc _ => lifted os started H enc)

theorem proved : Rows.TimerOnceSaid := over
#print axioms proved
end Go.Proofs.Ytjiodpbefimnlaa.TimerOnce
