/- Proved: ShakeDoes answers true for every input, and leaves its arguments as they were; no condition. -/
import Derived.Test.YtdegdikkjaifiaaRows
import Derived.Test.YtdegdikkjaifiaaMem
import Derived.Test.YtdegdikkjaifiaaLift
import Derived.Test.YtdegdikkjaifiaaShakeD
import Derived.Test.YtdegdikkjaifiaaShakeAw
import Derived.WalkKit
import Derived.ProofKit
import Derived.OpenShut
import Derived.Handy
import Derived.Deep.QuietTactic
import Derived.BigQuiet
import Derived.Deep.RegionWith
import Derived.WalkLawsBesides
import Derived.Deep.RegionHeld3
import Derived.Deep.DeepCutAuto
namespace Go.Proofs.Ytdegdikkjaifiaa.ShakeDoes
open Go.ChangeShapes Go.WideShapes Go.ChangeAt Go.RowKit Go.Deep
set_option linter.unusedVariables false

set_option maxRecDepth 100000 in
set_option maxHeartbeats 16000000 in
theorem walk (w : World) (v0 : Value) (n : Nat) (C : Nat → List Value) (h0 : RowsAt w v0 n 4 BS C) :
    Calls Try.prog 3 #[v0] w fun e w' => e = .returned (.bool true) ∧ Below w.heap.size w w' := by
  obtain ⟨A1, cap, rfl, hnc, hcap, hcells⟩ := h0
  have HC := Lib.hid hcells
  clear hcells
  go_enter Try.func3, Try.ntmps3
  go_wp2_with fail
  refine (new_in _).mono ?_
  rintro e w1 ⟨g, rfl, hg, k1, b1⟩
  have K1 := Lib.hid (And.intro k1 b1)
  clear k1 b1
  go_wp2_with fail
  refine (awake_any _).mono ?_
  rintro e w2 ⟨rfl, b2⟩
  have K2 : Hid (ShakeIn w2 g (64, 8, 4) (64, 8, 4) [] (fun _ => False) ∧ Below w.heap.size w w2) := ⟨K1.out.1.keep (b2.block g K1.out.1.at_.lt) (fun b e => e.elim), K1.out.2.trans (b2.mono K1.out.2.size)⟩
  clear b2 K1
  have x0 := Blk.new w2 27 #[.int .i64 64, .int .i64 8, .int .i64 4]
  go_upto_region 5 with fail
  have q1 : w2.heap.size < (w2.alloc (.cells #[.int .i64 64, .int .i64 8, .int .i64 4] 27)).heap.size := by simp
  have K3 : Hid (ShakeIn (w2.alloc (.cells #[.int .i64 64, .int .i64 8, .int .i64 4] 27)) g (64, 8, 4) (64, 8, 4) [] (fun _ => False) ∧ Below w.heap.size w (w2.alloc (.cells #[.int .i64 64, .int .i64 8, .int .i64 4] 27))) := ⟨K2.out.1.keep (((Below.refl _ _).alloc (Nat.le_refl _) _).block g K2.out.1.at_.lt) (fun b e => e.elim), K2.out.2.alloc K2.out.2.size _⟩
  generalize w2.alloc (.cells #[.int .i64 64, .int .i64 8, .int .i64 4] 27) = w3 at *
  generalize w2.heap.size = f0 at *
  have q2 : f0 < w3.heap.size + 1 := by omega
  have q3 : f0 < w3.heap.size + 1 + 1 := by omega
  have c0 := Blk.cell x0 0
  have c1 := Blk.cell x0 1
  have c2 := Blk.cell x0 2
  simp at c0 c1 c2
  clear x0 K2
  go_cut [5, 6, 7] (fun s5 s6 s7 wx => ∃ g5 g6 g7, s5 = .pointer (some ⟨g5, 0, none⟩) ∧ s6 = .pointer (some ⟨g6, 0, none⟩) ∧ s7 = .pointer (some ⟨g7, 0, none⟩) ∧ ShJ w.heap.size wx g g5 g6 g7 (64, 8, 4) (64, 8, 4) [] none 0 ∧ Below w.heap.size w wx)
  case first =>
    have hs3 := K3.out.2.size
    have HK := Lib.hid (fun (g5 g6 g7 : Nat) h5 h6 h7 n1 n2 n3 => ShJ.start (base := w.heap.size) (g5 := g5) (g6 := g6) (g7 := g7) K3.out.1 hs3 hg h5 h6 h7 n1 n2 n3)
    have HB : Hid (Below w.heap.size w (((w3.alloc (.cells #[.int .i64 64, .int .i64 8, .int .i64 4] 27)).alloc (.cells #[.int .i64 64, .int .i64 8, .int .i64 4] 27)).alloc (.cells #[.int .i64 64, .int .i64 8, .int .i64 4] 27)).drew) := (((K3.out.2.alloc hs3 _).alloc (by simp; omega) _).alloc (by simp; omega) _).drew
    clear K3
    as_aux_lemma =>
    go_region
    all_goals go_wp2_with fail
    all_goals go_meet
    all_goals exact ⟨_, _, _, rfl, rfl, rfl, HK.out _ _ _ (by simp) (by simp) (by simp) (by omega) (by omega) (by omega), HB.out⟩
  case rest =>
    obtain ⟨g5, g6, g7, rfl, rfl, rfl, k0, b0⟩ := hcut
    have H0 := Lib.hid (And.intro k0 b0)
    clear k0 b0 K3 c0 c1 c2 q1 q2 q3
    go_wp2_with fail
    go_loopw [8, 9] (fun s8 iv wr => ∃ (m c : Nat) (ho q : Set3) (L : List Set3) (A : Option Addr), m ≤ 80 ∧ s8 = .slice A L.length c ∧ iv = .int .i64 m ∧ ShJ w.heap.size wr g g5 g6 g7 ho q L A c ∧ Below w.heap.size w wr) (fun _ i _ => 80 - (intOf i).toNat)
    case atStart => exact ⟨0, 0, _, _, [], none, by omega, rfl, rfl, H0.out.1, H0.out.2⟩
    case round =>
      obtain ⟨m, c, ho, q, L, A, hm, rfl, rfl, k, rb⟩ := hrel
      have HK := Lib.hid (And.intro k rb)
      have hfew := k.2
      have hcap := k.cap
      clear k rb H0
      by_cases hgo : m < n ∧ m < 80
      · obtain ⟨hlt, hlt2⟩ := hgo
        obtain ⟨bq, off, kk, x, y, z, rfl, hbl, c0, c1, c2, c3, hx, hy, hz⟩ := bs_at HC.out hlt
        have C1 := Lib.hid (And.intro c1 (And.intro c2 c3))
        rw [← HK.out.2.cell (p := ⟨bq, off + m * 4, none⟩) hbl] at c0
        rw [← HK.out.2.cell (p := ⟨bq, off + m * 4 + 1, none⟩) hbl] at c1
        rw [← HK.out.2.cell (p := ⟨bq, off + m * 4 + 2, none⟩) hbl] at c2
        rw [← HK.out.2.cell (p := ⟨bq, off + m * 4 + 3, none⟩) hbl] at c3
        have hm0 : (0 : Int) ≤ m := by omega
        have hm1 : (m : Int) < n := by omega
        go_upto_if 43 with fail
        go_cut [8] (fun s8 wx => ∃ (c : Nat) (ho q : Set3) (L : List Set3) (A : Option Addr), s8 = .slice A L.length c ∧ ShJ w.heap.size wx g g5 g6 g7 ho q L A c ∧ Below w.heap.size w wx)
        case first =>
          cases kk
          · by_cases hR : rightB x y z = true
            · have hr9 := fun W => rright_any x y z W
              rw [hR] at hr9
              have HR := Lib.hid hr9
              clear hr9
              by_cases h4 : L.length = 4
              ·
                as_aux_lemma =>
                have HA := Lib.hid (send_limit g ho q L x y z wr HK.out.1.1.at_ hR (by omega))
                have e4 : ((L.length : Int) == 4) = true := by rw [h4]; rfl
                clear hR h4 hcap hfew
                go_wp2_with fail
                refine HA.out.mono ?_
                rintro e W ⟨rfl, b⟩
                have HW : Hid (ShJ w.heap.size W g g5 g6 g7 ho q L A c ∧ Below w.heap.size w W) := ⟨HK.out.1.below b, HK.out.2.trans (b.mono HK.out.2.size)⟩
                have d1 := (HW.out.2.cell (p := ⟨bq, off + m * 4 + 1, none⟩) hbl).trans C1.out.1
                have d2 := (HW.out.2.cell (p := ⟨bq, off + m * 4 + 2, none⟩) hbl).trans C1.out.2.1
                have d3 := (HW.out.2.cell (p := ⟨bq, off + m * 4 + 3, none⟩) hbl).trans C1.out.2.2
                clear b
                go_wp2_with fail
                refine (HR.out _).mono ?_
                rintro e W2 ⟨rfl, b2⟩
                have HW2 : Hid (ShJ w.heap.size W2 g g5 g6 g7 ho q L A c ∧ Below w.heap.size w W2) := ⟨HW.out.1.below b2, HW.out.2.trans (b2.mono HW.out.2.size)⟩
                clear b2
                go_wp2_with fail
                go_meet
                exact ⟨c, ho, q, L, A, rfl, HW2.out⟩
              ·
                as_aux_lemma =>
                have hL4 : L.length < 4 := by omega
                obtain ⟨D, hA, hRA⟩ := send_d g ho q L x y z wr HK.out.1.1.at_ hR hL4 hx hy hz
                have HA := Lib.hid hA
                have HRA := Lib.hid hRA
                have HL4 := Lib.hid hL4
                have e4 : ((L.length : Int) == 4) = false := by simp; omega
                clear hR h4 hfew hA hRA hL4 hx hy hz
                generalize hlt : latest ho L = lt at *
                have HLT := Lib.hid hlt
                clear hlt
                go_wp2_with fail
                refine HA.out.mono ?_
                rintro e W ⟨Ap, cp, rfl, hp, sW, oW⟩
                have K0 := HK.out.1.1
                have K1 := K0.only oW sW (fun b hb => ⟨hb.2, fun e => by have := K0.b5.lt; omega, fun e => by have := K0.b6.lt; omega, fun e => by have := K0.b7.lt; omega, fun a off hA e => by have := (K0.way.ltA hA).1; omega⟩)
                have B1 : Below w.heap.size w W := bonly HK.out.2 oW (by simpa using K1.bas.1)
                have HB1 := Lib.hid (And.intro K1 (And.intro B1 hp))
                have d1 := (B1.cell (p := ⟨bq, off + m * 4 + 1, none⟩) hbl).trans C1.out.1
                have d2 := (B1.cell (p := ⟨bq, off + m * 4 + 2, none⟩) hbl).trans C1.out.2.1
                have d3 := (B1.cell (p := ⟨bq, off + m * 4 + 3, none⟩) hbl).trans C1.out.2.2
                clear K0 K1 B1 hp sW oW c0 c1 c2 c3 HA
                go_wp2_with fail
                refine (HR.out _).mono ?_
                rintro e W2 ⟨rfl, b2⟩
                have HB2 := Lib.hid (And.intro (HB1.out.1.below b2) (And.intro (HB1.out.2.1.trans (b2.mono HB1.out.2.1.size)) (HB1.out.2.2.below b2)))
                obtain ⟨z0, z1, z2⟩ := cells_of HB2.out.1.b7
                rw [HLT.out] at z0 z1 z2
                clear b2 d1 d2 d3 HB1
                go_wp2_with fail
                refine (HRA.out _ _ _ HB2.out.2.2).mono ?_
                rintro e W3 ⟨rfl, b3⟩
                have K3 := HB2.out.1.below b3
                have B3 := HB2.out.2.1.trans (b3.mono HB2.out.2.1.size)
                have HB4 := Lib.hid (And.intro (K3.alloc (.cells #[.int .i64 x, .int .i64 y, .int .i64 z] 27)) (And.intro (B3.alloc B3.size (.cells #[.int .i64 x, .int .i64 y, .int .i64 z] 27)) (show Blk _ _ 27 (cells3 (x, y, z)) from Blk.new W3 27 #[.int .i64 x, .int .i64 y, .int .i64 z])))
                clear b3 K3 B3 HB2 z0 z1 z2
                go_wp2_with fail
                generalize W3.alloc (.cells #[.int .i64 x, .int .i64 y, .int .i64 z] 27) = W4 at *
                generalize W3.heap.size = G at *
                have d1 := (HB4.out.2.1.cell (p := ⟨bq, off + m * 4 + 1, none⟩) hbl).trans C1.out.1
                have d2 := (HB4.out.2.1.cell (p := ⟨bq, off + m * 4 + 2, none⟩) hbl).trans C1.out.2.1
                have d3 := (HB4.out.2.1.cell (p := ⟨bq, off + m * 4 + 3, none⟩) hbl).trans C1.out.2.2
                obtain ⟨t0, t1, t2⟩ := cells_of HB4.out.2.2
                obtain ⟨z0, z1, z2⟩ := cells_of HB4.out.1.b7
                obtain ⟨f0', f1', f2'⟩ := frozen_of HB4.out.1.b7
                go_quiet (fail)
                have HB5 : Hid (ShG w.heap.size (set3 (W4.drewN nq) g7 (x, y, z)) g g5 g6 g7 ho (hi3 q (x, y, z)) (L ++ [(x, y, z)]) ho q (x, y, z) L A c ∧ Below w.heap.size w (set3 (W4.drewN nq) g7 (x, y, z))) := ⟨(HB4.out.1.drewN nq).set7 _, below_set3 (below_drewN HB4.out.2.1 nq) HB4.out.1.bas.2.2.2 _⟩
                go_upto_region 24 with fail
                simp only [set3] at HB5
                clear d1 d2 d3 t0 t1 t2 z0 z1 z2 f0' f1' f2'
                generalize (((W4.drewN nq).setCell ⟨g7, 0, none⟩ (.int .i64 x)).setCell ⟨g7, 1, none⟩ (.int .i64 y)).setCell ⟨g7, 2, none⟩ (.int .i64 z) = W5 at *
                have d1 := (HB5.out.2.cell (p := ⟨bq, off + m * 4 + 1, none⟩) hbl).trans C1.out.1
                have d2 := (HB5.out.2.cell (p := ⟨bq, off + m * 4 + 2, none⟩) hbl).trans C1.out.2.1
                have d3 := (HB5.out.2.cell (p := ⟨bq, off + m * 4 + 3, none⟩) hbl).trans C1.out.2.2
                obtain ⟨i0, hi0, hz0, hz1, hz2⟩ := info_parts info_S
                have hs5 := HB5.out.2.size
                obtain ⟨A6, c6, W7, hrun, hown, hgrow, hin⟩ := ((HB5.out.1.alloc (.cells #[.int .i64 x, .int .i64 y, .int .i64 z] 27)).way).append (P := Try.prog) (t := 28) (ty := 28) Try.underlying28 hi0 hz0 hz1 hz2 rfl (by omega) (a := ⟨W5.heap.size, 0, none⟩) (m := 1) (c' := 1) (news := [.int .i64 x, .int .i64 y, .int .i64 z]) rfl (World.news_of_block (cs := #[.int .i64 x, .int .i64 y, .int .i64 z]) (t := 27) (fr := (0, 0)) (heap_alloc_new W5 _)) (by simp [Value.oneCell']) (by omega) (by have := HL4.out; simp only [maxLen]; omega) (by have := HL4.out; omega) (by simp; omega)
                have HB7 : Hid (ShG w.heap.size W7 g g5 g6 g7 ho (hi3 q (x, y, z)) (L ++ [(x, y, z)]) ho q (x, y, z) (L ++ [(x, y, z)]) A6 c6 ∧ Below w.heap.size w W7) := by
                  have kk := HB5.out.1.alloc (.cells #[.int .i64 x, .int .i64 y, .int .i64 z] 27)
                  refine ⟨kk.grow hgrow (by rw [List.length_append, flat3_snoc]; exact hown) hin, (HB5.out.2.alloc hs5 _).grown hgrow (by simp; omega) fun k hk => ?_⟩
                  rcases kk.way.2.2 with hn | ⟨g9, o9, cur, hA9, hg9, _⟩
                  · rw [hn] at hk; simp [Value.ownBlock] at hk
                  · rw [hA9] at hk
                    have : g9 = k := by simpa [Value.ownBlock] using hk
                    omega
                have HRUN := Lib.hid hrun
                clear hi0 hz0 hz1 hz2 hown hgrow hin hrun
                go_wp2_with (at_builtin; refine wpList_append_run rfl (.tmp 116) (.tmp 122) _ rfl rfl rfl (by exact HRUN.out) ?_)
                obtain ⟨y0, y1, y2⟩ := cells_of HB7.out.1.b6
                obtain ⟨f0', f1', f2'⟩ := frozen_of HB7.out.1.b6
                have HHI := Lib.hid (fun W => rhigh_any q (x, y, z) W)
                clear d1 d2 d3
                have d1 := (HB7.out.2.cell (p := ⟨bq, off + m * 4 + 1, none⟩) hbl).trans C1.out.1
                have d2 := (HB7.out.2.cell (p := ⟨bq, off + m * 4 + 2, none⟩) hbl).trans C1.out.2.1
                have d3 := (HB7.out.2.cell (p := ⟨bq, off + m * 4 + 3, none⟩) hbl).trans C1.out.2.2
                refine wp_region_ord (fun w' => w'.cell? ⟨g6, 0, none⟩ = some (.int .i64 q.1) ∧ w'.cell? ⟨g6, 1, none⟩ = some (.int .i64 q.2.1) ∧ w'.cell? ⟨g6, 2, none⟩ = some (.int .i64 q.2.2) ∧ w'.cell? ⟨bq, off + m * 4 + 1, none⟩ = some (.int .i64 x) ∧ w'.cell? ⟨bq, off + m * 4 + 2, none⟩ = some (.int .i64 y) ∧ w'.cell? ⟨bq, off + m * 4 + 3, none⟩ = some (.int .i64 z)) 7
                  [(true, 0), (true, 1), (true, 2), (true, 3), (true, 4), (true, 5), (false, 6)]
                  default (by kernel_rfl) (by kernel_rfl) (fun d _ _ _ _ h => by cases d <;> exact h) ?_ ?_
                · exact ⟨y0, y1, y2, d1, d2, d3⟩
                simp only [List.map_cons, List.map_nil, List.getD_cons_succ, List.getD_cons_zero]
                repeat
                  (refine heldL_take ?_ ?_ ?_
                   rotate_left
                   · intro w' hw'
                     try dsimp only at hw'
                     go_simp
                     try with_reducible rfl
                   try simp only [Act.put, List.setIfInBounds_toArray, List.set_cons_zero, List.set_cons_succ])
                refine heldL_move (fun K hK => ?_)
                go_simp
                refine (HHI.out _).mono ?_
                rintro e W8 ⟨rfl, b8'⟩
                have b8 : Below W7.heap.size W7 W8 := ⟨b8'.os, b8'.tape, b8'.output, b8'.size, b8'.block⟩
                have HB8 := Lib.hid (And.intro (HB7.out.1.below b8) (HB7.out.2.trans (b8.mono HB7.out.2.size)))
                obtain ⟨y0', y1', y2'⟩ := cells_of HB8.out.1.b6
                have d1' := (HB8.out.2.cell (p := ⟨bq, off + m * 4 + 1, none⟩) hbl).trans C1.out.1
                have d2' := (HB8.out.2.cell (p := ⟨bq, off + m * 4 + 2, none⟩) hbl).trans C1.out.2.1
                have d3' := (HB8.out.2.cell (p := ⟨bq, off + m * 4 + 3, none⟩) hbl).trans C1.out.2.2
                obtain ⟨r0, r1, r2⟩ := frozen_of HB8.out.1.b6
                refine hK.out _ _ ⟨y0', y1', y2', d1', d2', d3'⟩ (fun hS => ?_)
                clear hK K hS y0 y1 y2 d1 d2 d3 f0' f1' f2' b8 b8'
                try simp only [Act.put, List.setIfInBounds_toArray, List.set_cons_zero, List.set_cons_succ]
                refine heldL_last (fun K hK => ?_)
                go_simp
                refine hK _ _ ?_
                clear hK K
                try simp only [Act.put, List.setIfInBounds_toArray, List.set_cons_zero, List.set_cons_succ]
                go_wp2_with fail
                go_meet
                exact ⟨c6, ho, hi3 q (x, y, z), L ++ [(x, y, z)], A6, by simp, ⟨by rw [latest_snoc]; exact HB8.out.1.set6 (hi3 q (x, y, z)), by have := HL4.out; simp; omega⟩, below_set3 HB8.out.2 HB8.out.1.bas.2.2.1 _⟩
            ·
              as_aux_lemma =>
              have hR' : rightB x y z = false := by simpa using hR
              have hr9 := fun W => rright_any x y z W
              rw [hR'] at hr9
              have HR := Lib.hid hr9
              have HA := Lib.hid (send_range g x y z wr hR')
              clear hr9 hR hR' hcap hfew
              go_wp2_with fail
              refine HA.out.mono ?_
              rintro e W ⟨rfl, b⟩
              have HW : Hid (ShJ w.heap.size W g g5 g6 g7 ho q L A c ∧ Below w.heap.size w W) := ⟨HK.out.1.below b, HK.out.2.trans (b.mono HK.out.2.size)⟩
              have d1 := (HW.out.2.cell (p := ⟨bq, off + m * 4 + 1, none⟩) hbl).trans C1.out.1
              have d2 := (HW.out.2.cell (p := ⟨bq, off + m * 4 + 2, none⟩) hbl).trans C1.out.2.1
              have d3 := (HW.out.2.cell (p := ⟨bq, off + m * 4 + 3, none⟩) hbl).trans C1.out.2.2
              clear b
              go_wp2_with fail
              refine (HR.out _).mono ?_
              rintro e W2 ⟨rfl, b2⟩
              have HW2 : Hid (ShJ w.heap.size W2 g g5 g6 g7 ho q L A c ∧ Below w.heap.size w W2) := ⟨HW.out.1.below b2, HW.out.2.trans (b2.mono HW.out.2.size)⟩
              clear b2
              go_wp2_with fail
              go_meet
              exact ⟨c, ho, q, L, A, rfl, HW2.out⟩
          · cases L with
            | nil =>
              as_aux_lemma =>
              have HA := Lib.hid (ack_none g ho q wr HK.out.1.1.at_)
              clear hcap hfew c0 c1 c2 c3
              go_wp2_with fail
              refine HA.out.mono ?_
              rintro e W ⟨rfl, b⟩
              have HW : Hid (ShJ w.heap.size W g g5 g6 g7 ho q [] A c ∧ Below w.heap.size w W) := ⟨HK.out.1.below b, HK.out.2.trans (b.mono HK.out.2.size)⟩
              clear b
              go_wp2_with fail
              go_roundw
              case rel => exact ⟨m + 1, c, ho, q, [], A, by omega, rfl, by go_num, (HW.out.1.alloc _).alloc _, (HW.out.2.alloc HW.out.2.size _).alloc (Nat.le_trans HW.out.2.size (by simp)) _⟩
              case measure => simp [intOf]; omega
            | cons l r =>
              as_aux_lemma =>
              obtain ⟨F, hs, hF⟩ := HK.out.1.1.sh
              have HA := Lib.hid (ack_in g ho l q r F wr hs)
              have HF := Lib.hid hF
              clear c0 c1 c2 c3 hs hF
              have hc9 : r.length + 1 ≤ c := by simpa using hcap.1
              go_wp2_with fail
              refine HA.out.mono ?_
              rintro e W ⟨rfl, sW, oW⟩
              have K1 := HK.out.1.1.only oW sW (fun b hb => ⟨Nat.lt_of_lt_of_le (HF.out b hb).1 oW.size, (HF.out b hb).2⟩)
              have B1 : Below w.heap.size w W := bonly HK.out.2 oW (by simpa using K1.bas.1)
              have K2 := (K1.alloc (.cells #[.int .i64 ho.1, .int .i64 ho.2.1, .int .i64 ho.2.2] 27)).alloc (.cells #[.int .i64 l.1, .int .i64 l.2.1, .int .i64 l.2.2] 27)
              have B2 := (B1.alloc B1.size (.cells #[.int .i64 ho.1, .int .i64 ho.2.1, .int .i64 ho.2.2] 27)).alloc (Nat.le_trans B1.size (by simp)) (.cells #[.int .i64 l.1, .int .i64 l.2.1, .int .i64 l.2.2] 27)
              have z10 := Blk.alloc (Blk.new W 27 #[.int .i64 ho.1, .int .i64 ho.2.1, .int .i64 ho.2.2]) (.cells #[.int .i64 l.1, .int .i64 l.2.1, .int .i64 l.2.2] 27)
              have z11 := Blk.new (W.alloc (.cells #[.int .i64 ho.1, .int .i64 ho.2.1, .int .i64 ho.2.2] 27)) 27 #[.int .i64 l.1, .int .i64 l.2.1, .int .i64 l.2.2]
              rw [World.size_alloc] at z11
              clear sW oW K1 B1
              go_wp2_with fail
              generalize (W.alloc (.cells #[.int .i64 ho.1, .int .i64 ho.2.1, .int .i64 ho.2.2] 27)).alloc (.cells #[.int .i64 l.1, .int .i64 l.2.1, .int .i64 l.2.2] 27) = W2 at *
              generalize W.heap.size = G at *
              obtain ⟨wb, wo, rfl, hwb, y0⟩ := K2.way.1.at_ (j := 0) (u := .int .i64 l.1) rfl
              obtain ⟨wb', wo', hA', _, y1⟩ := K2.way.1.at_ (j := 1) (u := .int .i64 l.2.1) rfl
              obtain ⟨rfl, rfl⟩ : wb = wb' ∧ wo = wo' := by simpa using hA'
              obtain ⟨wb', wo', hA', _, y2⟩ := K2.way.1.at_ (j := 2) (u := .int .i64 l.2.2) rfl
              obtain ⟨rfl, rfl⟩ : wb = wb' ∧ wo = wo' := by simpa using hA'
              have n5 := (K2.awy wb wo rfl).1
              have d50 := Blk.cell K2.b5 0
              have d51 := Blk.cell K2.b5 1
              have d52 := Blk.cell K2.b5 2
              have e50 := Blk.frozen K2.b5 0
              have e51 := Blk.frozen K2.b5 1
              have e52 := Blk.frozen K2.b5 2
              have t0 := Blk.cell z10 0
              have t1 := Blk.cell z10 1
              have t2 := Blk.cell z10 2
              have s0 := Blk.cell z11 0
              have s1 := Blk.cell z11 1
              have s2 := Blk.cell z11 2
              simp [cells3] at d50 d51 d52 t0 t1 t2 s0 s1 s2
              rw [Nat.add_zero] at y0
              have HK2 := Lib.hid (And.intro K2 B2)
              have hr0 : (0 : Int) ≤ (r.length : Int) := by omega
              clear K2 B2 z10 z11 hA' HF HA
              go_quiet (fail)
              have HK3 : Hid (ShG w.heap.size (set3 (W2.drewN nq) g5 l) g g5 g6 g7 l q r l q (latest ho (l :: r)) (l :: r) (some ⟨wb, wo, none⟩) c ∧ Below w.heap.size w (set3 (W2.drewN nq) g5 l)) := ⟨(HK2.out.1.drewN nq).set5 l, below_set3 (below_drewN HK2.out.2 nq) HK2.out.1.bas.2.1 l⟩
              have HL := Lib.hid (latest_cons ho l r)
              have HF := Lib.hid hfew
              by_cases hc1 : c = 1
              · subst hc1
                obtain rfl : r = [] := List.eq_nil_of_length_eq_zero (by omega)
                go_wp2_with fail
                go_meet
                exact ⟨0, l, q, [], some ⟨wb, wo, none⟩, rfl, ⟨HL.out ▸ HK3.out.1.front (X := some ⟨wb, wo, none⟩) (fun h1 => by have := h1.front (m := 1) (by omega); simpa using this), by have := HF.out; simp at this; omega⟩, HK3.out.2⟩
              · go_wp2_with fail
                go_meet
                exact ⟨c - 1, l, q, r, some ⟨wb, wo + 3, none⟩, rfl, ⟨HL.out ▸ HK3.out.1.front (X := some ⟨wb, wo + 3, none⟩) (fun h1 => by have := h1.front (m := 1) (by omega); simpa [hc1, Addr.add] using this), by have := HF.out; simp at this; omega⟩, HK3.out.2⟩
        case rest =>
          as_aux_lemma =>
          obtain ⟨c', ho', q', L', A', rfl, k, rb⟩ := hcut
          have hcap' := k.cap
          have hw := k.1.way
          have hs := rb.size
          obtain ⟨d0, d1, d2⟩ := cells_of k.1.b5
          have HLa := Lib.hid (fun (W : World) (hW : ShakeAt W g ho' q' L') => latest_any g ho' q' L' W hW)
          have x17 := Blk.new wc 27 (cells3 ho')
          have k1 := k.alloc (.cells (cells3 ho') 27)
          have B1 := rb.alloc hs (.cells (cells3 ho') 27)
          have hway := k1.1.way.1
          have K0 := Lib.hid (And.intro k rb)
          clear HK hfew hcap C1 c0 c1 c2 c3 hx hy hz k rb
          rcases Nat.eq_zero_or_pos L'.length with h0 | h0
          · obtain rfl : L' = [] := List.eq_nil_of_length_eq_zero h0
            have HJ : Hid (ShJ w.heap.size (wc.alloc (.cells (cells3 ho') 27)) g g5 g6 g7 ho' q' [] A' c' ∧ Below w.heap.size w (wc.alloc (.cells (cells3 ho') 27))) := ⟨k1, B1⟩
            have HF : Hid (ShakeAt (wc.alloc (.cells (cells3 ho') 27)) g ho' q' [] ∧ Four4 (wc.alloc (.cells (cells3 ho') 27)) g5 g6 g7 wc.heap.size ho' q' (latest ho' []) (latest ho' [])) := ⟨k1.1.at_, k1.1.b5, k1.1.b6, k1.1.b7, x17⟩
            clear k1 B1 h0 hw hcap' hway x17
            go_wp2_with fail
            simp only [cells3] at HJ HF
            generalize wc.alloc (.cells #[.int .i64 ho'.1, .int .i64 ho'.2.1, .int .i64 ho'.2.2] 27) = W5 at *
            generalize wc.heap.size = G at *
            generalize latest ho' [] = lt at *
            clear d0 d1 d2
            obtain ⟨⟨x0, x1, x2⟩, ⟨y0, y1, y2⟩, ⟨z0, z1, z2⟩, ⟨t0, t1, t2⟩⟩ := And.intro (cells_of HF.out.2.1) (And.intro (cells_of HF.out.2.2.1) (And.intro (cells_of HF.out.2.2.2.1) (cells_of HF.out.2.2.2.2)))
            go_region_held3 (fun w' => w'.cell? ⟨g5, 0, none⟩ = some (.int .i64 ho'.1) ∧ w'.cell? ⟨g5, 1, none⟩ = some (.int .i64 ho'.2.1) ∧ w'.cell? ⟨g5, 2, none⟩ = some (.int .i64 ho'.2.2) ∧ w'.cell? ⟨g6, 0, none⟩ = some (.int .i64 q'.1) ∧ w'.cell? ⟨g6, 1, none⟩ = some (.int .i64 q'.2.1) ∧ w'.cell? ⟨g6, 2, none⟩ = some (.int .i64 q'.2.2) ∧ w'.cell? ⟨g7, 0, none⟩ = some (.int .i64 lt.1) ∧ w'.cell? ⟨g7, 1, none⟩ = some (.int .i64 lt.2.1) ∧ w'.cell? ⟨g7, 2, none⟩ = some (.int .i64 lt.2.2) ∧ w'.cell? ⟨G, 0, none⟩ = some (.int .i64 lt.1) ∧ w'.cell? ⟨G, 1, none⟩ = some (.int .i64 lt.2.1) ∧ w'.cell? ⟨G, 2, none⟩ = some (.int .i64 lt.2.2))
             (first
               | go_keep
               | (refine ⟨?_, ?_, ?_, ?_, ?_, ?_, ?_, ?_, ?_, ?_, ?_, ?_⟩ <;> with_reducible assumption))
             ((first
               | (go_at_call 12
                  refine (holds_any g ho' q' _ _ (by exact HF.out.1)).mono ?_
                  rintro e w6 ⟨rfl, b6'⟩
                  have b6 : Below W5.heap.size W5 w6 := ⟨b6'.os, b6'.tape, b6'.output, b6'.size, b6'.block⟩
                  have k6 := (HF.out.1).below b6
                  have q6 := (HF.out.2).below b6
                  obtain ⟨⟨x60, x61, x62⟩, ⟨y60, y61, y62⟩, ⟨z60, z61, z62⟩, ⟨t60, t61, t62⟩⟩ := And.intro (cells_of q6.1) (And.intro (cells_of q6.2.1) (And.intro (cells_of q6.2.2.1) (cells_of q6.2.2.2))))
               | (go_at_call 13
                  refine (HLa.out _ (by exact k6)).mono ?_
                  rintro e w7 ⟨rfl, b7'⟩
                  have b7 : Below w6.heap.size w6 w7 := ⟨b7'.os, b7'.tape, b7'.output, b7'.size, b7'.block⟩
                  have k7 := (k6).below b7
                  have q7 := (q6).below b7
                  obtain ⟨⟨x70, x71, x72⟩, ⟨y70, y71, y72⟩, ⟨z70, z71, z72⟩, ⟨t70, t71, t72⟩⟩ := And.intro (cells_of q7.1) (And.intro (cells_of q7.2.1) (And.intro (cells_of q7.2.2.1) (cells_of q7.2.2.2))))
               | (go_at_call 14
                  refine (most_any g ho' q' _ _ (by exact k7)).mono ?_
                  rintro e w8 ⟨rfl, b8'⟩
                  have b8 : Below w7.heap.size w7 w8 := ⟨b8'.os, b8'.tape, b8'.output, b8'.size, b8'.block⟩
                  have k8 := (k7).below b8
                  have q8 := (q7).below b8
                  obtain ⟨⟨x80, x81, x82⟩, ⟨y80, y81, y82⟩, ⟨z80, z81, z82⟩, ⟨t80, t81, t82⟩⟩ := And.intro (cells_of q8.1) (And.intro (cells_of q8.2.1) (And.intro (cells_of q8.2.2.1) (cells_of q8.2.2.2))))
               | (go_at_call 15
                  refine (waiting_any g ho' q' _ _ (by exact k8)).mono ?_
                  rintro e w10 ⟨rfl, rfl⟩)))
            have hb8 := b6.trans ((b7.mono b6.size).trans (b8.mono (Nat.le_trans b6.size b7.size)))
            have HE := Lib.hid (And.intro (HJ.out.1.below hb8) (HJ.out.2.trans (hb8.mono HJ.out.2.size)))
            clear b6 b7 b8 b6' b7' b8' k6 k7 k8 q6 q7 q8 hb8
            go_wp2_with fail
            go_roundw
            case rel => exact ⟨m + 1, _, _, _, _, _, by omega, rfl, by go_num, HE.out⟩
            case measure => simp [intOf]; omega
          · obtain ⟨nn, hnn⟩ : ∃ nn, L'.length = nn + 1 := ⟨L'.length - 1, by omega⟩
            have hlast := latest_at ho' L' nn hnn
            obtain ⟨g1, g2, g3⟩ := flat3_get L' nn (by omega)
            obtain ⟨wb, wo, rfl, hwb, y0⟩ := hway.at_ g1
            obtain ⟨wb', wo', hA', _, y1⟩ := hway.at_ g2
            obtain ⟨rfl, rfl⟩ : wb = wb' ∧ wo = wo' := by simpa using hA'
            obtain ⟨wb', wo', hA', _, y2⟩ := hway.at_ g3
            obtain ⟨rfl, rfl⟩ : wb = wb' ∧ wo = wo' := by simpa using hA'
            rw [← hlast] at y0 y1 y2
            rw [← Nat.add_assoc] at y1 y2
            have hwt := fun (W : World) (hW : ShakeAt W g ho' q' L') => waiting_any g ho' q' L' W hW
            rw [hnn] at hwt hcap'
            have HWa := Lib.hid hwt
            have HN := Lib.hid hnn
            have hbb : Below wc.heap.size wc (wc.alloc (.cells (cells3 (latest ho' L')) 27)) := (Below.refl _ _).alloc (Nat.le_refl _) _
            have HJ : Hid (ShJ w.heap.size (wc.alloc (.cells (cells3 (latest ho' L')) 27)) g g5 g6 g7 ho' q' L' (some ⟨wb, wo, none⟩) c' ∧ Below w.heap.size w (wc.alloc (.cells (cells3 (latest ho' L')) 27))) := ⟨K0.out.1.below hbb, K0.out.2.trans (hbb.mono hs)⟩
            have HF : Hid (ShakeAt (wc.alloc (.cells (cells3 (latest ho' L')) 27)) g ho' q' L' ∧ Four4 (wc.alloc (.cells (cells3 (latest ho' L')) 27)) g5 g6 g7 wc.heap.size ho' q' (latest ho' L') (latest ho' L')) := ⟨HJ.out.1.1.at_, HJ.out.1.1.b5, HJ.out.1.1.b6, HJ.out.1.1.b7, Blk.new _ _ _⟩
            obtain ⟨s0, s1, s2⟩ := frozen_of x17
            obtain ⟨t0, t1, t2⟩ := cells_of x17
            rw [hnn]
            have hn0 : (0 : Int) < (nn : Int) + 1 := by omega
            clear k1 B1 h0 hw hnn hlast g1 g2 g3 hA' hway hbb hwt x17 K0
            generalize latest ho' L' = lt at *
            simp only [cells3] at HJ HF s0 s1 s2 t0 t1 t2 y0 y1 y2
            go_wp2_with fail
            generalize wc.alloc (.cells #[.int .i64 lt.1, .int .i64 lt.2.1, .int .i64 lt.2.2] 27) = W5 at *
            generalize wc.heap.size = G at *
            clear d0 d1 d2 s0 s1 s2 t0 t1 t2 y0 y1 y2
            obtain ⟨⟨x0, x1, x2⟩, ⟨y0, y1, y2⟩, ⟨z0, z1, z2⟩, ⟨t0, t1, t2⟩⟩ := And.intro (cells_of HF.out.2.1) (And.intro (cells_of HF.out.2.2.1) (And.intro (cells_of HF.out.2.2.2.1) (cells_of HF.out.2.2.2.2)))
            go_region_held3 (fun w' => w'.cell? ⟨g5, 0, none⟩ = some (.int .i64 ho'.1) ∧ w'.cell? ⟨g5, 1, none⟩ = some (.int .i64 ho'.2.1) ∧ w'.cell? ⟨g5, 2, none⟩ = some (.int .i64 ho'.2.2) ∧ w'.cell? ⟨g6, 0, none⟩ = some (.int .i64 q'.1) ∧ w'.cell? ⟨g6, 1, none⟩ = some (.int .i64 q'.2.1) ∧ w'.cell? ⟨g6, 2, none⟩ = some (.int .i64 q'.2.2) ∧ w'.cell? ⟨g7, 0, none⟩ = some (.int .i64 lt.1) ∧ w'.cell? ⟨g7, 1, none⟩ = some (.int .i64 lt.2.1) ∧ w'.cell? ⟨g7, 2, none⟩ = some (.int .i64 lt.2.2) ∧ w'.cell? ⟨G, 0, none⟩ = some (.int .i64 lt.1) ∧ w'.cell? ⟨G, 1, none⟩ = some (.int .i64 lt.2.1) ∧ w'.cell? ⟨G, 2, none⟩ = some (.int .i64 lt.2.2))
             (first
               | go_keep
               | (refine ⟨?_, ?_, ?_, ?_, ?_, ?_, ?_, ?_, ?_, ?_, ?_, ?_⟩ <;> with_reducible assumption))
             ((first
               | (go_at_call 12
                  refine (holds_any g ho' q' _ _ (by exact HF.out.1)).mono ?_
                  rintro e w6 ⟨rfl, b6'⟩
                  have b6 : Below W5.heap.size W5 w6 := ⟨b6'.os, b6'.tape, b6'.output, b6'.size, b6'.block⟩
                  have k6 := (HF.out.1).below b6
                  have q6 := (HF.out.2).below b6
                  obtain ⟨⟨x60, x61, x62⟩, ⟨y60, y61, y62⟩, ⟨z60, z61, z62⟩, ⟨t60, t61, t62⟩⟩ := And.intro (cells_of q6.1) (And.intro (cells_of q6.2.1) (And.intro (cells_of q6.2.2.1) (cells_of q6.2.2.2))))
               | (go_at_call 13
                  refine (HLa.out _ (by exact k6)).mono ?_
                  rintro e w7 ⟨rfl, b7'⟩
                  have b7 : Below w6.heap.size w6 w7 := ⟨b7'.os, b7'.tape, b7'.output, b7'.size, b7'.block⟩
                  have k7 := (k6).below b7
                  have q7 := (q6).below b7
                  obtain ⟨⟨x70, x71, x72⟩, ⟨y70, y71, y72⟩, ⟨z70, z71, z72⟩, ⟨t70, t71, t72⟩⟩ := And.intro (cells_of q7.1) (And.intro (cells_of q7.2.1) (And.intro (cells_of q7.2.2.1) (cells_of q7.2.2.2))))
               | (go_at_call 14
                  refine (most_any g ho' q' _ _ (by exact k7)).mono ?_
                  rintro e w8 ⟨rfl, b8'⟩
                  have b8 : Below w7.heap.size w7 w8 := ⟨b8'.os, b8'.tape, b8'.output, b8'.size, b8'.block⟩
                  have k8 := (k7).below b8
                  have q8 := (q7).below b8
                  obtain ⟨⟨x80, x81, x82⟩, ⟨y80, y81, y82⟩, ⟨z80, z81, z82⟩, ⟨t80, t81, t82⟩⟩ := And.intro (cells_of q8.1) (And.intro (cells_of q8.2.1) (And.intro (cells_of q8.2.2.1) (cells_of q8.2.2.2))))
               | (go_at_call 15
                  refine (HWa.out _ (by exact k8)).mono ?_
                  rintro e w10 ⟨rfl, rfl⟩)))
            have hb8 := b6.trans ((b7.mono b6.size).trans (b8.mono (Nat.le_trans b6.size b7.size)))
            have HE := Lib.hid (And.intro (HJ.out.1.below hb8) (HJ.out.2.trans (hb8.mono HJ.out.2.size)))
            clear b6 b7 b8 b6' b7' b8' k6 k7 k8 q6 q7 q8 hb8
            go_wp2_with fail
            go_roundw
            case rel => exact ⟨m + 1, _, _, _, _, _, by omega, by rw [HN.out], by go_num, HE.out⟩
            case measure => simp [intOf]; omega
      · have hend : ¬ m < n ∨ (m < n ∧ ¬ m < 80) := by omega
        clear hgo
        rcases hend with hend | ⟨hend, hend2⟩
        all_goals
          (go_wp2_with fail
           go_ret
           exact ⟨rfl, HK.out.2⟩)

theorem own : ownKnob Try.prog.godebug = none := by kernel_rfl

set_option maxRecDepth 100000 in
theorem lifted (os : Os) (started : os.Started) (H : Type) (enc : TypeId × Value → H) :
    ReturnsInHanded {} Try.checked os 3 .any (Rows.shakeDoesSpec.pre6 enc Try.prog Try.f3 Rows.shakeDoesRow.domain false) (Rows.shakeDoesSpec.post enc Try.prog Try.f3 false true false false) := by
  refine returnsInHanded_of_change (C := Try.checked) own started (by kernel_rfl) Try.func3
    (ChangeSpec.witness6 (enc := enc) (C := Try.checked) false ⟨#[], #[.slice none 0 0], []⟩ 8 (by kernel_rfl) (by kernel_rfl) (by kernel_rfl) (by kernel_rfl)) ?_
  intro W base args ds gs before hval0 hW hcnd _
  have hval : ∀ (j : Nat) t v, Try.f3.params[j]? = some t → args[j]? = some v → Value.okWide Try.prog W .any base t v := hval0
  have hW' := hW
  obtain ⟨p, q, hA0, hV, rfl, hfz, hnd⟩ := hW
  have hA : DataW.TrodAll enc Try.prog W 0 (fun _ => true) true Try.f3.params.toList args.toList ds p := hA0
  rw [Try.params3] at hA hval
  obtain ⟨v0, vs0, d0, ds0, p0, q0, hargs, rfl, rfl, h0, r0⟩ := trodAll_cons hA
  obtain ⟨rfl, rfl, rfl⟩ := trodAll_nil r0
  obtain rfl : args = #[v0] := by cases args; simp_all
  obtain ⟨rfl, rfl⟩ := trodVars_none hV
  have g0 := h0
  obtain ⟨n0, C0, k0⟩ := open_rows Try.underlying22 (by kernel_rfl) (by decide) (bs_of Try.underlying30 Try.underlying4 Try.underlying27 Try.underlying3 (by kernel_rfl) (by kernel_rfl) (by kernel_rfl) rfl rfl rfl rfl rfl rfl rfl rfl rfl rfl) (hval 0 22 v0 rfl rfl) h0
  clear hA0 hval0
  have hlt : ∀ x ∈ (p0 ++ []), x.block < W.heap.size := fun x hx => hW'.lt x (by simpa using hx)
  refine (walk W v0 n0 C0 k0).mono fun e W' ⟨he, hb⟩ => ?_
  subst he
  refine ⟨_, rfl, post_of_below (pa := (p0 ++ [])) (pv := []) hW' (fun _ _ _ => (trodAll_cons_mk (shut_bool Try.underlying4 _) trodAll_mk0)) (fun sp hsp => ?_) (fun _ _ => rfl) (by simp) hb (ok_one (by kernel_rfl) rfl (okWide_bool_mk Try.underlying4 _))⟩
  exact trodAll_cons_mk (below_trod sp (by kernel_rfl) (by kernel_rfl) (of_decide_eq_true (by kernel_rfl)) g0 hb (fun x hx => hlt x (by simp [hx])) (fun x hx => hsp x (by simp [hx])))
    (trodAll_mk0)

theorem over : Rows.shakeDoesRow.holds Try.pinned (OpenSpec.ofChange Rows.shakeDoesSpec) :=
  OpenClaim.holds_of_wide 3 Try.f3 rfl rfl rfl rfl rfl rfl rfl ⟨rfl, rfl, rfl, rfl, rfl⟩ rfl rfl rfl rfl rfl (by kernel_rfl) Try.func3 (by kernel_rfl)
    (of_decide_eq_true (by kernel_rfl)) (by unfold Func.isWrapper; rw [if_neg (by decide +kernel)]; exact ⟨rfl, rfl⟩)
    (fun os started H enc _ => lifted os started H enc)

theorem proved : Rows.ShakeDoesSaid := over
#print axioms proved
end Go.Proofs.Ytdegdikkjaifiaa.ShakeDoes
