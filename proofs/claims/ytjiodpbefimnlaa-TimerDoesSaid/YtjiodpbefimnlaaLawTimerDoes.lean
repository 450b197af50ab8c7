/- Proved: TimerDoes answers true for every input, and leaves its arguments as they were; no condition. -/
import Derived.Test.YtjiodpbefimnlaaRows
import Derived.Test.YtjiodpbefimnlaaMem
import Derived.Test.YtjiodpbefimnlaaLift
import Derived.Test.YtjiodpbefimnlaaTimAw
import Derived.Test.YtjiodpbefimnlaaTim7
import Derived.Test.YtjiodpbefimnlaaTimE
import Derived.WalkKit
import Derived.ProofKit
import Derived.OpenShut
import Derived.Handy
import Derived.Deep.QuietTactic
import Derived.BigQuiet
import Derived.Deep.RegionWith
import Derived.WalkLawsBesides
import Derived.Deep.RegionHeld3
namespace Go.Proofs.Ytjiodpbefimnlaa.TimerDoes
open Go.ChangeShapes Go.WideShapes Go.ChangeAt Go.RowKit Go.Deep
set_option linter.unusedVariables false

theorem find_get {l : List (Int × Int)} {x r : Int} (hs : l.Pairwise (fun p q => p.1 ≠ q.1)) (h : FindIs l x r) : (∃ (k : Nat) (hk : k < l.length), l[k].1 = x ∧ r = (k : Int) ∧ getT l x = some l[k].2) ∨ (r = -1 ∧ getT l x = none) := by
  rcases h with ⟨k, hk, e, hr⟩ | ⟨hr, hn⟩
  · refine .inl ⟨k, hk, e, hr, getT_of_mem hs ?_⟩
    rw [← e]
    exact List.getElem_mem hk
  · refine .inr ⟨hr, getT_none.2 fun p hp => ?_⟩
    obtain ⟨j, hj, rfl⟩ := List.mem_iff_getElem.1 hp
    exact hn j hj
theorem held_grown {w w' : World} {b cnt : Nat} {f : Int → Option Int} {A : Option Addr} {n c : Nat} {xs : List Value} (h : Held w 41 2 A n c xs) (hm : MapI w b f cnt) (hg : w.grownBy w' (some b)) : Held w' 41 2 A n c xs :=
  h.keep fun bk cur hbk => hg.block bk (lt_of_blk hbk) (fun e => by
    injection e with e
    exact MapV.blk_ne hm (g := bk) (ty := 41) (cs := cur) hbk e)
theorem held_only2 {w w' : World} {g b : Nat} {l : List (Int × Int)} {T0 : Int} {A : Option Addr} {n c : Nat} {xs : List Value} (h : Held w 41 2 A n c xs) (k : Whl w g b l T0) (ho : Only [g, b] w w') : Held w' 41 2 A n c xs :=
  h.keep fun bk cur hbk => ho.block bk (lt_of_blk hbk) (fun e => by
    simp at e
    rcases e with rfl | rfl
    · exact Blk.ne_ (t := 41) (t' := 54) hbk k.blk (by decide) rfl
    · exact MapV.blk_ne k.map (g := bk) (ty := 41) (cs := cur) hbk rfl)
def Both (w : World) (g b : Nat) (l : List (Int × Int)) (T : Int) (A : Option Addr) (c : Nat) : Prop := Whl w g b l T ∧ Held w 41 2 A l.length c (prs l)
theorem Both.below {w w' : World} {g b : Nat} {l : List (Int × Int)} {T : Int} {A : Option Addr} {c : Nat} (h : Both w g b l T A c) (hb : Below w.heap.size w w') : Both w' g b l T A c := ⟨h.1.below hb, h.2.below hb⟩
set_option maxRecDepth 100000 in
set_option maxHeartbeats 16000000 in
theorem walk (w : World) (v0 : Value) (n : Nat) (C : Nat → List Value) (h0 : RowsAt w v0 n 4 IIIB C) (a1 : Int) (w1 : (Lit.int .i64 a1).wf = true) :
    Calls Try.prog 3 #[v0, .int .i64 a1] w fun e w' => e = .returned (.bool true) ∧ Below w.heap.size w w' := by
  obtain ⟨A1, cap, rfl, hnc, hcap, hcells⟩ := h0
  have HC := Lib.hid hcells
  have HW1 := Lib.hid w1
  clear hcells w1
  go_enter Try.func3, Try.ntmps3
  go_wp2_with fail
  refine (new_any _).mono ?_
  rintro e w1 ⟨g, b, rfl, hg, hb, k1, b1⟩
  have H1 := Lib.hid (And.intro k1 b1)
  clear k1 b1
  go_wp2_with fail
  refine (awake_any _).mono ?_
  rintro e w2 ⟨rfl, b2⟩
  have H2 := Lib.hid (And.intro (H1.out.1.below b2) (H1.out.2.trans (b2.mono H1.out.2.size)))
  clear b2 H1
  go_wp2_with fail
  go_loopw [6, 7, 8] (fun s6 s7 iv wr => ∃ (m c : Nat) (l : List (Int × Int)) (T : Int) (A : Option Addr), m ≤ 100 ∧ s6 = .slice A l.length c ∧ s7 = .int .i64 T ∧ iv = .int .i64 m ∧ l.length ≤ m ∧ Both wr g b l T A c ∧ Below w.heap.size w wr) (fun _ _ i _ => 100 - (intOf i).toNat)
  case atStart => exact ⟨0, 0, [], 0, none, by omega, rfl, rfl, rfl, by simp, ⟨H2.out.1, Held.nil_ _ _ _⟩, H2.out.2⟩
  case round =>
    obtain ⟨m, c, l, T, A, hm, rfl, rfl, rfl, hlm, k, rb⟩ := hrel
    have HK := Lib.hid (And.intro k rb)
    have hcl := k.2.2.1
    have hcl2 := k.2.2.2.1
    have hT := k.1.clock
    clear k rb H2
    by_cases hgo : m < n ∧ m < 100
    · obtain ⟨hlt, hlt2⟩ := hgo
      obtain ⟨bq, off, kd, x, y, bh, rfl, hbl, c0, c1, c2, c3, hx, hy, hz⟩ := iiib_at HC.out hlt
      have C1 := Lib.hid (And.intro c0 c1)
      have HX := Lib.hid hy
      rw [← HK.out.2.cell (p := ⟨bq, off + m * 4, none⟩) hbl] at c0
      rw [← HK.out.2.cell (p := ⟨bq, off + m * 4 + 1, none⟩) hbl] at c1
      rw [← HK.out.2.cell (p := ⟨bq, off + m * 4 + 2, none⟩) hbl] at c2
      rw [← HK.out.2.cell (p := ⟨bq, off + m * 4 + 3, none⟩) hbl] at c3
      have hm0 : (0 : Int) ≤ m := by omega
      have hm1 : (m : Int) < n := by omega
      have HT := Lib.hid (tick_any T kd x y bh wr hT.1 hT.2)
      clear hx hy hz hT
      go_wp2_with fail
      refine HT.out.mono ?_
      rintro e W ⟨rfl, b3⟩
      generalize tickI T y bh = n' at *
      have HW : Hid (Both W g b l T A c ∧ Below w.heap.size w W) := ⟨HK.out.1.below b3, HK.out.2.trans (b3.mono HK.out.2.size)⟩
      have d0 := (HW.out.2.cell (p := ⟨bq, off + m * 4, none⟩) hbl).trans C1.out.1
      have d1 := (HW.out.2.cell (p := ⟨bq, off + m * 4 + 1, none⟩) hbl).trans C1.out.2
      clear b3 c0 c1 c2 c3 HT HK
      by_cases k3 : kd = 3
      · as_aux_lemma =>
        subst k3
        have HS := Lib.hid (stop_any g b l T W HW.out.1.1 x HX.out)
        go_wp2_with fail
        refine HS.out.mono ?_
        rintro e W3 ⟨rfl, k3, g3⟩
        have h3 := held_grown HW.out.1.2 HW.out.1.1.map g3
        have H3 := Lib.hid (And.intro k3 (And.intro h3 (HW.out.2.grown g3 HW.out.2.size (fun k hk => by injection hk with hk; omega))))
        clear k3 g3 h3 HS d0 d1
        go_wp2_with fail
        refine (find_any A l.length c l x W3 rfl H3.out.2.1).mono ?_
        rintro e W4 ⟨r, rfl, hf, rfl⟩
        have hfg := find_get HW.out.1.1.sd.2 hf
        have hd : (getT l x).isSome = decide (0 ≤ r) := by
          rcases hfg with ⟨k, hk, e1, e2, e3⟩ | ⟨e1, e2⟩
          · rw [e3, e2]; simp
          · rw [e2, e1]; rfl
        rw [hd]
        have HR := Lib.hid (rstop_any A l.length c l x W3 rfl (by omega) H3.out.2.1)
        have hL0 := Lib.hid (stopT_le l x)
        clear hf hfg hd
        generalize hge : decide (0 ≤ r) = dr at *
        have hge2 : decide (r ≥ 0) = dr := hge
        clear hge
        go_wp2_with fail
        refine HR.out.mono ?_
        rintro e W5 ⟨A5, c5, rfl, h5, b5⟩
        have HT5 : Hid (Both W5 g b (stopT l x) T A5 c5 ∧ Below w.heap.size w W5) := ⟨⟨H3.out.1.below b5, h5⟩, H3.out.2.2.trans (b5.mono H3.out.2.2.size)⟩
        have hL5 : (stopT l x).length ≤ m + 1 := by have := hL0.out; omega
        clear h5 b5 H3 HW HR hL0
        generalize stopT l x = L at *
        clear hcl hcl2 hlm
        generalize T = T1 at *
        have hcap5 := HT5.out.1.2.2.1
        cases L with
        | nil =>
          as_aux_lemma =>
          have HN := Lib.hid (next_none g b [] T1 W5 HT5.out.1.1 rfl)
          go_wp2_with fail
          refine HN.out.mono ?_
          rintro e W6 ⟨rfl, b6⟩
          have H6 : Hid (Both W6 g b [] T1 A5 c5 ∧ Below w.heap.size w W6) := ⟨HT5.out.1.below b6, HT5.out.2.trans (b6.mono HT5.out.2.size)⟩
          clear b6
          go_wp2_with fail
          refine (now_any g b [] T1 W6 H6.out.1.1).mono ?_
          rintro e W7 ⟨rfl, rfl⟩
          go_wp2_with fail
          refine (len_any g b [] T1 W6 H6.out.1.1).mono ?_
          rintro e W7 ⟨rfl, rfl⟩
          simp only [List.length_nil]
          go_wp2_with fail
          go_roundw
          case rel => exact ⟨m + 1, c5, [], T1, A5, by omega, rfl, rfl, by go_num, by simp, H6.out⟩
          case measure => simp [intOf]; omega
        | cons p r =>
          as_aux_lemma =>
          have HN := Lib.hid (next_some g b (p :: r) T1 W5 HT5.out.1.1 p r rfl)
          obtain ⟨xb, xo, rfl, hxb, y0, y1⟩ := held_prs (i := 0) HT5.out.1.2 (by simp)
          have HY := Lib.hid (And.intro y0 y1)
          clear y0 y1
          go_wp2_with fail
          refine HN.out.mono ?_
          rintro e W6 ⟨rfl, b6⟩
          have H6 : Hid (Both W6 g b (p :: r) T1 (some ⟨xb, xo, none⟩) c5 ∧ Below w.heap.size w W6) := ⟨HT5.out.1.below b6, HT5.out.2.trans (b6.mono HT5.out.2.size)⟩
          have z0 := (b6.cell (p := ⟨xb, xo + 0 * 2, none⟩) hxb).trans HY.out.1
          have z1 := (b6.cell (p := ⟨xb, xo + 0 * 2 + 1, none⟩) hxb).trans HY.out.2
          simp only [Nat.zero_mul, Nat.add_zero, List.getElem_cons_zero] at z0 z1
          have hr0 : (0 : Int) < (r.length : Int) + 1 := by omega
          clear b6
          go_wp2_with fail
          refine (now_any g b (p :: r) T1 W6 H6.out.1.1).mono ?_
          rintro e W7 ⟨rfl, rfl⟩
          go_wp2_with fail
          refine (len_any g b (p :: r) T1 W6 H6.out.1.1).mono ?_
          rintro e W7 ⟨rfl, rfl⟩
          go_wp2_with fail
          go_roundw
          case rel => exact ⟨m + 1, c5, p :: r, T1, some ⟨xb, xo, none⟩, by omega, by simp, rfl, by go_num, by simpa using hL5, H6.out⟩
          case measure => simp [intOf]; omega
      by_cases k45 : kd = 4 ∨ kd = 5
      · by_cases hin : T ≤ n' ∧ n' ≤ 1099511627776
        · have HCK := Lib.hid (show clk T n' = n' by unfold clk; rw [if_pos hin])
          obtain ⟨hin1, hin2⟩ := hin
          generalize hT1 : n' = T1 at HCK
          subst hT1
          generalize hn9 : n' = T1 at *
          rcases k45 with rfl | rfl
          all_goals
            as_aux_lemma =>
            subst hn9

            have HA := Lib.hid (fun W (kW : Whl W g b l T) => advance_any g b l T n' W kW)
            rw [HCK.out] at HA
            have HD := Lib.hid (rdue_any A l.length c l n' W rfl HW.out.1.2)
            have hdl := due_le l n'
            have hpre := Lib.hid (due_prefix l n')
            have hil := Lib.hid (show (ids (dueT l n')).length = (dueT l n').length by simp [ids])
            generalize hd : (dueT l n').length = d at *
            have HDD := Lib.hid hd
            clear hd
            go_wp2_with fail
            refine HD.out.mono ?_
            rintro e W2 ⟨rfl, rfl⟩
            have hU := fun W => run_upto Try.underlying26 (by kernel_rfl : (Try.prog.info? 41).map (·.size) = some 2) A l.length c d (by omega) W
            obtain ⟨X, hX1, hX2⟩ := run_from Try.underlying26 (by kernel_rfl : (Try.prog.info? 41).map (·.size) = some 2) A l.length c d hdl hcl
            have HX2 := Lib.hid hX2
            clear hX2 d0 d1
            go_wp2_with fail
            refine wp_region_ord (fun _ => True) 8 [(true, 0), (true, 1), (true, 3), (true, 4), (true, 5), (false, 2), (false, 6), (false, 7)] default (by kernel_rfl) (by kernel_rfl) (fun d _ _ _ _ h => by cases d <;> exact h) ?_ ?_
            · trivial
            simp only [List.map_cons, List.map_nil, List.getD_cons_succ, List.getD_cons_zero]
            repeat
              (refine heldL_take ?_ ?_ ?_
               rotate_left
               · intro w' hw'
                 have hU' := hU w'
                 go_simp
                 try with_reducible rfl
               try simp only [Act.put, List.setIfInBounds_toArray, List.set_cons_zero, List.set_cons_succ])
            clear hU
            refine heldL_move (fun K hK => ?_)
            go_simp
            refine (HA.out W.drew (by exact HW.out.1.1.drewN 1)).mono ?_
            rintro e W3 ⟨A7, c7, rfl, h7, k7, o7⟩
            rw [HDD.out] at h7 k7
            have e7 := held_only2 (by exact HW.out.1.2.drewN 1) (by exact HW.out.1.1.drewN 1) o7
            have B7 : Below w.heap.size w W3 := bonly (by exact below_drewN HW.out.2 1) o7 (by intro i hi; simp at hi; rcases hi with rfl | rfl <;> assumption)
            have H7 := Lib.hid (And.intro h7 (And.intro k7 (And.intro e7 B7)))
            clear h7 k7 o7 e7 B7
            rw [HDD.out]
            refine hK.out _ _ trivial (fun hS => ?_)
            clear hK K hS
            try simp only [Act.put, List.setIfInBounds_toArray, List.set_cons_zero, List.set_cons_succ]
            refine heldL_move (fun K hK => ?_)
            go_simp
            have hu := held_upTo H7.out.2.2.1 hdl
            rw [prs_take, ← hpre.out] at hu
            refine (ids_any A d c (dueT l n') W3 HDD.out.symm (by omega) hu).mono ?_
            rintro e W4 ⟨A8, c8, rfl, h8, b8⟩
            rw [hil.out] at h8 ⊢
            have H8 := Lib.hid (And.intro h8 (And.intro (H7.out.1.below b8) (And.intro (H7.out.2.1.below b8) (And.intro (H7.out.2.2.1.below b8) (H7.out.2.2.2.trans (b8.mono H7.out.2.2.2.size))))))
            clear h8 b8 hu
            refine hK.out _ _ trivial (fun hS => ?_)
            clear hK K hS
            try simp only [Act.put, List.setIfInBounds_toArray, List.set_cons_zero, List.set_cons_succ]
            refine heldL_move (fun K hK => ?_)
            go_simp
            refine (ints_eq A7 A8 d d c7 c8 (ids (dueT l n')) W4 (by rw [hil.out]) (by rw [hil.out]) H8.out.2.1 H8.out.1 (by rw [hil.out]; omega)).mono ?_
            rintro e W5 ⟨rfl, q5, rfl⟩
            have HT5 : Hid (Both (W4.drewN q5) g b (l.drop d) n' X (c - d) ∧ Below w.heap.size w (W4.drewN q5)) := by
              refine ⟨⟨H8.out.2.2.1.drewN q5, ?_⟩, below_drewN H8.out.2.2.2.2 q5⟩
              have h := HX2.out W4 _ H8.out.2.2.2.1
              rw [prs_drop l d hdl] at h
              rw [List.length_drop]
              exact h.drewN q5
            refine hK.out _ _ trivial (fun hS => ?_)
            clear hK K hS
            try simp only [Act.put, List.setIfInBounds_toArray, List.set_cons_zero, List.set_cons_succ]
            refine heldL_last (fun K hK => ?_)
            go_simp
            refine hK _ _ ?_
            clear hK K
            try simp only [Act.put, List.setIfInBounds_toArray, List.set_cons_zero, List.set_cons_succ]
            generalize W4.drewN q5 = W5 at *
            clear H7 H8 HX2 HW HA HD
            have hL5 : (l.drop d).length ≤ m + 1 := by rw [List.length_drop]; omega
            have HLD := Lib.hid (List.length_drop (i := d) (l := l))
            go_upto_region 31 with fail
            rw [← HLD.out]
            clear hX1 hil hpre HDD hdl hcl hcl2 hlm HLD
            generalize c - d = c5 at *
            generalize l.drop d = L at *
            generalize X = A5 at *
            generalize n' = T1 at *

            have hcap5 := HT5.out.1.2.2.1
            cases L with
            | nil =>
              as_aux_lemma =>
              have HN := Lib.hid (next_none g b [] T1 W5 HT5.out.1.1 rfl)
              go_wp2_with fail
              refine HN.out.mono ?_
              rintro e W6 ⟨rfl, b6⟩
              have H6 : Hid (Both W6 g b [] T1 A5 c5 ∧ Below w.heap.size w W6) := ⟨HT5.out.1.below b6, HT5.out.2.trans (b6.mono HT5.out.2.size)⟩
              clear b6
              go_wp2_with fail
              refine (now_any g b [] T1 W6 H6.out.1.1).mono ?_
              rintro e W7 ⟨rfl, rfl⟩
              go_wp2_with fail
              refine (len_any g b [] T1 W6 H6.out.1.1).mono ?_
              rintro e W7 ⟨rfl, rfl⟩
              simp only [List.length_nil]
              go_wp2_with fail
              go_roundw
              case rel => exact ⟨m + 1, c5, [], T1, A5, by omega, rfl, rfl, by go_num, by simp, H6.out⟩
              case measure => simp [intOf]; omega
            | cons p r =>
              as_aux_lemma =>
              have HN := Lib.hid (next_some g b (p :: r) T1 W5 HT5.out.1.1 p r rfl)
              obtain ⟨xb, xo, rfl, hxb, y0, y1⟩ := held_prs (i := 0) HT5.out.1.2 (by simp)
              have HY := Lib.hid (And.intro y0 y1)
              clear y0 y1
              go_wp2_with fail
              refine HN.out.mono ?_
              rintro e W6 ⟨rfl, b6⟩
              have H6 : Hid (Both W6 g b (p :: r) T1 (some ⟨xb, xo, none⟩) c5 ∧ Below w.heap.size w W6) := ⟨HT5.out.1.below b6, HT5.out.2.trans (b6.mono HT5.out.2.size)⟩
              have z0 := (b6.cell (p := ⟨xb, xo + 0 * 2, none⟩) hxb).trans HY.out.1
              have z1 := (b6.cell (p := ⟨xb, xo + 0 * 2 + 1, none⟩) hxb).trans HY.out.2
              simp only [Nat.zero_mul, Nat.add_zero, List.getElem_cons_zero] at z0 z1
              have hr0 : (0 : Int) < (r.length : Int) + 1 := by omega
              clear b6
              go_wp2_with fail
              refine (now_any g b (p :: r) T1 W6 H6.out.1.1).mono ?_
              rintro e W7 ⟨rfl, rfl⟩
              go_wp2_with fail
              refine (len_any g b (p :: r) T1 W6 H6.out.1.1).mono ?_
              rintro e W7 ⟨rfl, rfl⟩
              go_wp2_with fail
              go_roundw
              case rel => exact ⟨m + 1, c5, p :: r, T1, some ⟨xb, xo, none⟩, by omega, by simp, rfl, by go_num, by simpa using hL5, H6.out⟩
              case measure => simp [intOf]; omega

        · have HCK := Lib.hid (show clk T n' = T by unfold clk; rw [if_neg hin])
          have hno : n' < T ∨ (T ≤ n' ∧ 1099511627776 < n') := by omega
          clear hin
          rcases k45 with rfl | rfl
          all_goals
            rcases hno with hno | ⟨hno, hno2⟩
            all_goals
              as_aux_lemma =>

              have HA := Lib.hid (fun W (kW : Whl W g b l T) => advance_any g b l T n' W kW)
              rw [HCK.out] at HA
              have HD := Lib.hid (rdue_any A l.length c l T W rfl HW.out.1.2)
              have hdl := due_le l T
              have hpre := Lib.hid (due_prefix l T)
              have hil := Lib.hid (show (ids (dueT l T)).length = (dueT l T).length by simp [ids])
              generalize hd : (dueT l T).length = d at *
              have HDD := Lib.hid hd
              clear hd
              go_wp2_with fail
              refine HD.out.mono ?_
              rintro e W2 ⟨rfl, rfl⟩
              have hU := fun W => run_upto Try.underlying26 (by kernel_rfl : (Try.prog.info? 41).map (·.size) = some 2) A l.length c d (by omega) W
              obtain ⟨X, hX1, hX2⟩ := run_from Try.underlying26 (by kernel_rfl : (Try.prog.info? 41).map (·.size) = some 2) A l.length c d hdl hcl
              have HX2 := Lib.hid hX2
              clear hX2 d0 d1
              go_wp2_with fail
              refine wp_region_ord (fun _ => True) 8 [(true, 0), (true, 1), (true, 3), (true, 4), (true, 5), (false, 2), (false, 6), (false, 7)] default (by kernel_rfl) (by kernel_rfl) (fun d _ _ _ _ h => by cases d <;> exact h) ?_ ?_
              · trivial
              simp only [List.map_cons, List.map_nil, List.getD_cons_succ, List.getD_cons_zero]
              repeat
                (refine heldL_take ?_ ?_ ?_
                 rotate_left
                 · intro w' hw'
                   have hU' := hU w'
                   go_simp
                   try with_reducible rfl
                 try simp only [Act.put, List.setIfInBounds_toArray, List.set_cons_zero, List.set_cons_succ])
              clear hU
              refine heldL_move (fun K hK => ?_)
              go_simp
              refine (HA.out W.drew (by exact HW.out.1.1.drewN 1)).mono ?_
              rintro e W3 ⟨A7, c7, rfl, h7, k7, o7⟩
              rw [HDD.out] at h7 k7
              have e7 := held_only2 (by exact HW.out.1.2.drewN 1) (by exact HW.out.1.1.drewN 1) o7
              have B7 : Below w.heap.size w W3 := bonly (by exact below_drewN HW.out.2 1) o7 (by intro i hi; simp at hi; rcases hi with rfl | rfl <;> assumption)
              have H7 := Lib.hid (And.intro h7 (And.intro k7 (And.intro e7 B7)))
              clear h7 k7 o7 e7 B7
              rw [HDD.out]
              refine hK.out _ _ trivial (fun hS => ?_)
              clear hK K hS
              try simp only [Act.put, List.setIfInBounds_toArray, List.set_cons_zero, List.set_cons_succ]
              refine heldL_move (fun K hK => ?_)
              go_simp
              have hu := held_upTo H7.out.2.2.1 hdl
              rw [prs_take, ← hpre.out] at hu
              refine (ids_any A d c (dueT l T) W3 HDD.out.symm (by omega) hu).mono ?_
              rintro e W4 ⟨A8, c8, rfl, h8, b8⟩
              rw [hil.out] at h8 ⊢
              have H8 := Lib.hid (And.intro h8 (And.intro (H7.out.1.below b8) (And.intro (H7.out.2.1.below b8) (And.intro (H7.out.2.2.1.below b8) (H7.out.2.2.2.trans (b8.mono H7.out.2.2.2.size))))))
              clear h8 b8 hu
              refine hK.out _ _ trivial (fun hS => ?_)
              clear hK K hS
              try simp only [Act.put, List.setIfInBounds_toArray, List.set_cons_zero, List.set_cons_succ]
              refine heldL_move (fun K hK => ?_)
              go_simp
              refine (ints_eq A7 A8 d d c7 c8 (ids (dueT l T)) W4 (by rw [hil.out]) (by rw [hil.out]) H8.out.2.1 H8.out.1 (by rw [hil.out]; omega)).mono ?_
              rintro e W5 ⟨rfl, q5, rfl⟩
              have HT5 : Hid (Both (W4.drewN q5) g b (l.drop d) T X (c - d) ∧ Below w.heap.size w (W4.drewN q5)) := by
                refine ⟨⟨H8.out.2.2.1.drewN q5, ?_⟩, below_drewN H8.out.2.2.2.2 q5⟩
                have h := HX2.out W4 _ H8.out.2.2.2.1
                rw [prs_drop l d hdl] at h
                rw [List.length_drop]
                exact h.drewN q5
              refine hK.out _ _ trivial (fun hS => ?_)
              clear hK K hS
              try simp only [Act.put, List.setIfInBounds_toArray, List.set_cons_zero, List.set_cons_succ]
              refine heldL_last (fun K hK => ?_)
              go_simp
              refine hK _ _ ?_
              clear hK K
              try simp only [Act.put, List.setIfInBounds_toArray, List.set_cons_zero, List.set_cons_succ]
              generalize W4.drewN q5 = W5 at *
              clear H7 H8 HX2 HW HA HD
              have hL5 : (l.drop d).length ≤ m + 1 := by rw [List.length_drop]; omega
              have HLD := Lib.hid (List.length_drop (i := d) (l := l))
              go_upto_region 31 with fail
              rw [← HLD.out]
              clear hX1 hil hpre HDD hdl hcl hcl2 hlm HLD
              generalize c - d = c5 at *
              generalize l.drop d = L at *
              generalize X = A5 at *
              generalize T = T1 at *

              have hcap5 := HT5.out.1.2.2.1
              cases L with
              | nil =>
                as_aux_lemma =>
                have HN := Lib.hid (next_none g b [] T1 W5 HT5.out.1.1 rfl)
                go_wp2_with fail
                refine HN.out.mono ?_
                rintro e W6 ⟨rfl, b6⟩
                have H6 : Hid (Both W6 g b [] T1 A5 c5 ∧ Below w.heap.size w W6) := ⟨HT5.out.1.below b6, HT5.out.2.trans (b6.mono HT5.out.2.size)⟩
                clear b6
                go_wp2_with fail
                refine (now_any g b [] T1 W6 H6.out.1.1).mono ?_
                rintro e W7 ⟨rfl, rfl⟩
                go_wp2_with fail
                refine (len_any g b [] T1 W6 H6.out.1.1).mono ?_
                rintro e W7 ⟨rfl, rfl⟩
                simp only [List.length_nil]
                go_wp2_with fail
                go_roundw
                case rel => exact ⟨m + 1, c5, [], T1, A5, by omega, rfl, rfl, by go_num, by simp, H6.out⟩
                case measure => simp [intOf]; omega
              | cons p r =>
                as_aux_lemma =>
                have HN := Lib.hid (next_some g b (p :: r) T1 W5 HT5.out.1.1 p r rfl)
                obtain ⟨xb, xo, rfl, hxb, y0, y1⟩ := held_prs (i := 0) HT5.out.1.2 (by simp)
                have HY := Lib.hid (And.intro y0 y1)
                clear y0 y1
                go_wp2_with fail
                refine HN.out.mono ?_
                rintro e W6 ⟨rfl, b6⟩
                have H6 : Hid (Both W6 g b (p :: r) T1 (some ⟨xb, xo, none⟩) c5 ∧ Below w.heap.size w W6) := ⟨HT5.out.1.below b6, HT5.out.2.trans (b6.mono HT5.out.2.size)⟩
                have z0 := (b6.cell (p := ⟨xb, xo + 0 * 2, none⟩) hxb).trans HY.out.1
                have z1 := (b6.cell (p := ⟨xb, xo + 0 * 2 + 1, none⟩) hxb).trans HY.out.2
                simp only [Nat.zero_mul, Nat.add_zero, List.getElem_cons_zero] at z0 z1
                have hr0 : (0 : Int) < (r.length : Int) + 1 := by omega
                clear b6
                go_wp2_with fail
                refine (now_any g b (p :: r) T1 W6 H6.out.1.1).mono ?_
                rintro e W7 ⟨rfl, rfl⟩
                go_wp2_with fail
                refine (len_any g b (p :: r) T1 W6 H6.out.1.1).mono ?_
                rintro e W7 ⟨rfl, rfl⟩
                go_wp2_with fail
                go_roundw
                case rel => exact ⟨m + 1, c5, p :: r, T1, some ⟨xb, xo, none⟩, by omega, by simp, rfl, by go_num, by simpa using hL5, H6.out⟩
                case measure => simp [intOf]; omega
      have q3 : (kd == 3) = false := by simp [k3]
      have q4 : (kd == 4) = false := by simp; omega
      have q5 : (kd == 5) = false := by simp; omega
      by_cases hr : n' < T ∨ 1099511627776 < n'
      · have HS := Lib.hid (set_range g b l T W HW.out.1.1 x n' HX.out hr)
        rcases hr with hr | hr
        · as_aux_lemma =>
          go_wp2_with fail
          refine HS.out.mono ?_
          rintro e W5 ⟨rfl, rfl⟩
          have HT5 := HW
          have hL5 : l.length ≤ m + 1 := by omega
          clear HW HS hcl hcl2 hlm d0 d1
          go_upto_region 31 with fail
          generalize T = T1 at *
          generalize l = L at *
          generalize A = A5 at *
          generalize c = c5 at *
          generalize W = W5 at *
          have hcap5 := HT5.out.1.2.2.1
          cases L with
          | nil =>
            as_aux_lemma =>
            have HN := Lib.hid (next_none g b [] T1 W5 HT5.out.1.1 rfl)
            go_wp2_with fail
            refine HN.out.mono ?_
            rintro e W6 ⟨rfl, b6⟩
            have H6 : Hid (Both W6 g b [] T1 A5 c5 ∧ Below w.heap.size w W6) := ⟨HT5.out.1.below b6, HT5.out.2.trans (b6.mono HT5.out.2.size)⟩
            clear b6
            go_wp2_with fail
            refine (now_any g b [] T1 W6 H6.out.1.1).mono ?_
            rintro e W7 ⟨rfl, rfl⟩
            go_wp2_with fail
            refine (len_any g b [] T1 W6 H6.out.1.1).mono ?_
            rintro e W7 ⟨rfl, rfl⟩
            simp only [List.length_nil]
            go_wp2_with fail
            go_roundw
            case rel => exact ⟨m + 1, c5, [], T1, A5, by omega, rfl, rfl, by go_num, by simp, H6.out⟩
            case measure => simp [intOf]; omega
          | cons p r =>
            as_aux_lemma =>
            have HN := Lib.hid (next_some g b (p :: r) T1 W5 HT5.out.1.1 p r rfl)
            obtain ⟨xb, xo, rfl, hxb, y0, y1⟩ := held_prs (i := 0) HT5.out.1.2 (by simp)
            have HY := Lib.hid (And.intro y0 y1)
            clear y0 y1
            go_wp2_with fail
            refine HN.out.mono ?_
            rintro e W6 ⟨rfl, b6⟩
            have H6 : Hid (Both W6 g b (p :: r) T1 (some ⟨xb, xo, none⟩) c5 ∧ Below w.heap.size w W6) := ⟨HT5.out.1.below b6, HT5.out.2.trans (b6.mono HT5.out.2.size)⟩
            have z0 := (b6.cell (p := ⟨xb, xo + 0 * 2, none⟩) hxb).trans HY.out.1
            have z1 := (b6.cell (p := ⟨xb, xo + 0 * 2 + 1, none⟩) hxb).trans HY.out.2
            simp only [Nat.zero_mul, Nat.add_zero, List.getElem_cons_zero] at z0 z1
            have hr0 : (0 : Int) < (r.length : Int) + 1 := by omega
            clear b6
            go_wp2_with fail
            refine (now_any g b (p :: r) T1 W6 H6.out.1.1).mono ?_
            rintro e W7 ⟨rfl, rfl⟩
            go_wp2_with fail
            refine (len_any g b (p :: r) T1 W6 H6.out.1.1).mono ?_
            rintro e W7 ⟨rfl, rfl⟩
            go_wp2_with fail
            go_roundw
            case rel => exact ⟨m + 1, c5, p :: r, T1, some ⟨xb, xo, none⟩, by omega, by simp, rfl, by go_num, by simpa using hL5, H6.out⟩
            case measure => simp [intOf]; omega

        · as_aux_lemma =>
          have hr' : ¬ n' < T := by have := HW.out.1.1.clock; omega
          go_wp2_with fail
          refine HS.out.mono ?_
          rintro e W5 ⟨rfl, rfl⟩
          have HT5 := HW
          have hL5 : l.length ≤ m + 1 := by omega
          clear HW HS hcl hcl2 hlm d0 d1
          go_upto_region 31 with fail
          generalize T = T1 at *
          generalize l = L at *
          generalize A = A5 at *
          generalize c = c5 at *
          generalize W = W5 at *
          have hcap5 := HT5.out.1.2.2.1
          cases L with
          | nil =>
            as_aux_lemma =>
            have HN := Lib.hid (next_none g b [] T1 W5 HT5.out.1.1 rfl)
            go_wp2_with fail
            refine HN.out.mono ?_
            rintro e W6 ⟨rfl, b6⟩
            have H6 : Hid (Both W6 g b [] T1 A5 c5 ∧ Below w.heap.size w W6) := ⟨HT5.out.1.below b6, HT5.out.2.trans (b6.mono HT5.out.2.size)⟩
            clear b6
            go_wp2_with fail
            refine (now_any g b [] T1 W6 H6.out.1.1).mono ?_
            rintro e W7 ⟨rfl, rfl⟩
            go_wp2_with fail
            refine (len_any g b [] T1 W6 H6.out.1.1).mono ?_
            rintro e W7 ⟨rfl, rfl⟩
            simp only [List.length_nil]
            go_wp2_with fail
            go_roundw
            case rel => exact ⟨m + 1, c5, [], T1, A5, by omega, rfl, rfl, by go_num, by simp, H6.out⟩
            case measure => simp [intOf]; omega
          | cons p r =>
            as_aux_lemma =>
            have HN := Lib.hid (next_some g b (p :: r) T1 W5 HT5.out.1.1 p r rfl)
            obtain ⟨xb, xo, rfl, hxb, y0, y1⟩ := held_prs (i := 0) HT5.out.1.2 (by simp)
            have HY := Lib.hid (And.intro y0 y1)
            clear y0 y1
            go_wp2_with fail
            refine HN.out.mono ?_
            rintro e W6 ⟨rfl, b6⟩
            have H6 : Hid (Both W6 g b (p :: r) T1 (some ⟨xb, xo, none⟩) c5 ∧ Below w.heap.size w W6) := ⟨HT5.out.1.below b6, HT5.out.2.trans (b6.mono HT5.out.2.size)⟩
            have z0 := (b6.cell (p := ⟨xb, xo + 0 * 2, none⟩) hxb).trans HY.out.1
            have z1 := (b6.cell (p := ⟨xb, xo + 0 * 2 + 1, none⟩) hxb).trans HY.out.2
            simp only [Nat.zero_mul, Nat.add_zero, List.getElem_cons_zero] at z0 z1
            have hr0 : (0 : Int) < (r.length : Int) + 1 := by omega
            clear b6
            go_wp2_with fail
            refine (now_any g b (p :: r) T1 W6 H6.out.1.1).mono ?_
            rintro e W7 ⟨rfl, rfl⟩
            go_wp2_with fail
            refine (len_any g b (p :: r) T1 W6 H6.out.1.1).mono ?_
            rintro e W7 ⟨rfl, rfl⟩
            go_wp2_with fail
            go_roundw
            case rel => exact ⟨m + 1, c5, p :: r, T1, some ⟨xb, xo, none⟩, by omega, by simp, rfl, by go_num, by simpa using hL5, H6.out⟩
            case measure => simp [intOf]; omega

      · as_aux_lemma =>
        have hr1 : T ≤ n' := by omega
        have hr2 : n' ≤ 1099511627776 := by omega
        have HS := Lib.hid (set_ok g b l T W HW.out.1.1 x n' HX.out hr1 hr2 (fun _ => by omega))
        have HRS := Lib.hid (fun V hV => rset_any A l.length c l x n' V rfl (by omega) hV)
        have HSD := Lib.hid HW.out.1.1.sd
        clear hr
        go_wp2_with fail
        refine HS.out.mono ?_
        rintro e W3 ⟨rfl, k3', g3⟩
        have h3 := held_grown HW.out.1.2 HW.out.1.1.map g3
        have H3 := Lib.hid (And.intro k3' (And.intro h3 (HW.out.2.grown g3 HW.out.2.size (fun k hk => by injection hk with hk; omega))))
        clear k3' g3 h3 HS d0 d1
        go_wp2_with fail
        refine (HRS.out W3 H3.out.2.1).mono ?_
        rintro e W5 ⟨L, hL, A5, c5, rfl, h5, b5⟩
        have HT5 : Hid (Both W5 g b L T A5 c5 ∧ Below w.heap.size w W5) := ⟨⟨(H3.out.1 L hL).below b5, h5⟩, H3.out.2.2.trans (b5.mono H3.out.2.2.size)⟩
        have hL5 : L.length ≤ m + 1 := by
          obtain ⟨_, _, e3⟩ := HSD.out.set hL
          rw [e3]
          split <;> omega
        clear h5 b5 H3 HW hL HRS HSD hcl hcl2 hlm
        generalize T = T1 at *
        have hcap5 := HT5.out.1.2.2.1
        cases L with
        | nil =>
          as_aux_lemma =>
          have HN := Lib.hid (next_none g b [] T1 W5 HT5.out.1.1 rfl)
          go_wp2_with fail
          refine HN.out.mono ?_
          rintro e W6 ⟨rfl, b6⟩
          have H6 : Hid (Both W6 g b [] T1 A5 c5 ∧ Below w.heap.size w W6) := ⟨HT5.out.1.below b6, HT5.out.2.trans (b6.mono HT5.out.2.size)⟩
          clear b6
          go_wp2_with fail
          refine (now_any g b [] T1 W6 H6.out.1.1).mono ?_
          rintro e W7 ⟨rfl, rfl⟩
          go_wp2_with fail
          refine (len_any g b [] T1 W6 H6.out.1.1).mono ?_
          rintro e W7 ⟨rfl, rfl⟩
          simp only [List.length_nil]
          go_wp2_with fail
          go_roundw
          case rel => exact ⟨m + 1, c5, [], T1, A5, by omega, rfl, rfl, by go_num, by simp, H6.out⟩
          case measure => simp [intOf]; omega
        | cons p r =>
          as_aux_lemma =>
          have HN := Lib.hid (next_some g b (p :: r) T1 W5 HT5.out.1.1 p r rfl)
          obtain ⟨xb, xo, rfl, hxb, y0, y1⟩ := held_prs (i := 0) HT5.out.1.2 (by simp)
          have HY := Lib.hid (And.intro y0 y1)
          clear y0 y1
          go_wp2_with fail
          refine HN.out.mono ?_
          rintro e W6 ⟨rfl, b6⟩
          have H6 : Hid (Both W6 g b (p :: r) T1 (some ⟨xb, xo, none⟩) c5 ∧ Below w.heap.size w W6) := ⟨HT5.out.1.below b6, HT5.out.2.trans (b6.mono HT5.out.2.size)⟩
          have z0 := (b6.cell (p := ⟨xb, xo + 0 * 2, none⟩) hxb).trans HY.out.1
          have z1 := (b6.cell (p := ⟨xb, xo + 0 * 2 + 1, none⟩) hxb).trans HY.out.2
          simp only [Nat.zero_mul, Nat.add_zero, List.getElem_cons_zero] at z0 z1
          have hr0 : (0 : Int) < (r.length : Int) + 1 := by omega
          clear b6
          go_wp2_with fail
          refine (now_any g b (p :: r) T1 W6 H6.out.1.1).mono ?_
          rintro e W7 ⟨rfl, rfl⟩
          go_wp2_with fail
          refine (len_any g b (p :: r) T1 W6 H6.out.1.1).mono ?_
          rintro e W7 ⟨rfl, rfl⟩
          go_wp2_with fail
          go_roundw
          case rel => exact ⟨m + 1, c5, p :: r, T1, some ⟨xb, xo, none⟩, by omega, by simp, rfl, by go_num, by simpa using hL5, H6.out⟩
          case measure => simp [intOf]; omega
    · have HZ := HK
      have hend : ¬ m < n ∨ (m < n ∧ ¬ m < 100) := by omega
      clear hgo hT
      have HA := Lib.hid (at_any g b l T wr HK.out.1.1 a1 HW1.out)
      have HF := Lib.hid (find_any A l.length c l a1 wr rfl HK.out.1.2)
      clear HZ
      rcases hend with hend | ⟨hend, hend2⟩
      all_goals
        as_aux_lemma =>
        go_wp2_with fail
        refine HA.out.mono ?_
        rintro e w3 ⟨rfl, rfl⟩
        go_wp2_with fail
        refine HF.out.mono ?_
        rintro e w4 ⟨r, rfl, hf, rfl⟩
        rcases find_get HK.out.1.1.sd.2 hf with ⟨k, hk, e1, rfl, e3⟩ | ⟨rfl, e2⟩
        · rw [e3]
          obtain ⟨xb, xo, rfl, hxb, y0, y1⟩ := held_prs HK.out.1.2 hk
          have hk0 : (0 : Int) ≤ k := by omega
          have hk1 : (k : Int) < (l.length : Int) := by omega
          generalize l[k].2 = v at *
          clear hf e1 e3 y0
          go_wp2_with fail
          go_ret
          exact ⟨rfl, HK.out.2⟩
        · rw [e2]
          clear hf e2
          go_wp2_with fail
          go_ret
          exact ⟨rfl, HK.out.2⟩

theorem own : ownKnob Try.prog.godebug = none := by kernel_rfl

set_option maxRecDepth 100000 in
theorem lifted (os : Os) (started : os.Started) (H : Type) (enc : TypeId × Value → H) :
    ReturnsInHanded {} Try.checked os 3 .any (Rows.timerDoesSpec.pre6 enc Try.prog Try.f3 Rows.timerDoesRow.domain false) (Rows.timerDoesSpec.post enc Try.prog Try.f3 false true false false) := by
  refine returnsInHanded_of_change (C := Try.checked) own started (by kernel_rfl) Try.func3
    (ChangeSpec.witness6 (enc := enc) (C := Try.checked) false ⟨#[], #[.slice none 0 0, .int .i64 0], []⟩ 8 (by kernel_rfl) (by kernel_rfl) (by kernel_rfl) (by kernel_rfl)) ?_
  intro W base args ds gs before hval0 hW hcnd _
  have hval : ∀ (j : Nat) t v, Try.f3.params[j]? = some t → args[j]? = some v → Value.okWide Try.prog W .any base t v := hval0
  have hW' := hW
  obtain ⟨p, q, hA0, hV, rfl, hfz, hnd⟩ := hW
  have hA : DataW.TrodAll enc Try.prog W 0 (fun _ => true) true Try.f3.params.toList args.toList ds p := hA0
  rw [Try.params3] at hA hval
  obtain ⟨v0, vs0, d0, ds0, p0, q0, hargs, rfl, rfl, h0, r0⟩ := trodAll_cons hA
  obtain ⟨v1, vs1, d1, ds1, p1, q1, rfl, rfl, rfl, h1, r1⟩ := trodAll_cons r0
  obtain ⟨rfl, rfl, rfl⟩ := trodAll_nil r1
  obtain rfl : args = #[v0, v1] := by cases args; simp_all
  obtain ⟨rfl, rfl⟩ := trodVars_none hV
  have g0 := h0
  have g1 := h1
  obtain ⟨n0, C0, k0⟩ := open_rows Try.underlying22 (by kernel_rfl) (by decide) (iiib_of Try.underlying29 Try.underlying3 Try.underlying4 (by kernel_rfl) (by kernel_rfl) rfl rfl rfl rfl rfl rfl rfl rfl) (hval 0 22 v0 rfl rfl) h0
  obtain ⟨a1, rfl, _, _, w1⟩ := open_int Try.underlying3 (hval 1 3 v1 rfl rfl) h1
  clear hA0 hval0
  have hlt : ∀ x ∈ (p0 ++ (p1 ++ [])), x.block < W.heap.size := fun x hx => hW'.lt x (by simpa using hx)
  refine (walk W v0 n0 C0 k0 a1 w1).mono fun e W' ⟨he, hb⟩ => ?_
  subst he
  refine ⟨_, rfl, post_of_below (pa := (p0 ++ (p1 ++ []))) (pv := []) hW' (fun _ _ _ => (trodAll_cons_mk (shut_bool Try.underlying4 _) trodAll_mk0)) (fun sp hsp => ?_) (fun _ _ => rfl) (by simp) hb (ok_one (by kernel_rfl) rfl (okWide_bool_mk Try.underlying4 _))⟩
  exact trodAll_cons_mk (below_trod sp (by kernel_rfl) (by kernel_rfl) (of_decide_eq_true (by kernel_rfl)) g0 hb (fun x hx => hlt x (by simp [hx])) (fun x hx => hsp x (by simp [hx])))
    (trodAll_cons_mk (below_trod sp (by kernel_rfl) (by kernel_rfl) (of_decide_eq_true (by kernel_rfl)) g1 hb (fun x hx => hlt x (by simp [hx])) (fun x hx => hsp x (by simp [hx])))
    (trodAll_mk0))

theorem over : Rows.timerDoesRow.holds Try.pinned (OpenSpec.ofChange Rows.timerDoesSpec) :=
  OpenClaim.holds_of_wide 3 Try.f3 rfl rfl rfl rfl rfl rfl rfl ⟨rfl, rfl, rfl, rfl, rfl⟩ rfl rfl rfl rfl rfl (by kernel_rfl) Try.func3 (by kernel_rfl)
    (of_decide_eq_true (by kernel_rfl)) (by unfold Func.isWrapper; rw [if_neg (by decide +kernel)]; exact ⟨rfl, rfl⟩)
    (fun os started H enc _ => lifted os started H enc)

theorem proved : Rows.TimerDoesSaid := over
#print axioms proved
end Go.Proofs.Ytjiodpbefimnlaa.TimerDoes
