/- Proved: TreeSound answers true for every input, and leaves its arguments as they were; no condition. -/
import Derived.Test.YtifgbnjpiphidaaRows
import Derived.Test.YtifgbnjpiphidaaMem
import Derived.Test.YtifgbnjpiphidaaLift
import Derived.Test.YtifgbnjpiphidaaTre9
import Derived.WalkKit
import Derived.ProofKit
import Derived.OpenShut
import Derived.Handy
import Derived.Deep.QuietTactic
import Derived.BigQuiet
import Derived.Deep.RegionWith
import Derived.WalkLawsBesides
import Derived.Deep.RegionHeld3
namespace Go.Proofs.Ytifgbnjpiphidaa.TreeSound
open Go.ChangeShapes Go.WideShapes Go.ChangeAt Go.RowKit Go.Deep
set_option linter.unusedVariables false

/-- What stands while the order is gone through: the tree, what was put in, the order. -/
structure Kp (w0 w : World) (g b : Nat) (most : Int) (l : List Nd) (bt : Nat) (G : Int → Option Bool) (cnt : Nat) (A : Option Addr) (c : Nat) (o : List Int) : Prop where
  t : Trs w g b most l
  m : MapB w bt G cnt
  h : Held w 3 1 A l.length c (nums o)
  bel : Below w0.heap.size w0 w
theorem Kp.below {w0 w w' : World} {g b bt cnt c : Nat} {most : Int} {l : List Nd} {G : Int → Option Bool} {A : Option Addr} {o : List Int} (k : Kp w0 w g b most l bt G cnt A c o) (hb : Below w.heap.size w w') : Kp w0 w' g b most l bt G cnt A c o :=
  ⟨k.t.below hb, k.m.below hb k.m.lt, k.h.below hb, k.bel.trans (hb.mono k.bel.size)⟩
theorem held_seen {w w' : World} {e : TypeId} {sz n cap bs cnt : Nat} {A : Option Addr} {xs : List Value} {G : Int → Option Bool} (h : Held w e sz A n cap xs) (hm : MapB w bs G cnt) (hg : w.grownBy w' (some bs)) : Held w' e sz A n cap xs :=
  h.keep fun b' cur hb => hg.block b' (lt_of_blk hb) (fun hmem => by
    injection hmem with hmem
    subst hmem
    obtain ⟨es, c, hh⟩ := MapV.obj hm
    rw [hh] at hb
    cases hb)
theorem upd_seen {o : List Int} {m : Nat} {Gs : Int → Option Bool} (hs : ∀ x, (Gs x).getD false = decide (x = 0 ∨ x ∈ o.take m)) (hm : m < o.length) (x : Int) : (upd Gs o[m] (some true) x).getD false = decide (x = 0 ∨ x ∈ o.take (m + 1)) := by
  have e := List.take_succ_eq_append_getElem hm
  rw [true_upd]
  by_cases h : x = o[m]
  · rw [if_pos h, e]
    exact (decide_eq_true (.inr (List.mem_append.2 (.inr (List.mem_singleton.2 h))))).symm
  · rw [if_neg h, hs, e]
    refine decide_eq_decide.2 ⟨fun h1 => ?_, fun h1 => ?_⟩
    · rcases h1 with h1 | h1
      · exact .inl h1
      · exact .inr (List.mem_append.2 (.inl h1))
    · rcases h1 with h1 | h1
      · exact .inl h1
      · rcases List.mem_append.1 h1 with h2 | h2
        · exact .inr h2
        · exact absurd (List.mem_singleton.1 h2) h
theorem upd_there {l l2 : List Nd} {G : Int → Option Bool} {i : Int} {v : Bool} (hs : ∀ x, (G x).getD false = (getN l x).isSome) (h2 : ∀ x, (getN l2 x).isSome = if x = i then v else (getN l x).isSome) (x : Int) : (upd G i (some v) x).getD false = (getN l2 x).isSome := by
  rw [true_upd, h2, hs]
set_option maxRecDepth 100000 in
set_option maxHeartbeats 16000000 in
theorem walk (w : World) (a0 : Int) (w0 : (Lit.int .u8 a0).wf = true) (v1 : Value) (n : Nat) (C : Nat → List Value) (h1 : RowsAt w v1 n 5 AcOk C) :
    Calls Try.prog 5 #[.int .u8 a0, v1] w fun e w' => e = .returned (.bool true) ∧ Below w.heap.size w w' := by
  obtain ⟨A, cap, rfl, hnc, hcap, hcells⟩ := h1
  have HC := Lib.hid hcells
  clear hcells
  have hmm := @run_makeMap Try.prog
  obtain ⟨b1, b2⟩ := bounds_u8 w0
  clear w0
  obtain ⟨most, hmost⟩ : ∃ most, a0 + 1 = most := ⟨_, rfl⟩
  have hmo : 1 ≤ most ∧ most ≤ 256 := by omega
  go_enter Try.func5, Try.ntmps5
  go_wp2_with fail
  refine (new_any most hmo w).mono ?_
  rintro e w1 ⟨g, b, rfl, hg, hb, k1, b1'⟩
  have H1 := Lib.hid (And.intro k1 b1')
  have HS := Lib.hid (show ∀ i ∈ [b], w.heap.size ≤ i by intro i hi; simp at hi; rw [hi]; exact hb)
  clear k1 b1' hmo hmost b1 b2
  go_wp2_with fail
  refine (awake_any _).mono ?_
  rintro e w2 ⟨rfl, b2'⟩
  have m3 := MapB.made w2
  have t3 := (H1.out.1.below b2').alloc (.map #[] 0)
  have B3 := (H1.out.2.trans (b2'.mono H1.out.2.size)).alloc (Nat.le_trans H1.out.2.size b2'.size) (.map #[] 0)
  have H3 := Lib.hid (And.intro t3 (And.intro m3 B3))
  have hbt : w.heap.size ≤ w2.heap.size := Nat.le_trans H1.out.2.size b2'.size
  have hgb := (H1.out.1.below b2').lt
  clear m3 t3 B3 b2' H1
  go_wp2_with fail
  obtain ⟨bt, hbt0⟩ : ∃ bt, bt = w2.heap.size := ⟨_, rfl⟩
  rw [← hbt0] at H3 hbt hgb ⊢
  clear hbt0
  go_loopw [8] (fun iv wr => ∃ (k : Nat) (l : List Nd) (G : Int → Option Bool) (cnt : Nat), k ≤ 60 ∧ iv = .int .i64 k ∧ Trs wr g b most l ∧ OkT l ∧ MapB wr bt G cnt ∧ cnt ≤ k ∧ (∀ x, (G x).getD false = (getN l x).isSome) ∧ Below w.heap.size w wr) (fun iv _ => 60 - (intOf iv).toNat)
  case atStart => exact ⟨0, [], fun _ => none, 0, by omega, rfl, H3.out.1, ⟨fun _ => 0, List.Pairwise.nil, (fun p hp => by cases hp), (fun p hp => by cases hp), rfl⟩, H3.out.2.1, by omega, (fun x => rfl), H3.out.2.2⟩
  case round =>
    obtain ⟨k, l, G, cnt, hk, rfl, kt, ko, km, hcnt, kg, kb⟩ := hrel
    have HM := Lib.hid (And.intro kt (And.intro ko (And.intro km (And.intro kg kb))))
    clear kt ko km kg kb H3
    have hk0 : (0 : Int) ≤ k := by omega
    by_cases hlt : k < n
    · by_cases hlt2 : k < 60
      · obtain ⟨⟨a, hCa, hin⟩, _, bq, off, rfl, hbl, hc⟩ := HC.out k hlt
        have hk1 : (k : Int) < n := by omega
        have hk2 : (k : Int) < 60 := by omega
        have cc : ∀ j u, (av a)[j]? = some u → wr.cell? ⟨bq, off + k * 5 + j, none⟩ = some u := fun j u hu => (HM.out.2.2.2.2.cell (p := ⟨bq, off + k * 5 + j, none⟩) hbl).trans (hc j u (by rw [hCa]; exact hu))
        obtain ⟨kd, id, ⟨on, wt, ex⟩⟩ := a
        have c0 := cc 0 (.int .i64 kd) rfl
        have c1 := cc 1 (.int .i64 id) rfl
        have c2 := cc 2 (.int .i64 on) rfl
        have c3 := cc 3 (.int .i64 wt) rfl
        have c4 := cc 4 (.bool ex) rfl
        have HIN := Lib.hid hin
        clear cc hc hin hCa
        simp only [Nat.add_zero] at c0
        have z1 := Blk.new wr 42 #[.int .i64 kd, .int .i64 id, .int .i64 on, .int .i64 wt, .bool ex]
        have B1 : Below wr.heap.size wr (wr.alloc (.cells #[.int .i64 kd, .int .i64 id, .int .i64 on, .int .i64 wt, .bool ex] 42)) := (Below.refl _ _).alloc (Nat.le_refl _) _
        have H4 := Lib.hid (And.intro z1 (And.intro (HM.out.1.below B1) (And.intro (HM.out.2.2.1.below B1 HM.out.2.2.1.lt) (HM.out.2.2.2.2.trans (B1.mono HM.out.2.2.2.2.size)))))
        have HX := Lib.hid (And.intro HM.out.2.1 HM.out.2.2.2.1)
        have hwr : w.heap.size ≤ wr.heap.size := HM.out.2.2.2.2.size
        have hwrb := HM.out.1.lt
        clear z1 B1 HM
        go_upto_region 9 with fail
        generalize wr.alloc (.cells #[.int .i64 kd, .int .i64 id, .int .i64 on, .int .i64 wt, .bool ex] 42) = w4 at *
        obtain ⟨bx, hbx⟩ : ∃ bx, bx = wr.heap.size := ⟨_, rfl⟩
        rw [← hbx] at H4 hwr hwrb ⊢
        clear hbx c0 c1 c2 c3 c4
        have d0 := Blk.cell H4.out.1 0
        have d1 := Blk.cell H4.out.1 1
        have d2 := Blk.cell H4.out.1 2
        have d3 := Blk.cell H4.out.1 3
        have d4 := Blk.cell H4.out.1 4
        simp at d0 d1 d2 d3 d4
        have hbtb : bt ∉ [b] := by simp; omega
        by_cases h3 : kd = 3
        · subst h3
          have HC5 := Lib.hid (move_all g b most l w4 H4.out.2.1 id ⟨on, wt, ex⟩ HX.out.1 HIN.out.2.1)
          go_wp2_with fail
          refine HC5.out.mono ?_
          rintro e w5 ⟨rfl, t5⟩
          have H5 := Lib.hid (And.intro t5.1 (And.intro (H4.out.2.2.1.only t5.2 hbtb) (bonly H4.out.2.2.2 t5.2 HS.out)))
          have HY := Lib.hid (And.intro (ok_moveS HX.out.1 id ⟨on, wt, ex⟩) (show ∀ x, (G x).getD false = (getN (moveS l id ⟨on, wt, ex⟩).2 x).isSome from fun x => by rw [HX.out.2, some_move]))
          clear t5 HC5 H4 HX
          generalize (moveS l id ⟨on, wt, ex⟩).1 = er at *
          generalize (moveS l id ⟨on, wt, ex⟩).2 = l2 at *
          have hcnt2 : cnt ≤ k + 1 := by omega
          clear d0 d1 d2 d3 d4
          go_upto_region 18 with fail
          have hcnt2 : cnt ≤ k + 1 := by omega
          go_upto_region 18 with fail
          have H6' : ∃ (w6 : World) (cnt2 : Nat) (G2 : Int → Option Bool), w6 = w5 ∧ cnt2 ≤ k + 1 ∧ (∀ x, (G2 x).getD false = (getN l2 x).isSome) ∧ Trs w6 g b most l2 ∧ MapB w6 bt G2 cnt2 ∧ Below w.heap.size w w6 := ⟨w5, cnt, G, rfl, hcnt2, HY.out.2, H5.out⟩
          obtain ⟨w66, cnt2, G22, e6, hcnt22, hg22, h66⟩ := H6'
          rw [← e6]
          have HYY := Lib.hid (And.intro HY.out.1 hg22)
          have H66 := Lib.hid h66
          clear e6 hg22 h66 HY hcnt2 H5
          as_aux_lemma =>
            obtain ⟨r, hr⟩ := HYY.out.1
            have HR := Lib.hid hr
            have HO := Lib.hid (ord_length hr)
            have HAT := Lib.hid (ord_at hr)
            have hfew := H66.out.1.few
            clear hr
            go_wp2_with fail
            refine (order_any g b most l2 w66 H66.out.1 r HR.out).mono ?_
            rintro e w7 ⟨A7, c7, rfl, h7, b7⟩
            rw [HO.out] at h7 ⊢
            have K7 : Hid (Kp w w7 g b most l2 bt G22 cnt2 A7 c7 (ordL l2 r)) := ⟨H66.out.1.below b7, H66.out.2.1.below b7 H66.out.2.1.lt, h7, H66.out.2.2.trans (b7.mono H66.out.2.2.size)⟩
            have hc7 := h7.2.1
            have hc7' := h7.2.2.1
            clear h7 b7
            have Bs : Below w7.heap.size w7 (w7.alloc (.map #[] 0)) := (Below.refl _ _).alloc (Nat.le_refl _) _
            obtain ⟨w8, hrun, hm8, hg8⟩ := MapB.write (v := true) (MapB.made w7) (x := 0) (by simp only [maxLen]; omega) (by decide)
            have K8 : Hid (Kp w w8 g b most l2 bt G22 cnt2 A7 c7 (ordL l2 r)) := K7.out.below (Bs.grown hg8 (by simp) (fun q hq => by injection hq with hq; omega))
            have HM8 := Lib.hid hm8
            have hbs0 : w.heap.size ≤ w7.heap.size := K7.out.bel.size
            have hbs1 := K7.out.t.lt
            have hbs2 := K7.out.m.lt
            obtain ⟨bs, hbs⟩ : ∃ bs, bs = w7.heap.size := ⟨_, rfl⟩
            rw [← hbs] at HM8 hbs0 hbs1 hbs2
            have HBS := Lib.hid hbs
            have hs8 := hg8.size
            simp at hs8
            rw [← hbs] at hs8
            clear hm8 hg8 Bs hbs K7
            go_upto_region 20 with fail
            rw [← HBS.out]
            clear hrun
            generalize ordL l2 r = ord at *
            go_wp2_with fail
            go_loopw [12] (fun jv wx => ∃ (m : Nat) (Gs : Int → Option Bool) (cs : Nat), m ≤ l2.length ∧ jv = .int .i64 m ∧ MapB wx bs Gs cs ∧ cs ≤ m + 1 ∧ (∀ x, (Gs x).getD false = decide (x = 0 ∨ x ∈ ord.take m)) ∧ Kp w wx g b most l2 bt G22 cnt2 A7 c7 ord) (fun jv _ => l2.length - (intOf jv).toNat)
            case atStart => exact ⟨0, _, _, by omega, rfl, HM8.out, by simp, (fun x => by rw [true_upd]; by_cases h : x = 0 <;> simp [h]), K8.out⟩
            case round =>
              obtain ⟨m, Gs, cs, hm, rfl, hmb, hcs, hgs, hkp⟩ := hrel
              have HM := Lib.hid (And.intro hmb (And.intro hgs hkp))
              clear hmb hgs hkp HM8 K8
              have hm0 : (0 : Int) ≤ m := by omega
              by_cases hml : m < l2.length
              · have hmo : m < ord.length := by rw [HO.out]; exact hml
                obtain ⟨ab, ao, rfl, hal, x0⟩ := HM.out.2.2.h.at_ (j := m) (u := .int .i64 ord[m]) (by simp [nums, hmo])
                have hm1 : (m : Int) < l2.length := by omega
                obtain ⟨hn1, hn2, p, hp, hpo, hd⟩ := HAT.out m hmo
                have hup := upd_seen HM.out.2.1 hmo
                have hpm := getN_mem hp
                have hpn := HM.out.2.2.t.nd p hpm.1
                have hid31 : (Lit.int .i64 ord[m]).wf = true := by
                  rw [← hpm.2]
                  exact wf31 (by have := hpn.1; omega) hpn.1.2
                have hon31 : (Lit.int .i64 p.on).wf = true := wf31 hpn.2.1.1 hpn.2.1.2
                have e1 : (Gs ord[m]).getD false = false := by
                  rw [HM.out.2.1]
                  exact decide_eq_false (fun h => by rcases h with h | h; exact hn2 h; exact hn1 h)
                have e2 : (Gs p.on).getD false = true := by
                  rw [HM.out.2.1]
                  exact decide_eq_true hpo
                have e3 : (G22 ord[m]).getD false = true := by
                  rw [HYY.out.2, hp]
                  rfl
                have l1 := HM.out.1.look hid31
                rw [e1] at l1
                have hwt1 := hpn.2.2.1
                have hwt2 := hpn.2.2.2
                have hdle := Nat.le_trans (dp_le HR.out ord[m]) hfew
                rw [hd] at hdle
                have HQ := Lib.hid (And.intro hp (And.intro hid31 (And.intro hon31 (And.intro e2 (And.intro e3 (And.intro hd hup))))))
                clear hn1 hn2 hp hpo hd hpm hpn hid31 hon31 e1 e2 e3 hup
                generalize ord[m] = q at *
                obtain ⟨D, hD⟩ : ∃ D, D = dp l2 r p.on := ⟨_, rfl⟩
                rw [← hD] at hdle
                have HD := Lib.hid hD
                clear hD
                have hcast : ((D + 1 : Nat) : Int) = 1 + (D : Int) := by omega
                have HCA := Lib.hid hcast
                clear hcast
                go_wp2_with fail
                refine (parent_any g b most l2 wr HM.out.2.2.t q HQ.out.2.1).mono ?_
                rintro e x1 ⟨rfl, bx1⟩
                rw [HQ.out.1]
                simp only [Option.getD_some]
                have K1 := Lib.hid (HM.out.2.2.below bx1)
                have M1 := Lib.hid (HM.out.1.below bx1 HM.out.1.lt)
                have l2' := M1.out.look HQ.out.2.2.1
                rw [HQ.out.2.2.2.1] at l2'
                have l3 := K1.out.m.look HQ.out.2.1
                rw [HQ.out.2.2.2.2.1] at l3
                clear bx1 l1
                go_wp2_with fail
                refine (weight_any g b most l2 x1 K1.out.t q HQ.out.2.1).mono ?_
                rintro e x2 ⟨rfl, bx2⟩
                rw [HQ.out.1]
                simp only [Option.getD_some]
                have K2 := Lib.hid (K1.out.below bx2)
                have M2 := Lib.hid (M1.out.below bx2 M1.out.lt)
                clear bx2 K1 M1 l2' l3
                go_wp2_with fail
                refine (weight_any g b most l2 x2 K2.out.t q HQ.out.2.1).mono ?_
                rintro e x3 ⟨rfl, bx3⟩
                rw [HQ.out.1]
                simp only [Option.getD_some]
                have K3 := Lib.hid (K2.out.below bx3)
                have M3 := Lib.hid (M2.out.below bx3 M2.out.lt)
                clear bx3 K2 M2
                go_wp2_with fail
                refine (depth_any g b most l2 x3 K3.out.t r HR.out q HQ.out.2.1).mono ?_
                rintro e x4 ⟨rfl, bx4⟩
                rw [HQ.out.2.2.2.2.2.1, ← HD.out, HCA.out]
                have K4 := Lib.hid (K3.out.below bx4)
                have M4 := Lib.hid (M3.out.below bx4 M3.out.lt)
                clear bx4 K3 M3
                go_wp2_with fail
                refine (parent_any g b most l2 x4 K4.out.t q HQ.out.2.1).mono ?_
                rintro e x5 ⟨rfl, bx5⟩
                rw [HQ.out.1]
                simp only [Option.getD_some]
                have K5 := Lib.hid (K4.out.below bx5)
                have M5 := Lib.hid (M4.out.below bx5 M4.out.lt)
                clear bx5 K4 M4
                go_wp2_with fail
                refine (depth_any g b most l2 x5 K5.out.t r HR.out p.on HQ.out.2.2.1).mono ?_
                rintro e x6 ⟨rfl, bx6⟩
                rw [← HD.out]
                have K6 := Lib.hid (K5.out.below bx6)
                have M6 := Lib.hid (M5.out.below bx6 M5.out.lt)
                have hsx : w7.heap.size ≤ x6.heap.size := by have := M6.out.lt; rw [← HBS.out]; omega
                clear bx6 K5 M5
                obtain ⟨x7, hrun, hm7, hg7⟩ := MapB.write (v := true) M6.out (x := q) (by simp only [maxLen]; omega) HQ.out.2.1
                have K7 : Hid (Kp w x7 g b most l2 bt G22 cnt2 (some ⟨ab, ao, none⟩) c7 ord) := ⟨K6.out.t.same (hg7.block g K6.out.t.lt.1 (by simp; omega)) (hg7.block b K6.out.t.lt.2 (by simp; omega)), K6.out.m.same (hg7.block bt K6.out.m.lt (by simp; omega)), held_seen K6.out.h M6.out hg7, K6.out.bel.grown hg7 K6.out.bel.size (fun z hz => by injection hz with hz; omega)⟩
                have HM7 := Lib.hid hm7
                have hcs2 : (if (Gs q).isSome then cs else cs + 1) ≤ m + 1 + 1 := by split <;> omega
                clear hm7 hg7 K6 M6
                go_wp2_with fail
                go_roundw
                case rel => exact ⟨m + 1, _, _, by omega, by go_num, HM7.out, hcs2, HQ.out.2.2.2.2.2.2, K7.out⟩
                case measure => simp [intOf]; omega
              · obtain rfl : l2.length = m := by omega
                go_wp2_with fail
                refine (len_any g b most l2 wr HM.out.2.2.t).mono ?_
                rintro e x1 ⟨rfl, rfl⟩
                go_wp2_with fail
                go_roundw
                case rel => exact ⟨k + 1, l2, G22, cnt2, by omega, by go_num, HM.out.2.2.t, HYY.out.1, HM.out.2.2.m, hcnt22, HYY.out.2, HM.out.2.2.bel⟩
                case measure => simp [intOf]; omega
        · by_cases h4 : kd = 4
          · subst h4
            have HC5 := Lib.hid (move_all g b most l w4 H4.out.2.1 id ⟨on, wt, ex⟩ HX.out.1 HIN.out.2.1)
            go_wp2_with fail
            refine HC5.out.mono ?_
            rintro e w5 ⟨rfl, t5⟩
            have H5 := Lib.hid (And.intro t5.1 (And.intro (H4.out.2.2.1.only t5.2 hbtb) (bonly H4.out.2.2.2 t5.2 HS.out)))
            have HY := Lib.hid (And.intro (ok_moveS HX.out.1 id ⟨on, wt, ex⟩) (show ∀ x, (G x).getD false = (getN (moveS l id ⟨on, wt, ex⟩).2 x).isSome from fun x => by rw [HX.out.2, some_move]))
            clear t5 HC5 H4 HX
            generalize (moveS l id ⟨on, wt, ex⟩).1 = er at *
            generalize (moveS l id ⟨on, wt, ex⟩).2 = l2 at *
            have hcnt2 : cnt ≤ k + 1 := by omega
            clear d0 d1 d2 d3 d4
            go_upto_region 18 with fail
            have hcnt2 : cnt ≤ k + 1 := by omega
            go_upto_region 18 with fail
            have H6' : ∃ (w6 : World) (cnt2 : Nat) (G2 : Int → Option Bool), w6 = w5 ∧ cnt2 ≤ k + 1 ∧ (∀ x, (G2 x).getD false = (getN l2 x).isSome) ∧ Trs w6 g b most l2 ∧ MapB w6 bt G2 cnt2 ∧ Below w.heap.size w w6 := ⟨w5, cnt, G, rfl, hcnt2, HY.out.2, H5.out⟩
            obtain ⟨w66, cnt2, G22, e6, hcnt22, hg22, h66⟩ := H6'
            rw [← e6]
            have HYY := Lib.hid (And.intro HY.out.1 hg22)
            have H66 := Lib.hid h66
            clear e6 hg22 h66 HY hcnt2 H5
            as_aux_lemma =>
              obtain ⟨r, hr⟩ := HYY.out.1
              have HR := Lib.hid hr
              have HO := Lib.hid (ord_length hr)
              have HAT := Lib.hid (ord_at hr)
              have hfew := H66.out.1.few
              clear hr
              go_wp2_with fail
              refine (order_any g b most l2 w66 H66.out.1 r HR.out).mono ?_
              rintro e w7 ⟨A7, c7, rfl, h7, b7⟩
              rw [HO.out] at h7 ⊢
              have K7 : Hid (Kp w w7 g b most l2 bt G22 cnt2 A7 c7 (ordL l2 r)) := ⟨H66.out.1.below b7, H66.out.2.1.below b7 H66.out.2.1.lt, h7, H66.out.2.2.trans (b7.mono H66.out.2.2.size)⟩
              have hc7 := h7.2.1
              have hc7' := h7.2.2.1
              clear h7 b7
              have Bs : Below w7.heap.size w7 (w7.alloc (.map #[] 0)) := (Below.refl _ _).alloc (Nat.le_refl _) _
              obtain ⟨w8, hrun, hm8, hg8⟩ := MapB.write (v := true) (MapB.made w7) (x := 0) (by simp only [maxLen]; omega) (by decide)
              have K8 : Hid (Kp w w8 g b most l2 bt G22 cnt2 A7 c7 (ordL l2 r)) := K7.out.below (Bs.grown hg8 (by simp) (fun q hq => by injection hq with hq; omega))
              have HM8 := Lib.hid hm8
              have hbs0 : w.heap.size ≤ w7.heap.size := K7.out.bel.size
              have hbs1 := K7.out.t.lt
              have hbs2 := K7.out.m.lt
              obtain ⟨bs, hbs⟩ : ∃ bs, bs = w7.heap.size := ⟨_, rfl⟩
              rw [← hbs] at HM8 hbs0 hbs1 hbs2
              have HBS := Lib.hid hbs
              have hs8 := hg8.size
              simp at hs8
              rw [← hbs] at hs8
              clear hm8 hg8 Bs hbs K7
              go_upto_region 20 with fail
              rw [← HBS.out]
              clear hrun
              generalize ordL l2 r = ord at *
              go_wp2_with fail
              go_loopw [12] (fun jv wx => ∃ (m : Nat) (Gs : Int → Option Bool) (cs : Nat), m ≤ l2.length ∧ jv = .int .i64 m ∧ MapB wx bs Gs cs ∧ cs ≤ m + 1 ∧ (∀ x, (Gs x).getD false = decide (x = 0 ∨ x ∈ ord.take m)) ∧ Kp w wx g b most l2 bt G22 cnt2 A7 c7 ord) (fun jv _ => l2.length - (intOf jv).toNat)
              case atStart => exact ⟨0, _, _, by omega, rfl, HM8.out, by simp, (fun x => by rw [true_upd]; by_cases h : x = 0 <;> simp [h]), K8.out⟩
              case round =>
                obtain ⟨m, Gs, cs, hm, rfl, hmb, hcs, hgs, hkp⟩ := hrel
                have HM := Lib.hid (And.intro hmb (And.intro hgs hkp))
                clear hmb hgs hkp HM8 K8
                have hm0 : (0 : Int) ≤ m := by omega
                by_cases hml : m < l2.length
                · have hmo : m < ord.length := by rw [HO.out]; exact hml
                  obtain ⟨ab, ao, rfl, hal, x0⟩ := HM.out.2.2.h.at_ (j := m) (u := .int .i64 ord[m]) (by simp [nums, hmo])
                  have hm1 : (m : Int) < l2.length := by omega
                  obtain ⟨hn1, hn2, p, hp, hpo, hd⟩ := HAT.out m hmo
                  have hup := upd_seen HM.out.2.1 hmo
                  have hpm := getN_mem hp
                  have hpn := HM.out.2.2.t.nd p hpm.1
                  have hid31 : (Lit.int .i64 ord[m]).wf = true := by
                    rw [← hpm.2]
                    exact wf31 (by have := hpn.1; omega) hpn.1.2
                  have hon31 : (Lit.int .i64 p.on).wf = true := wf31 hpn.2.1.1 hpn.2.1.2
                  have e1 : (Gs ord[m]).getD false = false := by
                    rw [HM.out.2.1]
                    exact decide_eq_false (fun h => by rcases h with h | h; exact hn2 h; exact hn1 h)
                  have e2 : (Gs p.on).getD false = true := by
                    rw [HM.out.2.1]
                    exact decide_eq_true hpo
                  have e3 : (G22 ord[m]).getD false = true := by
                    rw [HYY.out.2, hp]
                    rfl
                  have l1 := HM.out.1.look hid31
                  rw [e1] at l1
                  have hwt1 := hpn.2.2.1
                  have hwt2 := hpn.2.2.2
                  have hdle := Nat.le_trans (dp_le HR.out ord[m]) hfew
                  rw [hd] at hdle
                  have HQ := Lib.hid (And.intro hp (And.intro hid31 (And.intro hon31 (And.intro e2 (And.intro e3 (And.intro hd hup))))))
                  clear hn1 hn2 hp hpo hd hpm hpn hid31 hon31 e1 e2 e3 hup
                  generalize ord[m] = q at *
                  obtain ⟨D, hD⟩ : ∃ D, D = dp l2 r p.on := ⟨_, rfl⟩
                  rw [← hD] at hdle
                  have HD := Lib.hid hD
                  clear hD
                  have hcast : ((D + 1 : Nat) : Int) = 1 + (D : Int) := by omega
                  have HCA := Lib.hid hcast
                  clear hcast
                  go_wp2_with fail
                  refine (parent_any g b most l2 wr HM.out.2.2.t q HQ.out.2.1).mono ?_
                  rintro e x1 ⟨rfl, bx1⟩
                  rw [HQ.out.1]
                  simp only [Option.getD_some]
                  have K1 := Lib.hid (HM.out.2.2.below bx1)
                  have M1 := Lib.hid (HM.out.1.below bx1 HM.out.1.lt)
                  have l2' := M1.out.look HQ.out.2.2.1
                  rw [HQ.out.2.2.2.1] at l2'
                  have l3 := K1.out.m.look HQ.out.2.1
                  rw [HQ.out.2.2.2.2.1] at l3
                  clear bx1 l1
                  go_wp2_with fail
                  refine (weight_any g b most l2 x1 K1.out.t q HQ.out.2.1).mono ?_
                  rintro e x2 ⟨rfl, bx2⟩
                  rw [HQ.out.1]
                  simp only [Option.getD_some]
                  have K2 := Lib.hid (K1.out.below bx2)
                  have M2 := Lib.hid (M1.out.below bx2 M1.out.lt)
                  clear bx2 K1 M1 l2' l3
                  go_wp2_with fail
                  refine (weight_any g b most l2 x2 K2.out.t q HQ.out.2.1).mono ?_
                  rintro e x3 ⟨rfl, bx3⟩
                  rw [HQ.out.1]
                  simp only [Option.getD_some]
                  have K3 := Lib.hid (K2.out.below bx3)
                  have M3 := Lib.hid (M2.out.below bx3 M2.out.lt)
                  clear bx3 K2 M2
                  go_wp2_with fail
                  refine (depth_any g b most l2 x3 K3.out.t r HR.out q HQ.out.2.1).mono ?_
                  rintro e x4 ⟨rfl, bx4⟩
                  rw [HQ.out.2.2.2.2.2.1, ← HD.out, HCA.out]
                  have K4 := Lib.hid (K3.out.below bx4)
                  have M4 := Lib.hid (M3.out.below bx4 M3.out.lt)
                  clear bx4 K3 M3
                  go_wp2_with fail
                  refine (parent_any g b most l2 x4 K4.out.t q HQ.out.2.1).mono ?_
                  rintro e x5 ⟨rfl, bx5⟩
                  rw [HQ.out.1]
                  simp only [Option.getD_some]
                  have K5 := Lib.hid (K4.out.below bx5)
                  have M5 := Lib.hid (M4.out.below bx5 M4.out.lt)
                  clear bx5 K4 M4
                  go_wp2_with fail
                  refine (depth_any g b most l2 x5 K5.out.t r HR.out p.on HQ.out.2.2.1).mono ?_
                  rintro e x6 ⟨rfl, bx6⟩
                  rw [← HD.out]
                  have K6 := Lib.hid (K5.out.below bx6)
                  have M6 := Lib.hid (M5.out.below bx6 M5.out.lt)
                  have hsx : w7.heap.size ≤ x6.heap.size := by have := M6.out.lt; rw [← HBS.out]; omega
                  clear bx6 K5 M5
                  obtain ⟨x7, hrun, hm7, hg7⟩ := MapB.write (v := true) M6.out (x := q) (by simp only [maxLen]; omega) HQ.out.2.1
                  have K7 : Hid (Kp w x7 g b most l2 bt G22 cnt2 (some ⟨ab, ao, none⟩) c7 ord) := ⟨K6.out.t.same (hg7.block g K6.out.t.lt.1 (by simp; omega)) (hg7.block b K6.out.t.lt.2 (by simp; omega)), K6.out.m.same (hg7.block bt K6.out.m.lt (by simp; omega)), held_seen K6.out.h M6.out hg7, K6.out.bel.grown hg7 K6.out.bel.size (fun z hz => by injection hz with hz; omega)⟩
                  have HM7 := Lib.hid hm7
                  have hcs2 : (if (Gs q).isSome then cs else cs + 1) ≤ m + 1 + 1 := by split <;> omega
                  clear hm7 hg7 K6 M6
                  go_wp2_with fail
                  go_roundw
                  case rel => exact ⟨m + 1, _, _, by omega, by go_num, HM7.out, hcs2, HQ.out.2.2.2.2.2.2, K7.out⟩
                  case measure => simp [intOf]; omega
                · obtain rfl : l2.length = m := by omega
                  go_wp2_with fail
                  refine (len_any g b most l2 wr HM.out.2.2.t).mono ?_
                  rintro e x1 ⟨rfl, rfl⟩
                  go_wp2_with fail
                  go_roundw
                  case rel => exact ⟨k + 1, l2, G22, cnt2, by omega, by go_num, HM.out.2.2.t, HYY.out.1, HM.out.2.2.m, hcnt22, HYY.out.2, HM.out.2.2.bel⟩
                  case measure => simp [intOf]; omega
          · have h3b : (kd == 3) = false := by simp [h3]
            have h4b : (kd == 4) = false := by simp [h4]
            by_cases h5 : kd = 5
            · subst h5
              clear h3 h4
              have HC5 := Lib.hid (remove_all g b most l w4 H4.out.2.1 id HIN.out.2.1)
              go_wp2_with fail
              refine HC5.out.mono ?_
              rintro e w5 ⟨rfl, t5⟩
              have z5 := H4.out.1.only t5.2 (by simp; omega)
              have d1' := Blk.cell z5 1
              simp at d1'
              have H5 := Lib.hid (And.intro t5.1 (And.intro (H4.out.2.2.1.only t5.2 hbtb) (bonly H4.out.2.2.2 t5.2 HS.out)))
              have HY := Lib.hid (And.intro (ok_removeS HX.out.1 id) (And.intro HX.out.2 (fun x => some_remove l id x)))
              clear t5 HC5 H4 HX z5 d0 d1 d2 d3 d4
              generalize (removeS l id).1 = er at *
              generalize (removeS l id).2 = l2 at *
              by_cases he : er = 0
              · subst he
                have HY2 : Hid (OkT l2 ∧ ∀ x, (upd G id (some false) x).getD false = (getN l2 x).isSome) := ⟨HY.out.1, upd_there HY.out.2.1 (fun x => by rw [HY.out.2.2]; by_cases h : x = id <;> simp [h])⟩
                clear HY
                have HY := HY2
                clear HY2
                obtain ⟨w6, hrun, hm6, hg6⟩ := MapB.write (v := false) H5.out.2.1 (x := id) (by simp only [maxLen]; omega) HIN.out.2.1
                have hgl := H5.out.1.lt
                have H6 : Hid (Trs w6 g b most l2 ∧ MapB w6 bt (upd G id (some false)) (if (G id).isSome then cnt else cnt + 1) ∧ Below w.heap.size w w6) := ⟨H5.out.1.same (hg6.block g hgl.1 (by simp; omega)) (hg6.block b hgl.2 (by simp; omega)), hm6, H5.out.2.2.grown hg6 H5.out.2.2.size (fun q hq => by injection hq with hq; omega)⟩
                have hcnt2 : (if (G id).isSome then cnt else cnt + 1) ≤ k + 1 := by split <;> omega
                have HRUN := Lib.hid hrun
                clear hm6 hg6 hgl H5 hrun
                have hrun := HRUN.out
                go_upto_region 18 with fail
                clear hrun
                have H6' : ∃ (w7 : World) (cnt2 : Nat) (G2 : Int → Option Bool), w7 = w6 ∧ cnt2 ≤ k + 1 ∧ (∀ x, (G2 x).getD false = (getN l2 x).isSome) ∧ Trs w7 g b most l2 ∧ MapB w7 bt G2 cnt2 ∧ Below w.heap.size w w7 := ⟨w6, _, _, rfl, hcnt2, HY.out.2, H6.out⟩
                obtain ⟨w66, cnt2, G22, e6, hcnt22, hg22, h66⟩ := H6'
                rw [← e6]
                have HYY := Lib.hid (And.intro HY.out.1 hg22)
                have H66 := Lib.hid h66
                clear e6 hg22 h66 HY hcnt2 H6 HRUN
                as_aux_lemma =>
                  obtain ⟨r, hr⟩ := HYY.out.1
                  have HR := Lib.hid hr
                  have HO := Lib.hid (ord_length hr)
                  have HAT := Lib.hid (ord_at hr)
                  have hfew := H66.out.1.few
                  clear hr
                  go_wp2_with fail
                  refine (order_any g b most l2 w66 H66.out.1 r HR.out).mono ?_
                  rintro e w7 ⟨A7, c7, rfl, h7, b7⟩
                  rw [HO.out] at h7 ⊢
                  have K7 : Hid (Kp w w7 g b most l2 bt G22 cnt2 A7 c7 (ordL l2 r)) := ⟨H66.out.1.below b7, H66.out.2.1.below b7 H66.out.2.1.lt, h7, H66.out.2.2.trans (b7.mono H66.out.2.2.size)⟩
                  have hc7 := h7.2.1
                  have hc7' := h7.2.2.1
                  clear h7 b7
                  have Bs : Below w7.heap.size w7 (w7.alloc (.map #[] 0)) := (Below.refl _ _).alloc (Nat.le_refl _) _
                  obtain ⟨w8, hrun, hm8, hg8⟩ := MapB.write (v := true) (MapB.made w7) (x := 0) (by simp only [maxLen]; omega) (by decide)
                  have K8 : Hid (Kp w w8 g b most l2 bt G22 cnt2 A7 c7 (ordL l2 r)) := K7.out.below (Bs.grown hg8 (by simp) (fun q hq => by injection hq with hq; omega))
                  have HM8 := Lib.hid hm8
                  have hbs0 : w.heap.size ≤ w7.heap.size := K7.out.bel.size
                  have hbs1 := K7.out.t.lt
                  have hbs2 := K7.out.m.lt
                  obtain ⟨bs, hbs⟩ : ∃ bs, bs = w7.heap.size := ⟨_, rfl⟩
                  rw [← hbs] at HM8 hbs0 hbs1 hbs2
                  have HBS := Lib.hid hbs
                  have hs8 := hg8.size
                  simp at hs8
                  rw [← hbs] at hs8
                  clear hm8 hg8 Bs hbs K7
                  go_upto_region 20 with fail
                  rw [← HBS.out]
                  clear hrun
                  generalize ordL l2 r = ord at *
                  go_wp2_with fail
                  go_loopw [12] (fun jv wx => ∃ (m : Nat) (Gs : Int → Option Bool) (cs : Nat), m ≤ l2.length ∧ jv = .int .i64 m ∧ MapB wx bs Gs cs ∧ cs ≤ m + 1 ∧ (∀ x, (Gs x).getD false = decide (x = 0 ∨ x ∈ ord.take m)) ∧ Kp w wx g b most l2 bt G22 cnt2 A7 c7 ord) (fun jv _ => l2.length - (intOf jv).toNat)
                  case atStart => exact ⟨0, _, _, by omega, rfl, HM8.out, by simp, (fun x => by rw [true_upd]; by_cases h : x = 0 <;> simp [h]), K8.out⟩
                  case round =>
                    obtain ⟨m, Gs, cs, hm, rfl, hmb, hcs, hgs, hkp⟩ := hrel
                    have HM := Lib.hid (And.intro hmb (And.intro hgs hkp))
                    clear hmb hgs hkp HM8 K8
                    have hm0 : (0 : Int) ≤ m := by omega
                    by_cases hml : m < l2.length
                    · have hmo : m < ord.length := by rw [HO.out]; exact hml
                      obtain ⟨ab, ao, rfl, hal, x0⟩ := HM.out.2.2.h.at_ (j := m) (u := .int .i64 ord[m]) (by simp [nums, hmo])
                      have hm1 : (m : Int) < l2.length := by omega
                      obtain ⟨hn1, hn2, p, hp, hpo, hd⟩ := HAT.out m hmo
                      have hup := upd_seen HM.out.2.1 hmo
                      have hpm := getN_mem hp
                      have hpn := HM.out.2.2.t.nd p hpm.1
                      have hid31 : (Lit.int .i64 ord[m]).wf = true := by
                        rw [← hpm.2]
                        exact wf31 (by have := hpn.1; omega) hpn.1.2
                      have hon31 : (Lit.int .i64 p.on).wf = true := wf31 hpn.2.1.1 hpn.2.1.2
                      have e1 : (Gs ord[m]).getD false = false := by
                        rw [HM.out.2.1]
                        exact decide_eq_false (fun h => by rcases h with h | h; exact hn2 h; exact hn1 h)
                      have e2 : (Gs p.on).getD false = true := by
                        rw [HM.out.2.1]
                        exact decide_eq_true hpo
                      have e3 : (G22 ord[m]).getD false = true := by
                        rw [HYY.out.2, hp]
                        rfl
                      have l1 := HM.out.1.look hid31
                      rw [e1] at l1
                      have hwt1 := hpn.2.2.1
                      have hwt2 := hpn.2.2.2
                      have hdle := Nat.le_trans (dp_le HR.out ord[m]) hfew
                      rw [hd] at hdle
                      have HQ := Lib.hid (And.intro hp (And.intro hid31 (And.intro hon31 (And.intro e2 (And.intro e3 (And.intro hd hup))))))
                      clear hn1 hn2 hp hpo hd hpm hpn hid31 hon31 e1 e2 e3 hup
                      generalize ord[m] = q at *
                      obtain ⟨D, hD⟩ : ∃ D, D = dp l2 r p.on := ⟨_, rfl⟩
                      rw [← hD] at hdle
                      have HD := Lib.hid hD
                      clear hD
                      have hcast : ((D + 1 : Nat) : Int) = 1 + (D : Int) := by omega
                      have HCA := Lib.hid hcast
                      clear hcast
                      go_wp2_with fail
                      refine (parent_any g b most l2 wr HM.out.2.2.t q HQ.out.2.1).mono ?_
                      rintro e x1 ⟨rfl, bx1⟩
                      rw [HQ.out.1]
                      simp only [Option.getD_some]
                      have K1 := Lib.hid (HM.out.2.2.below bx1)
                      have M1 := Lib.hid (HM.out.1.below bx1 HM.out.1.lt)
                      have l2' := M1.out.look HQ.out.2.2.1
                      rw [HQ.out.2.2.2.1] at l2'
                      have l3 := K1.out.m.look HQ.out.2.1
                      rw [HQ.out.2.2.2.2.1] at l3
                      clear bx1 l1
                      go_wp2_with fail
                      refine (weight_any g b most l2 x1 K1.out.t q HQ.out.2.1).mono ?_
                      rintro e x2 ⟨rfl, bx2⟩
                      rw [HQ.out.1]
                      simp only [Option.getD_some]
                      have K2 := Lib.hid (K1.out.below bx2)
                      have M2 := Lib.hid (M1.out.below bx2 M1.out.lt)
                      clear bx2 K1 M1 l2' l3
                      go_wp2_with fail
                      refine (weight_any g b most l2 x2 K2.out.t q HQ.out.2.1).mono ?_
                      rintro e x3 ⟨rfl, bx3⟩
                      rw [HQ.out.1]
                      simp only [Option.getD_some]
                      have K3 := Lib.hid (K2.out.below bx3)
                      have M3 := Lib.hid (M2.out.below bx3 M2.out.lt)
                      clear bx3 K2 M2
                      go_wp2_with fail
                      refine (depth_any g b most l2 x3 K3.out.t r HR.out q HQ.out.2.1).mono ?_
                      rintro e x4 ⟨rfl, bx4⟩
                      rw [HQ.out.2.2.2.2.2.1, ← HD.out, HCA.out]
                      have K4 := Lib.hid (K3.out.below bx4)
                      have M4 := Lib.hid (M3.out.below bx4 M3.out.lt)
                      clear bx4 K3 M3
                      go_wp2_with fail
                      refine (parent_any g b most l2 x4 K4.out.t q HQ.out.2.1).mono ?_
                      rintro e x5 ⟨rfl, bx5⟩
                      rw [HQ.out.1]
                      simp only [Option.getD_some]
                      have K5 := Lib.hid (K4.out.below bx5)
                      have M5 := Lib.hid (M4.out.below bx5 M4.out.lt)
                      clear bx5 K4 M4
                      go_wp2_with fail
                      refine (depth_any g b most l2 x5 K5.out.t r HR.out p.on HQ.out.2.2.1).mono ?_
                      rintro e x6 ⟨rfl, bx6⟩
                      rw [← HD.out]
                      have K6 := Lib.hid (K5.out.below bx6)
                      have M6 := Lib.hid (M5.out.below bx6 M5.out.lt)
                      have hsx : w7.heap.size ≤ x6.heap.size := by have := M6.out.lt; rw [← HBS.out]; omega
                      clear bx6 K5 M5
                      obtain ⟨x7, hrun, hm7, hg7⟩ := MapB.write (v := true) M6.out (x := q) (by simp only [maxLen]; omega) HQ.out.2.1
                      have K7 : Hid (Kp w x7 g b most l2 bt G22 cnt2 (some ⟨ab, ao, none⟩) c7 ord) := ⟨K6.out.t.same (hg7.block g K6.out.t.lt.1 (by simp; omega)) (hg7.block b K6.out.t.lt.2 (by simp; omega)), K6.out.m.same (hg7.block bt K6.out.m.lt (by simp; omega)), held_seen K6.out.h M6.out hg7, K6.out.bel.grown hg7 K6.out.bel.size (fun z hz => by injection hz with hz; omega)⟩
                      have HM7 := Lib.hid hm7
                      have hcs2 : (if (Gs q).isSome then cs else cs + 1) ≤ m + 1 + 1 := by split <;> omega
                      clear hm7 hg7 K6 M6
                      go_wp2_with fail
                      go_roundw
                      case rel => exact ⟨m + 1, _, _, by omega, by go_num, HM7.out, hcs2, HQ.out.2.2.2.2.2.2, K7.out⟩
                      case measure => simp [intOf]; omega
                    · obtain rfl : l2.length = m := by omega
                      go_wp2_with fail
                      refine (len_any g b most l2 wr HM.out.2.2.t).mono ?_
                      rintro e x1 ⟨rfl, rfl⟩
                      go_wp2_with fail
                      go_roundw
                      case rel => exact ⟨k + 1, l2, G22, cnt2, by omega, by go_num, HM.out.2.2.t, HYY.out.1, HM.out.2.2.m, hcnt22, HYY.out.2, HM.out.2.2.bel⟩
                      case measure => simp [intOf]; omega
              · have heb : (er == 0) = false := by simp [he]
                have HY2 : Hid (OkT l2 ∧ ∀ x, (G x).getD false = (getN l2 x).isSome) := ⟨HY.out.1, fun x => by rw [HY.out.2.2, HY.out.2.1, heb]; rfl⟩
                clear HY he
                have HY := HY2
                clear HY2
                have hcnt2 : cnt ≤ k + 1 := by omega
                go_upto_region 18 with fail
                have H6' : ∃ (w6 : World) (cnt2 : Nat) (G2 : Int → Option Bool), w6 = w5 ∧ cnt2 ≤ k + 1 ∧ (∀ x, (G2 x).getD false = (getN l2 x).isSome) ∧ Trs w6 g b most l2 ∧ MapB w6 bt G2 cnt2 ∧ Below w.heap.size w w6 := ⟨w5, cnt, G, rfl, hcnt2, HY.out.2, H5.out⟩
                obtain ⟨w66, cnt2, G22, e6, hcnt22, hg22, h66⟩ := H6'
                rw [← e6]
                have HYY := Lib.hid (And.intro HY.out.1 hg22)
                have H66 := Lib.hid h66
                clear e6 hg22 h66 HY hcnt2 H5
                as_aux_lemma =>
                  obtain ⟨r, hr⟩ := HYY.out.1
                  have HR := Lib.hid hr
                  have HO := Lib.hid (ord_length hr)
                  have HAT := Lib.hid (ord_at hr)
                  have hfew := H66.out.1.few
                  clear hr
                  go_wp2_with fail
                  refine (order_any g b most l2 w66 H66.out.1 r HR.out).mono ?_
                  rintro e w7 ⟨A7, c7, rfl, h7, b7⟩
                  rw [HO.out] at h7 ⊢
                  have K7 : Hid (Kp w w7 g b most l2 bt G22 cnt2 A7 c7 (ordL l2 r)) := ⟨H66.out.1.below b7, H66.out.2.1.below b7 H66.out.2.1.lt, h7, H66.out.2.2.trans (b7.mono H66.out.2.2.size)⟩
                  have hc7 := h7.2.1
                  have hc7' := h7.2.2.1
                  clear h7 b7
                  have Bs : Below w7.heap.size w7 (w7.alloc (.map #[] 0)) := (Below.refl _ _).alloc (Nat.le_refl _) _
                  obtain ⟨w8, hrun, hm8, hg8⟩ := MapB.write (v := true) (MapB.made w7) (x := 0) (by simp only [maxLen]; omega) (by decide)
                  have K8 : Hid (Kp w w8 g b most l2 bt G22 cnt2 A7 c7 (ordL l2 r)) := K7.out.below (Bs.grown hg8 (by simp) (fun q hq => by injection hq with hq; omega))
                  have HM8 := Lib.hid hm8
                  have hbs0 : w.heap.size ≤ w7.heap.size := K7.out.bel.size
                  have hbs1 := K7.out.t.lt
                  have hbs2 := K7.out.m.lt
                  obtain ⟨bs, hbs⟩ : ∃ bs, bs = w7.heap.size := ⟨_, rfl⟩
                  rw [← hbs] at HM8 hbs0 hbs1 hbs2
                  have HBS := Lib.hid hbs
                  have hs8 := hg8.size
                  simp at hs8
                  rw [← hbs] at hs8
                  clear hm8 hg8 Bs hbs K7
                  go_upto_region 20 with fail
                  rw [← HBS.out]
                  clear hrun
                  generalize ordL l2 r = ord at *
                  go_wp2_with fail
                  go_loopw [12] (fun jv wx => ∃ (m : Nat) (Gs : Int → Option Bool) (cs : Nat), m ≤ l2.length ∧ jv = .int .i64 m ∧ MapB wx bs Gs cs ∧ cs ≤ m + 1 ∧ (∀ x, (Gs x).getD false = decide (x = 0 ∨ x ∈ ord.take m)) ∧ Kp w wx g b most l2 bt G22 cnt2 A7 c7 ord) (fun jv _ => l2.length - (intOf jv).toNat)
                  case atStart => exact ⟨0, _, _, by omega, rfl, HM8.out, by simp, (fun x => by rw [true_upd]; by_cases h : x = 0 <;> simp [h]), K8.out⟩
                  case round =>
                    obtain ⟨m, Gs, cs, hm, rfl, hmb, hcs, hgs, hkp⟩ := hrel
                    have HM := Lib.hid (And.intro hmb (And.intro hgs hkp))
                    clear hmb hgs hkp HM8 K8
                    have hm0 : (0 : Int) ≤ m := by omega
                    by_cases hml : m < l2.length
                    · have hmo : m < ord.length := by rw [HO.out]; exact hml
                      obtain ⟨ab, ao, rfl, hal, x0⟩ := HM.out.2.2.h.at_ (j := m) (u := .int .i64 ord[m]) (by simp [nums, hmo])
                      have hm1 : (m : Int) < l2.length := by omega
                      obtain ⟨hn1, hn2, p, hp, hpo, hd⟩ := HAT.out m hmo
                      have hup := upd_seen HM.out.2.1 hmo
                      have hpm := getN_mem hp
                      have hpn := HM.out.2.2.t.nd p hpm.1
                      have hid31 : (Lit.int .i64 ord[m]).wf = true := by
                        rw [← hpm.2]
                        exact wf31 (by have := hpn.1; omega) hpn.1.2
                      have hon31 : (Lit.int .i64 p.on).wf = true := wf31 hpn.2.1.1 hpn.2.1.2
                      have e1 : (Gs ord[m]).getD false = false := by
                        rw [HM.out.2.1]
                        exact decide_eq_false (fun h => by rcases h with h | h; exact hn2 h; exact hn1 h)
                      have e2 : (Gs p.on).getD false = true := by
                        rw [HM.out.2.1]
                        exact decide_eq_true hpo
                      have e3 : (G22 ord[m]).getD false = true := by
                        rw [HYY.out.2, hp]
                        rfl
                      have l1 := HM.out.1.look hid31
                      rw [e1] at l1
                      have hwt1 := hpn.2.2.1
                      have hwt2 := hpn.2.2.2
                      have hdle := Nat.le_trans (dp_le HR.out ord[m]) hfew
                      rw [hd] at hdle
                      have HQ := Lib.hid (And.intro hp (And.intro hid31 (And.intro hon31 (And.intro e2 (And.intro e3 (And.intro hd hup))))))
                      clear hn1 hn2 hp hpo hd hpm hpn hid31 hon31 e1 e2 e3 hup
                      generalize ord[m] = q at *
                      obtain ⟨D, hD⟩ : ∃ D, D = dp l2 r p.on := ⟨_, rfl⟩
                      rw [← hD] at hdle
                      have HD := Lib.hid hD
                      clear hD
                      have hcast : ((D + 1 : Nat) : Int) = 1 + (D : Int) := by omega
                      have HCA := Lib.hid hcast
                      clear hcast
                      go_wp2_with fail
                      refine (parent_any g b most l2 wr HM.out.2.2.t q HQ.out.2.1).mono ?_
                      rintro e x1 ⟨rfl, bx1⟩
                      rw [HQ.out.1]
                      simp only [Option.getD_some]
                      have K1 := Lib.hid (HM.out.2.2.below bx1)
                      have M1 := Lib.hid (HM.out.1.below bx1 HM.out.1.lt)
                      have l2' := M1.out.look HQ.out.2.2.1
                      rw [HQ.out.2.2.2.1] at l2'
                      have l3 := K1.out.m.look HQ.out.2.1
                      rw [HQ.out.2.2.2.2.1] at l3
                      clear bx1 l1
                      go_wp2_with fail
                      refine (weight_any g b most l2 x1 K1.out.t q HQ.out.2.1).mono ?_
                      rintro e x2 ⟨rfl, bx2⟩
                      rw [HQ.out.1]
                      simp only [Option.getD_some]
                      have K2 := Lib.hid (K1.out.below bx2)
                      have M2 := Lib.hid (M1.out.below bx2 M1.out.lt)
                      clear bx2 K1 M1 l2' l3
                      go_wp2_with fail
                      refine (weight_any g b most l2 x2 K2.out.t q HQ.out.2.1).mono ?_
                      rintro e x3 ⟨rfl, bx3⟩
                      rw [HQ.out.1]
                      simp only [Option.getD_some]
                      have K3 := Lib.hid (K2.out.below bx3)
                      have M3 := Lib.hid (M2.out.below bx3 M2.out.lt)
                      clear bx3 K2 M2
                      go_wp2_with fail
                      refine (depth_any g b most l2 x3 K3.out.t r HR.out q HQ.out.2.1).mono ?_
                      rintro e x4 ⟨rfl, bx4⟩
                      rw [HQ.out.2.2.2.2.2.1, ← HD.out, HCA.out]
                      have K4 := Lib.hid (K3.out.below bx4)
                      have M4 := Lib.hid (M3.out.below bx4 M3.out.lt)
                      clear bx4 K3 M3
                      go_wp2_with fail
                      refine (parent_any g b most l2 x4 K4.out.t q HQ.out.2.1).mono ?_
                      rintro e x5 ⟨rfl, bx5⟩
                      rw [HQ.out.1]
                      simp only [Option.getD_some]
                      have K5 := Lib.hid (K4.out.below bx5)
                      have M5 := Lib.hid (M4.out.below bx5 M4.out.lt)
                      clear bx5 K4 M4
                      go_wp2_with fail
                      refine (depth_any g b most l2 x5 K5.out.t r HR.out p.on HQ.out.2.2.1).mono ?_
                      rintro e x6 ⟨rfl, bx6⟩
                      rw [← HD.out]
                      have K6 := Lib.hid (K5.out.below bx6)
                      have M6 := Lib.hid (M5.out.below bx6 M5.out.lt)
                      have hsx : w7.heap.size ≤ x6.heap.size := by have := M6.out.lt; rw [← HBS.out]; omega
                      clear bx6 K5 M5
                      obtain ⟨x7, hrun, hm7, hg7⟩ := MapB.write (v := true) M6.out (x := q) (by simp only [maxLen]; omega) HQ.out.2.1
                      have K7 : Hid (Kp w x7 g b most l2 bt G22 cnt2 (some ⟨ab, ao, none⟩) c7 ord) := ⟨K6.out.t.same (hg7.block g K6.out.t.lt.1 (by simp; omega)) (hg7.block b K6.out.t.lt.2 (by simp; omega)), K6.out.m.same (hg7.block bt K6.out.m.lt (by simp; omega)), held_seen K6.out.h M6.out hg7, K6.out.bel.grown hg7 K6.out.bel.size (fun z hz => by injection hz with hz; omega)⟩
                      have HM7 := Lib.hid hm7
                      have hcs2 : (if (Gs q).isSome then cs else cs + 1) ≤ m + 1 + 1 := by split <;> omega
                      clear hm7 hg7 K6 M6
                      go_wp2_with fail
                      go_roundw
                      case rel => exact ⟨m + 1, _, _, by omega, by go_num, HM7.out, hcs2, HQ.out.2.2.2.2.2.2, K7.out⟩
                      case measure => simp [intOf]; omega
                    · obtain rfl : l2.length = m := by omega
                      go_wp2_with fail
                      refine (len_any g b most l2 wr HM.out.2.2.t).mono ?_
                      rintro e x1 ⟨rfl, rfl⟩
                      go_wp2_with fail
                      go_roundw
                      case rel => exact ⟨k + 1, l2, G22, cnt2, by omega, by go_num, HM.out.2.2.t, HYY.out.1, HM.out.2.2.m, hcnt22, HYY.out.2, HM.out.2.2.bel⟩
                      case measure => simp [intOf]; omega
            · have h5b : (kd == 5) = false := by simp [h5]
              clear h3 h4 h5
              have HC5 := Lib.hid (insert_all g b most l w4 H4.out.2.1 id ⟨on, wt, ex⟩)
              go_wp2_with fail
              refine HC5.out.mono ?_
              rintro e w5 ⟨rfl, t5⟩
              have z5 := H4.out.1.only t5.2 (by simp; omega)
              have d1' := Blk.cell z5 1
              simp at d1'
              have H5 := Lib.hid (And.intro t5.1 (And.intro (H4.out.2.2.1.only t5.2 hbtb) (bonly H4.out.2.2.2 t5.2 HS.out)))
              have HY := Lib.hid (And.intro (ok_insertS HX.out.1 most id ⟨on, wt, ex⟩) (And.intro HX.out.2 (fun x => some_insert l most id ⟨on, wt, ex⟩ x)))
              clear t5 HC5 H4 HX z5 d0 d1 d2 d3 d4
              generalize (insertS l most id ⟨on, wt, ex⟩).1 = er at *
              generalize (insertS l most id ⟨on, wt, ex⟩).2 = l2 at *
              by_cases he : er = 0
              · subst he
                have HY2 : Hid (OkT l2 ∧ ∀ x, (upd G id (some true) x).getD false = (getN l2 x).isSome) := ⟨HY.out.1, upd_there HY.out.2.1 (fun x => by rw [HY.out.2.2]; by_cases h : x = id <;> simp [h])⟩
                clear HY
                have HY := HY2
                clear HY2
                obtain ⟨w6, hrun, hm6, hg6⟩ := MapB.write (v := true) H5.out.2.1 (x := id) (by simp only [maxLen]; omega) HIN.out.2.1
                have hgl := H5.out.1.lt
                have H6 : Hid (Trs w6 g b most l2 ∧ MapB w6 bt (upd G id (some true)) (if (G id).isSome then cnt else cnt + 1) ∧ Below w.heap.size w w6) := ⟨H5.out.1.same (hg6.block g hgl.1 (by simp; omega)) (hg6.block b hgl.2 (by simp; omega)), hm6, H5.out.2.2.grown hg6 H5.out.2.2.size (fun q hq => by injection hq with hq; omega)⟩
                have hcnt2 : (if (G id).isSome then cnt else cnt + 1) ≤ k + 1 := by split <;> omega
                have HRUN := Lib.hid hrun
                clear hm6 hg6 hgl H5 hrun
                have hrun := HRUN.out
                go_upto_region 18 with fail
                clear hrun
                have H6' : ∃ (w7 : World) (cnt2 : Nat) (G2 : Int → Option Bool), w7 = w6 ∧ cnt2 ≤ k + 1 ∧ (∀ x, (G2 x).getD false = (getN l2 x).isSome) ∧ Trs w7 g b most l2 ∧ MapB w7 bt G2 cnt2 ∧ Below w.heap.size w w7 := ⟨w6, _, _, rfl, hcnt2, HY.out.2, H6.out⟩
                obtain ⟨w66, cnt2, G22, e6, hcnt22, hg22, h66⟩ := H6'
                rw [← e6]
                have HYY := Lib.hid (And.intro HY.out.1 hg22)
                have H66 := Lib.hid h66
                clear e6 hg22 h66 HY hcnt2 H6 HRUN
                as_aux_lemma =>
                  obtain ⟨r, hr⟩ := HYY.out.1
                  have HR := Lib.hid hr
                  have HO := Lib.hid (ord_length hr)
                  have HAT := Lib.hid (ord_at hr)
                  have hfew := H66.out.1.few
                  clear hr
                  go_wp2_with fail
                  refine (order_any g b most l2 w66 H66.out.1 r HR.out).mono ?_
                  rintro e w7 ⟨A7, c7, rfl, h7, b7⟩
                  rw [HO.out] at h7 ⊢
                  have K7 : Hid (Kp w w7 g b most l2 bt G22 cnt2 A7 c7 (ordL l2 r)) := ⟨H66.out.1.below b7, H66.out.2.1.below b7 H66.out.2.1.lt, h7, H66.out.2.2.trans (b7.mono H66.out.2.2.size)⟩
                  have hc7 := h7.2.1
                  have hc7' := h7.2.2.1
                  clear h7 b7
                  have Bs : Below w7.heap.size w7 (w7.alloc (.map #[] 0)) := (Below.refl _ _).alloc (Nat.le_refl _) _
                  obtain ⟨w8, hrun, hm8, hg8⟩ := MapB.write (v := true) (MapB.made w7) (x := 0) (by simp only [maxLen]; omega) (by decide)
                  have K8 : Hid (Kp w w8 g b most l2 bt G22 cnt2 A7 c7 (ordL l2 r)) := K7.out.below (Bs.grown hg8 (by simp) (fun q hq => by injection hq with hq; omega))
                  have HM8 := Lib.hid hm8
                  have hbs0 : w.heap.size ≤ w7.heap.size := K7.out.bel.size
                  have hbs1 := K7.out.t.lt
                  have hbs2 := K7.out.m.lt
                  obtain ⟨bs, hbs⟩ : ∃ bs, bs = w7.heap.size := ⟨_, rfl⟩
                  rw [← hbs] at HM8 hbs0 hbs1 hbs2
                  have HBS := Lib.hid hbs
                  have hs8 := hg8.size
                  simp at hs8
                  rw [← hbs] at hs8
                  clear hm8 hg8 Bs hbs K7
                  go_upto_region 20 with fail
                  rw [← HBS.out]
                  clear hrun
                  generalize ordL l2 r = ord at *
                  go_wp2_with fail
                  go_loopw [12] (fun jv wx => ∃ (m : Nat) (Gs : Int → Option Bool) (cs : Nat), m ≤ l2.length ∧ jv = .int .i64 m ∧ MapB wx bs Gs cs ∧ cs ≤ m + 1 ∧ (∀ x, (Gs x).getD false = decide (x = 0 ∨ x ∈ ord.take m)) ∧ Kp w wx g b most l2 bt G22 cnt2 A7 c7 ord) (fun jv _ => l2.length - (intOf jv).toNat)
                  case atStart => exact ⟨0, _, _, by omega, rfl, HM8.out, by simp, (fun x => by rw [true_upd]; by_cases h : x = 0 <;> simp [h]), K8.out⟩
                  case round =>
                    obtain ⟨m, Gs, cs, hm, rfl, hmb, hcs, hgs, hkp⟩ := hrel
                    have HM := Lib.hid (And.intro hmb (And.intro hgs hkp))
                    clear hmb hgs hkp HM8 K8
                    have hm0 : (0 : Int) ≤ m := by omega
                    by_cases hml : m < l2.length
                    · have hmo : m < ord.length := by rw [HO.out]; exact hml
                      obtain ⟨ab, ao, rfl, hal, x0⟩ := HM.out.2.2.h.at_ (j := m) (u := .int .i64 ord[m]) (by simp [nums, hmo])
                      have hm1 : (m : Int) < l2.length := by omega
                      obtain ⟨hn1, hn2, p, hp, hpo, hd⟩ := HAT.out m hmo
                      have hup := upd_seen HM.out.2.1 hmo
                      have hpm := getN_mem hp
                      have hpn := HM.out.2.2.t.nd p hpm.1
                      have hid31 : (Lit.int .i64 ord[m]).wf = true := by
                        rw [← hpm.2]
                        exact wf31 (by have := hpn.1; omega) hpn.1.2
                      have hon31 : (Lit.int .i64 p.on).wf = true := wf31 hpn.2.1.1 hpn.2.1.2
                      have e1 : (Gs ord[m]).getD false = false := by
                        rw [HM.out.2.1]
                        exact decide_eq_false (fun h => by rcases h with h | h; exact hn2 h; exact hn1 h)
                      have e2 : (Gs p.on).getD false = true := by
                        rw [HM.out.2.1]
                        exact decide_eq_true hpo
                      have e3 : (G22 ord[m]).getD false = true := by
                        rw [HYY.out.2, hp]
                        rfl
                      have l1 := HM.out.1.look hid31
                      rw [e1] at l1
                      have hwt1 := hpn.2.2.1
                      have hwt2 := hpn.2.2.2
                      have hdle := Nat.le_trans (dp_le HR.out ord[m]) hfew
                      rw [hd] at hdle
                      have HQ := Lib.hid (And.intro hp (And.intro hid31 (And.intro hon31 (And.intro e2 (And.intro e3 (And.intro hd hup))))))
                      clear hn1 hn2 hp hpo hd hpm hpn hid31 hon31 e1 e2 e3 hup
                      generalize ord[m] = q at *
                      obtain ⟨D, hD⟩ : ∃ D, D = dp l2 r p.on := ⟨_, rfl⟩
                      rw [← hD] at hdle
                      have HD := Lib.hid hD
                      clear hD
                      have hcast : ((D + 1 : Nat) : Int) = 1 + (D : Int) := by omega
                      have HCA := Lib.hid hcast
                      clear hcast
                      go_wp2_with fail
                      refine (parent_any g b most l2 wr HM.out.2.2.t q HQ.out.2.1).mono ?_
                      rintro e x1 ⟨rfl, bx1⟩
                      rw [HQ.out.1]
                      simp only [Option.getD_some]
                      have K1 := Lib.hid (HM.out.2.2.below bx1)
                      have M1 := Lib.hid (HM.out.1.below bx1 HM.out.1.lt)
                      have l2' := M1.out.look HQ.out.2.2.1
                      rw [HQ.out.2.2.2.1] at l2'
                      have l3 := K1.out.m.look HQ.out.2.1
                      rw [HQ.out.2.2.2.2.1] at l3
                      clear bx1 l1
                      go_wp2_with fail
                      refine (weight_any g b most l2 x1 K1.out.t q HQ.out.2.1).mono ?_
                      rintro e x2 ⟨rfl, bx2⟩
                      rw [HQ.out.1]
                      simp only [Option.getD_some]
                      have K2 := Lib.hid (K1.out.below bx2)
                      have M2 := Lib.hid (M1.out.below bx2 M1.out.lt)
                      clear bx2 K1 M1 l2' l3
                      go_wp2_with fail
                      refine (weight_any g b most l2 x2 K2.out.t q HQ.out.2.1).mono ?_
                      rintro e x3 ⟨rfl, bx3⟩
                      rw [HQ.out.1]
                      simp only [Option.getD_some]
                      have K3 := Lib.hid (K2.out.below bx3)
                      have M3 := Lib.hid (M2.out.below bx3 M2.out.lt)
                      clear bx3 K2 M2
                      go_wp2_with fail
                      refine (depth_any g b most l2 x3 K3.out.t r HR.out q HQ.out.2.1).mono ?_
                      rintro e x4 ⟨rfl, bx4⟩
                      rw [HQ.out.2.2.2.2.2.1, ← HD.out, HCA.out]
                      have K4 := Lib.hid (K3.out.below bx4)
                      have M4 := Lib.hid (M3.out.below bx4 M3.out.lt)
                      clear bx4 K3 M3
                      go_wp2_with fail
                      refine (parent_any g b most l2 x4 K4.out.t q HQ.out.2.1).mono ?_
                      rintro e x5 ⟨rfl, bx5⟩
                      rw [HQ.out.1]
                      simp only [Option.getD_some]
                      have K5 := Lib.hid (K4.out.below bx5)
                      have M5 := Lib.hid (M4.out.below bx5 M4.out.lt)
                      clear bx5 K4 M4
                      go_wp2_with fail
                      refine (depth_any g b most l2 x5 K5.out.t r HR.out p.on HQ.out.2.2.1).mono ?_
                      rintro e x6 ⟨rfl, bx6⟩
                      rw [← HD.out]
                      have K6 := Lib.hid (K5.out.below bx6)
                      have M6 := Lib.hid (M5.out.below bx6 M5.out.lt)
                      have hsx : w7.heap.size ≤ x6.heap.size := by have := M6.out.lt; rw [← HBS.out]; omega
                      clear bx6 K5 M5
                      obtain ⟨x7, hrun, hm7, hg7⟩ := MapB.write (v := true) M6.out (x := q) (by simp only [maxLen]; omega) HQ.out.2.1
                      have K7 : Hid (Kp w x7 g b most l2 bt G22 cnt2 (some ⟨ab, ao, none⟩) c7 ord) := ⟨K6.out.t.same (hg7.block g K6.out.t.lt.1 (by simp; omega)) (hg7.block b K6.out.t.lt.2 (by simp; omega)), K6.out.m.same (hg7.block bt K6.out.m.lt (by simp; omega)), held_seen K6.out.h M6.out hg7, K6.out.bel.grown hg7 K6.out.bel.size (fun z hz => by injection hz with hz; omega)⟩
                      have HM7 := Lib.hid hm7
                      have hcs2 : (if (Gs q).isSome then cs else cs + 1) ≤ m + 1 + 1 := by split <;> omega
                      clear hm7 hg7 K6 M6
                      go_wp2_with fail
                      go_roundw
                      case rel => exact ⟨m + 1, _, _, by omega, by go_num, HM7.out, hcs2, HQ.out.2.2.2.2.2.2, K7.out⟩
                      case measure => simp [intOf]; omega
                    · obtain rfl : l2.length = m := by omega
                      go_wp2_with fail
                      refine (len_any g b most l2 wr HM.out.2.2.t).mono ?_
                      rintro e x1 ⟨rfl, rfl⟩
                      go_wp2_with fail
                      go_roundw
                      case rel => exact ⟨k + 1, l2, G22, cnt2, by omega, by go_num, HM.out.2.2.t, HYY.out.1, HM.out.2.2.m, hcnt22, HYY.out.2, HM.out.2.2.bel⟩
                      case measure => simp [intOf]; omega
              · have heb : (er == 0) = false := by simp [he]
                have HY2 : Hid (OkT l2 ∧ ∀ x, (G x).getD false = (getN l2 x).isSome) := ⟨HY.out.1, fun x => by rw [HY.out.2.2, HY.out.2.1, heb]; rfl⟩
                clear HY he
                have HY := HY2
                clear HY2
                have hcnt2 : cnt ≤ k + 1 := by omega
                go_upto_region 18 with fail
                have H6' : ∃ (w6 : World) (cnt2 : Nat) (G2 : Int → Option Bool), w6 = w5 ∧ cnt2 ≤ k + 1 ∧ (∀ x, (G2 x).getD false = (getN l2 x).isSome) ∧ Trs w6 g b most l2 ∧ MapB w6 bt G2 cnt2 ∧ Below w.heap.size w w6 := ⟨w5, cnt, G, rfl, hcnt2, HY.out.2, H5.out⟩
                obtain ⟨w66, cnt2, G22, e6, hcnt22, hg22, h66⟩ := H6'
                rw [← e6]
                have HYY := Lib.hid (And.intro HY.out.1 hg22)
                have H66 := Lib.hid h66
                clear e6 hg22 h66 HY hcnt2 H5
                as_aux_lemma =>
                  obtain ⟨r, hr⟩ := HYY.out.1
                  have HR := Lib.hid hr
                  have HO := Lib.hid (ord_length hr)
                  have HAT := Lib.hid (ord_at hr)
                  have hfew := H66.out.1.few
                  clear hr
                  go_wp2_with fail
                  refine (order_any g b most l2 w66 H66.out.1 r HR.out).mono ?_
                  rintro e w7 ⟨A7, c7, rfl, h7, b7⟩
                  rw [HO.out] at h7 ⊢
                  have K7 : Hid (Kp w w7 g b most l2 bt G22 cnt2 A7 c7 (ordL l2 r)) := ⟨H66.out.1.below b7, H66.out.2.1.below b7 H66.out.2.1.lt, h7, H66.out.2.2.trans (b7.mono H66.out.2.2.size)⟩
                  have hc7 := h7.2.1
                  have hc7' := h7.2.2.1
                  clear h7 b7
                  have Bs : Below w7.heap.size w7 (w7.alloc (.map #[] 0)) := (Below.refl _ _).alloc (Nat.le_refl _) _
                  obtain ⟨w8, hrun, hm8, hg8⟩ := MapB.write (v := true) (MapB.made w7) (x := 0) (by simp only [maxLen]; omega) (by decide)
                  have K8 : Hid (Kp w w8 g b most l2 bt G22 cnt2 A7 c7 (ordL l2 r)) := K7.out.below (Bs.grown hg8 (by simp) (fun q hq => by injection hq with hq; omega))
                  have HM8 := Lib.hid hm8
                  have hbs0 : w.heap.size ≤ w7.heap.size := K7.out.bel.size
                  have hbs1 := K7.out.t.lt
                  have hbs2 := K7.out.m.lt
                  obtain ⟨bs, hbs⟩ : ∃ bs, bs = w7.heap.size := ⟨_, rfl⟩
                  rw [← hbs] at HM8 hbs0 hbs1 hbs2
                  have HBS := Lib.hid hbs
                  have hs8 := hg8.size
                  simp at hs8
                  rw [← hbs] at hs8
                  clear hm8 hg8 Bs hbs K7
                  go_upto_region 20 with fail
                  rw [← HBS.out]
                  clear hrun
                  generalize ordL l2 r = ord at *
                  go_wp2_with fail
                  go_loopw [12] (fun jv wx => ∃ (m : Nat) (Gs : Int → Option Bool) (cs : Nat), m ≤ l2.length ∧ jv = .int .i64 m ∧ MapB wx bs Gs cs ∧ cs ≤ m + 1 ∧ (∀ x, (Gs x).getD false = decide (x = 0 ∨ x ∈ ord.take m)) ∧ Kp w wx g b most l2 bt G22 cnt2 A7 c7 ord) (fun jv _ => l2.length - (intOf jv).toNat)
                  case atStart => exact ⟨0, _, _, by omega, rfl, HM8.out, by simp, (fun x => by rw [true_upd]; by_cases h : x = 0 <;> simp [h]), K8.out⟩
                  case round =>
                    obtain ⟨m, Gs, cs, hm, rfl, hmb, hcs, hgs, hkp⟩ := hrel
                    have HM := Lib.hid (And.intro hmb (And.intro hgs hkp))
                    clear hmb hgs hkp HM8 K8
                    have hm0 : (0 : Int) ≤ m := by omega
                    by_cases hml : m < l2.length
                    · have hmo : m < ord.length := by rw [HO.out]; exact hml
                      obtain ⟨ab, ao, rfl, hal, x0⟩ := HM.out.2.2.h.at_ (j := m) (u := .int .i64 ord[m]) (by simp [nums, hmo])
                      have hm1 : (m : Int) < l2.length := by omega
                      obtain ⟨hn1, hn2, p, hp, hpo, hd⟩ := HAT.out m hmo
                      have hup := upd_seen HM.out.2.1 hmo
                      have hpm := getN_mem hp
                      have hpn := HM.out.2.2.t.nd p hpm.1
                      have hid31 : (Lit.int .i64 ord[m]).wf = true := by
                        rw [← hpm.2]
                        exact wf31 (by have := hpn.1; omega) hpn.1.2
                      have hon31 : (Lit.int .i64 p.on).wf = true := wf31 hpn.2.1.1 hpn.2.1.2
                      have e1 : (Gs ord[m]).getD false = false := by
                        rw [HM.out.2.1]
                        exact decide_eq_false (fun h => by rcases h with h | h; exact hn2 h; exact hn1 h)
                      have e2 : (Gs p.on).getD false = true := by
                        rw [HM.out.2.1]
                        exact decide_eq_true hpo
                      have e3 : (G22 ord[m]).getD false = true := by
                        rw [HYY.out.2, hp]
                        rfl
                      have l1 := HM.out.1.look hid31
                      rw [e1] at l1
                      have hwt1 := hpn.2.2.1
                      have hwt2 := hpn.2.2.2
                      have hdle := Nat.le_trans (dp_le HR.out ord[m]) hfew
                      rw [hd] at hdle
                      have HQ := Lib.hid (And.intro hp (And.intro hid31 (And.intro hon31 (And.intro e2 (And.intro e3 (And.intro hd hup))))))
                      clear hn1 hn2 hp hpo hd hpm hpn hid31 hon31 e1 e2 e3 hup
                      generalize ord[m] = q at *
                      obtain ⟨D, hD⟩ : ∃ D, D = dp l2 r p.on := ⟨_, rfl⟩
                      rw [← hD] at hdle
                      have HD := Lib.hid hD
                      clear hD
                      have hcast : ((D + 1 : Nat) : Int) = 1 + (D : Int) := by omega
                      have HCA := Lib.hid hcast
                      clear hcast
                      go_wp2_with fail
                      refine (parent_any g b most l2 wr HM.out.2.2.t q HQ.out.2.1).mono ?_
                      rintro e x1 ⟨rfl, bx1⟩
                      rw [HQ.out.1]
                      simp only [Option.getD_some]
                      have K1 := Lib.hid (HM.out.2.2.below bx1)
                      have M1 := Lib.hid (HM.out.1.below bx1 HM.out.1.lt)
                      have l2' := M1.out.look HQ.out.2.2.1
                      rw [HQ.out.2.2.2.1] at l2'
                      have l3 := K1.out.m.look HQ.out.2.1
                      rw [HQ.out.2.2.2.2.1] at l3
                      clear bx1 l1
                      go_wp2_with fail
                      refine (weight_any g b most l2 x1 K1.out.t q HQ.out.2.1).mono ?_
                      rintro e x2 ⟨rfl, bx2⟩
                      rw [HQ.out.1]
                      simp only [Option.getD_some]
                      have K2 := Lib.hid (K1.out.below bx2)
                      have M2 := Lib.hid (M1.out.below bx2 M1.out.lt)
                      clear bx2 K1 M1 l2' l3
                      go_wp2_with fail
                      refine (weight_any g b most l2 x2 K2.out.t q HQ.out.2.1).mono ?_
                      rintro e x3 ⟨rfl, bx3⟩
                      rw [HQ.out.1]
                      simp only [Option.getD_some]
                      have K3 := Lib.hid (K2.out.below bx3)
                      have M3 := Lib.hid (M2.out.below bx3 M2.out.lt)
                      clear bx3 K2 M2
                      go_wp2_with fail
                      refine (depth_any g b most l2 x3 K3.out.t r HR.out q HQ.out.2.1).mono ?_
                      rintro e x4 ⟨rfl, bx4⟩
                      rw [HQ.out.2.2.2.2.2.1, ← HD.out, HCA.out]
                      have K4 := Lib.hid (K3.out.below bx4)
                      have M4 := Lib.hid (M3.out.below bx4 M3.out.lt)
                      clear bx4 K3 M3
                      go_wp2_with fail
                      refine (parent_any g b most l2 x4 K4.out.t q HQ.out.2.1).mono ?_
                      rintro e x5 ⟨rfl, bx5⟩
                      rw [HQ.out.1]
                      simp only [Option.getD_some]
                      have K5 := Lib.hid (K4.out.below bx5)
                      have M5 := Lib.hid (M4.out.below bx5 M4.out.lt)
                      clear bx5 K4 M4
                      go_wp2_with fail
                      refine (depth_any g b most l2 x5 K5.out.t r HR.out p.on HQ.out.2.2.1).mono ?_
                      rintro e x6 ⟨rfl, bx6⟩
                      rw [← HD.out]
                      have K6 := Lib.hid (K5.out.below bx6)
                      have M6 := Lib.hid (M5.out.below bx6 M5.out.lt)
                      have hsx : w7.heap.size ≤ x6.heap.size := by have := M6.out.lt; rw [← HBS.out]; omega
                      clear bx6 K5 M5
                      obtain ⟨x7, hrun, hm7, hg7⟩ := MapB.write (v := true) M6.out (x := q) (by simp only [maxLen]; omega) HQ.out.2.1
                      have K7 : Hid (Kp w x7 g b most l2 bt G22 cnt2 (some ⟨ab, ao, none⟩) c7 ord) := ⟨K6.out.t.same (hg7.block g K6.out.t.lt.1 (by simp; omega)) (hg7.block b K6.out.t.lt.2 (by simp; omega)), K6.out.m.same (hg7.block bt K6.out.m.lt (by simp; omega)), held_seen K6.out.h M6.out hg7, K6.out.bel.grown hg7 K6.out.bel.size (fun z hz => by injection hz with hz; omega)⟩
                      have HM7 := Lib.hid hm7
                      have hcs2 : (if (Gs q).isSome then cs else cs + 1) ≤ m + 1 + 1 := by split <;> omega
                      clear hm7 hg7 K6 M6
                      go_wp2_with fail
                      go_roundw
                      case rel => exact ⟨m + 1, _, _, by omega, by go_num, HM7.out, hcs2, HQ.out.2.2.2.2.2.2, K7.out⟩
                      case measure => simp [intOf]; omega
                    · obtain rfl : l2.length = m := by omega
                      go_wp2_with fail
                      refine (len_any g b most l2 wr HM.out.2.2.t).mono ?_
                      rintro e x1 ⟨rfl, rfl⟩
                      go_wp2_with fail
                      go_roundw
                      case rel => exact ⟨k + 1, l2, G22, cnt2, by omega, by go_num, HM.out.2.2.t, HYY.out.1, HM.out.2.2.m, hcnt22, HYY.out.2, HM.out.2.2.bel⟩
                      case measure => simp [intOf]; omega
      · go_wp2_with fail
        go_ret
        exact ⟨rfl, HM.out.2.2.2.2⟩
    · go_wp2_with fail
      go_ret
      exact ⟨rfl, HM.out.2.2.2.2⟩

theorem own : ownKnob Try.prog.godebug = none := by kernel_rfl

set_option maxRecDepth 100000 in
theorem lifted (os : Os) (started : os.Started) (H : Type) (enc : TypeId × Value → H) :
    ReturnsInHanded {} Try.checked os 5 .any (Rows.treeSoundSpec.pre6 enc Try.prog Try.f5 Rows.treeSoundRow.domain false) (Rows.treeSoundSpec.post enc Try.prog Try.f5 false true false false) := by
  refine returnsInHanded_of_change (C := Try.checked) own started (by kernel_rfl) Try.func5
    (ChangeSpec.witness6 (enc := enc) (C := Try.checked) false ⟨#[], #[.int .u8 0, .slice none 0 0], []⟩ 8 (by kernel_rfl) (by kernel_rfl) (by kernel_rfl) (by kernel_rfl)) ?_
  intro W base args ds gs before hval0 hW hcnd _
  have hval : ∀ (j : Nat) t v, Try.f5.params[j]? = some t → args[j]? = some v → Value.okWide Try.prog W .any base t v := hval0
  have hW' := hW
  obtain ⟨p, q, hA0, hV, rfl, hfz, hnd⟩ := hW
  have hA : DataW.TrodAll enc Try.prog W 0 (fun _ => true) true Try.f5.params.toList args.toList ds p := hA0
  rw [Try.params5] at hA hval
  obtain ⟨v0, vs0, d0, ds0, p0, q0, hargs, rfl, rfl, h0, r0⟩ := trodAll_cons hA
  obtain ⟨v1, vs1, d1, ds1, p1, q1, rfl, rfl, rfl, h1, r1⟩ := trodAll_cons r0
  obtain ⟨rfl, rfl, rfl⟩ := trodAll_nil r1
  obtain rfl : args = #[v0, v1] := by cases args; simp_all
  obtain ⟨rfl, rfl⟩ := trodVars_none hV
  have g0 := h0
  have g1 := h1
  obtain ⟨a0, rfl, _, _, w0⟩ := open_int Try.underlying5 (hval 0 5 v0 rfl rfl) h0
  obtain ⟨n1, C1, k1⟩ := open_rows Try.underlying35 (by kernel_rfl) (by decide) (ac_of Try.underlying42 Try.underlying30 Try.underlying3 Try.underlying4 (by kernel_rfl) (by kernel_rfl) (by kernel_rfl) rfl rfl rfl rfl rfl rfl rfl rfl rfl rfl rfl rfl) (hval 1 35 v1 rfl rfl) h1
  clear hA0 hval0
  have hlt : ∀ x ∈ (p0 ++ (p1 ++ [])), x.block < W.heap.size := fun x hx => hW'.lt x (by simpa using hx)
  refine (walk W a0 w0 v1 n1 C1 k1).mono fun e W' ⟨he, hb⟩ => ?_
  subst he
  refine ⟨_, rfl, post_of_below (pa := (p0 ++ (p1 ++ []))) (pv := []) hW' (fun _ _ _ => (trodAll_cons_mk (shut_bool Try.underlying4 _) trodAll_mk0)) (fun sp hsp => ?_) (fun _ _ => rfl) (by simp) hb (ok_one (by kernel_rfl) rfl (okWide_bool_mk Try.underlying4 _))⟩
  exact trodAll_cons_mk (below_trod sp (by kernel_rfl) (by kernel_rfl) (of_decide_eq_true (by kernel_rfl)) g0 hb (fun x hx => hlt x (by simp [hx])) (fun x hx => hsp x (by simp [hx])))
    (trodAll_cons_mk (below_trod sp (by kernel_rfl) (by kernel_rfl) (of_decide_eq_true (by kernel_rfl)) g1 hb (fun x hx => hlt x (by simp [hx])) (fun x hx => hsp x (by simp [hx])))
    (trodAll_mk0))

theorem over : Rows.treeSoundRow.holds Try.pinned (OpenSpec.ofChange Rows.treeSoundSpec) :=
  OpenClaim.holds_of_wide 5 Try.f5 rfl rfl rfl rfl rfl rfl rfl ⟨rfl, rfl, rfl, rfl, rfl⟩ rfl rfl rfl rfl rfl (by kernel_rfl) Try.func5 (by kernel_rfl)
    (of_decide_eq_true (by kernel_rfl)) (by unfold Func.isWrapper; rw [if_neg (by decide +kernel)]; exact ⟨rfl, rfl⟩)
    (fun os started H enc _ => lifted os started H enc)

theorem proved : Rows.TreeSoundSaid := over
#print axioms proved
end Go.Proofs.Ytifgbnjpiphidaa.TreeSound
