/- The walks of the stable sort: two sorted blocks merged, the other way. -/
import Derived.Test.YteokepnkgdhkkaaRows
import Derived.WalkKit
import Derived.ProofKit
import Derived.Handy
import Derived.Deep.QuietTactic
import Derived.BigQuiet
import Derived.Deep.RegionWith
import Derived.Deep.RegionHeld3
import Derived.Deep.AppendLies
import Derived.WalkLawsBesides
import Derived.WalkSmall
import Derived.Deep.Cut
import Derived.Shelf.SlSortCmp.QuietGrown
import Derived.Test.YteokepnkgdhkkaaSta5
import Derived.Test.YteokepnkgdhkkaaStaM
namespace Go.Proofs.Yteokepnkgdhkkaa
open Go.RowKit Go.Sort Go.Shelf
set_option linter.unusedVariables false
set_option maxRecDepth 20000 in
set_option maxHeartbeats 16000000 in
theorem symM_midB (N : Nat) (ih : MergeUp N) (base : Nat) (w : World) (g n c : Nat) (d : Array Sm) (a m b : Nat) (hN : b - a ≤ N + 1) (h : RowIs base w w g n c d) (hb : base ≤ w.heap.size) (hn : n ≤ 100000) (hway0 : m ≤ (a + b) / 2) (ham : a + 1 < m) (hmb : m + 1 < b) (hbn : b ≤ n) (h1 : So (ltOf cfT) (at' d) a m) (h2 : So (ltOf cfT) (at' d) m b) :
    Calls Try.prog 37 #[.slice (some ⟨g, 0, none⟩) n c, .int .i64 a, .int .i64 m, .int .i64 b, .func (.func 25) #[] #[]] w (MergeE base w g n c d a b) := by
  have H := Lib.hid h
  have HS := Lib.hid (And.intro h1 h2)
  have IH := Lib.hid ih
  have hc := (Held.of_own h.2.1).2.1
  have hc2 := (Held.of_own h.2.1).2.2.1
  clear h h1 h2 ih
  have mixed : Try.prog.follows .mixedOrders = true := by kernel_rfl
  obtain ⟨U, hU⟩ : ∃ U : Nat, (m : Int) - (a : Int) = U := ⟨m - a, by omega⟩
  have hUw : IntKind.i64.wrap (U : Int) = U := by rw [IntKind.wrap_i64]; omega
  have hU1 : ((U : Int) == 1) = false := by simp; omega
  obtain ⟨V, hV⟩ : ∃ V : Nat, (b : Int) - (m : Int) = V := ⟨b - m, by omega⟩
  have hVw : IntKind.i64.wrap (V : Int) = V := by rw [IntKind.wrap_i64]; omega
  have hV1 : ((V : Int) == 1) = false := by simp; omega
  obtain ⟨AB, hAB⟩ : ∃ AB : Nat, (a : Int) + (b : Int) = AB := ⟨a + b, by omega⟩
  have hABw : IntKind.i64.wrap (AB : Int) = AB := by rw [IntKind.wrap_i64]; omega
  obtain ⟨mid, hmid⟩ : ∃ mid : Nat, (AB : Int) / 2 = mid := ⟨(a + b) / 2, by omega⟩
  have hway : m ≤ mid := by omega
  obtain ⟨NN, hNN⟩ : ∃ NN : Nat, (mid : Int) + (m : Int) = NN := ⟨mid + m, by omega⟩
  have hNNw : IntKind.i64.wrap (NN : Int) = NN := by rw [IntKind.wrap_i64]; omega
  obtain ⟨p, hp⟩ : ∃ p : Nat, (NN : Int) - 1 = p := ⟨mid + m - 1, by omega⟩
  have hpw : IntKind.i64.wrap (p : Int) = p := by rw [IntKind.wrap_i64]; omega
  have haS : a ≤ a := Nat.le_refl _
  have hSR : a ≤ m := by omega
  have hRm : m ≤ m := Nat.le_refl _
  have HC := Lib.hid hway
  go_enter Try.func37, Try.ntmps37
  have hm1z : (m : Int) ≤ mid := by omega
  have hm140 : decide (mid < m) = false := decide_eq_false (by omega)
  go_wp2_with fail
  go_loopw [20, 21] (fun iv jv wr => ∃ s r : Nat, iv = .int .i64 s ∧ jv = .int .i64 r ∧ a ≤ s ∧ s ≤ r ∧ r ≤ m ∧ (a < s → ltOf cfT (at' d (p - (s - 1))) (at' d (s - 1)) = false) ∧ (r < m → ltOf cfT (at' d (p - r)) (at' d r) = true) ∧ RowIs base w wr g n c d) (fun iv jv _ => (intOf jv).toNat - (intOf iv).toNat)
  case atStart => exact ⟨a, m, rfl, rfl, Nat.le_refl _, hSR, Nat.le_refl _, (fun h => by omega), (fun h => by omega), H.out⟩
  case round =>
    obtain ⟨s, r, rfl, rfl, hSs, hsr, hrR, hlo, hhi, hr⟩ := hrel
    have HL := Lib.hid (And.intro hlo (And.intro hhi hr))
    clear hlo hhi hr
    by_cases hlt : s < r
    · have hsrz : (s : Int) < r := by omega
      obtain ⟨sm, hsm⟩ : ∃ sm : Nat, (s : Int) + (r : Int) = (sm : Int) := ⟨s + r, by omega⟩
      have hs2 : IntKind.i64.wrap (sm : Int) = (sm : Int) := by rw [IntKind.wrap_i64]; omega
      obtain ⟨q, hq⟩ : ∃ q : Nat, (sm : Int) / 2 = (q : Int) := ⟨(s + r) / 2, by omega⟩
      have hsq : s ≤ q := by omega
      have hqr : q < r := by omega
      have hq1 : IntKind.i64.wrap ((q : Int) + 1) = (q : Int) + 1 := by rw [IntKind.wrap_i64]; omega
      obtain ⟨PC, hPC⟩ : ∃ PC : Nat, (p : Int) - (q : Int) = (PC : Int) := ⟨p - q, by omega⟩
      have hPCw : IntKind.i64.wrap (PC : Int) = (PC : Int) := by rw [IntKind.wrap_i64]; omega
      have HPC := Lib.hid (show PC = p - q by omega)
      have hq0 : (0 : Int) ≤ q := by omega
      have hqn : (q : Int) < n := by omega
      have hP0 : (0 : Int) ≤ PC := by omega
      have hPn : (PC : Int) < n := by omega
      have hds := HL.out.2.2.1
      have r1 := grown_cells HL.out.2.2 q (by omega)
      have r2 := grown_cells HL.out.2.2 PC (by omega)
      have hcg := fun n' os' => topC_any d[PC]! d[q]! (Sort.grow (wr.drewN n') os')
      have HLT : Hid (cfT d[PC]! d[q]! < 0 ↔ ltOf cfT (at' d PC) (at' d q) = true) := by
        show _ ↔ decide _ = true
        rw [decide_eq_true_eq]
        rfl
      generalize d[q]! = x at *
      generalize d[PC]! = y at *
      generalize cfT y x = cv at *
      obtain ⟨x0, x1, x2, x3, x4, x5, x6, x7⟩ := x
      obtain ⟨y0, y1, y2, y3, y4, y5, y6, y7⟩ := y
      obtain ⟨c0, c1, c2, c3, c4, c5, c6, c7⟩ := r1
      obtain ⟨d0, d1, d2, d3, d4, d5, d6, d7⟩ := r2
      try simp only at c0 c1 c2 c3 c4 c5 c6 c7 d0 d1 d2 d3 d4 d5 d6 d7
      clear hds
      by_cases hlv : cv < 0
      · have HV := Lib.hid (HLT.out.1 hlv)
        have hdec : decide (cv < 0) = true := by simp; omega
        have hdec2 : (!decide (cv < 0)) = false := by rw [hdec]; rfl
        go_wp2_with fail
        go_quiet_grown (first | (go_at_call 25; refine Calls.grown_of (hcg _ _)))
        have hr2 := Lib.hid (rowIs_grow HL.out.2.2 (by have := HL.out.2.2.2.2.size; omega) nq osq)
        clear c0 c1 c2 c3 c4 c5 c6 c7 d0 d1 d2 d3 d4 d5 d6 d7 hcg
        generalize Sort.grow (wr.drewN nq) osq = w3 at *
        go_wp2_with fail
        go_roundw
        case rel => exact ⟨s, q, rfl, rfl, hSs, hsq, by omega, HL.out.1, (fun _ => by rw [← HPC.out]; exact HV.out), hr2.out⟩
        case measure => simp [intOf]; omega
      · have HV : Hid (ltOf cfT (at' d PC) (at' d q) = false) := by
          cases hh : ltOf cfT (at' d PC) (at' d q) with
          | false => rfl
          | true => exact absurd (HLT.out.2 hh) hlv
        have hlv' : 0 ≤ cv := by omega
        have hdec : decide (cv < 0) = false := by simp; omega
        have hdec2 : (!decide (cv < 0)) = true := by rw [hdec]; rfl
        go_wp2_with fail
        go_quiet_grown (first | (go_at_call 25; refine Calls.grown_of (hcg _ _)))
        have hr2 := Lib.hid (rowIs_grow HL.out.2.2 (by have := HL.out.2.2.2.2.size; omega) nq osq)
        clear c0 c1 c2 c3 c4 c5 c6 c7 d0 d1 d2 d3 d4 d5 d6 d7 hcg
        generalize Sort.grow (wr.drewN nq) osq = w3 at *
        go_wp2_with fail
        go_roundw
        case rel => exact ⟨q + 1, r, by go_num, rfl, by omega, by omega, hrR, (fun _ => by rw [show q + 1 - 1 = q by omega, ← HPC.out]; exact HV.out), HL.out.2.1, hr2.out⟩
        case measure => simp [intOf]; omega
    · obtain rfl : s = r := by omega
      obtain ⟨E, hE⟩ : ∃ E : Nat, (NN : Int) - (s : Int) = E := ⟨NN - s, by omega⟩
      have hEw : IntKind.i64.wrap (E : Int) = E := by rw [IntKind.wrap_i64]; omega
      have hsm : s ≤ m := by omega
      have hps : p + 1 = s + E := by omega
      have hme : m ≤ E := by have x1 := HC.out; omega
      have heb : E ≤ b := by have x1 := HC.out; omega
      have hms : mid = s + (E - m) := by omega
      have HP := search_P swoT HS.out.1 HS.out.2 haS hSs hsm hps hme (fun e => by have x1 := HC.out; omega) (HL.out.1)
      have HQ := search_Q swoT HS.out.1 HS.out.2 (by omega) hrR hRm hps heb (fun e => by have x1 := HC.out; omega) (HL.out.2.1)
      have HH := Lib.hid (halves swoT (show a ≤ s by omega) hsm hme heb hms HS.out.1 HS.out.2 HP HQ)
      have hbs : base ≤ wr.heap.size := Nat.le_trans hb HL.out.2.2.2.2.size
      have hmid2 : a < mid ∧ mid < b := by omega
      have HX := Lib.hid (And.intro hsm (And.intro hme (And.intro heb (And.intro hms hmid2))))
      have ha_s : a ≤ s := by omega
      clear HP HQ hms hmid2 hps
      have HB : Hid (∃ (w5 : World) (d1 : Array Sm), True) := ⟨wr, d, trivial⟩
      clear HB
      have way : (s < m ∧ m < E) ∨ ¬ s < m ∨ (s < m ∧ ¬ m < E) := by omega
      rcases way with ⟨c1, c2⟩ | c1 | ⟨c1, c2⟩
      · have z1 : (s : Int) < m := by omega
        have z2 : (m : Int) < E := by omega
        have HCR := Lib.hid (rotC_any base wr g n c d s m E (.func (.func 25) #[] #[]) ⟨HL.out.2.2.1, HL.out.2.2.2.1, Below.refl _ _⟩ hbs hn c1 c2 (by omega))
        go_wp2_with fail
        refine HCR.out.mono ?_
        rintro e w5 ⟨rfl, d1, hf1, hp1, hr1⟩
        have H1 : Hid ((∀ x, at' d1 x = rotF (at' d) s m E x) ∧ PermIn a b d d1 ∧ RowIs base w w5 g n c d1) := ⟨hf1, hp1 a b ha_s heb hbn, ⟨hr1.1, hr1.2.1, HL.out.2.2.2.2.trans hr1.2.2⟩⟩
        clear hf1 hp1 hr1 HCR HL
        go_upto_region 41 with fail
        as_aux_lemma =>
          have hsmid : s ≤ mid := by have := HX.out; omega
          have hmidE : mid ≤ E := by have := HX.out; omega
          have hamid : a ≤ mid := by omega
          have hmidb : mid ≤ b := by omega
          have HF1 : Hid (So (ltOf cfT) (at' d1) a s ∧ So (ltOf cfT) (at' d1) s mid ∧ So (ltOf cfT) (at' d1) mid E ∧ So (ltOf cfT) (at' d1) E b ∧ ∀ x y, a ≤ x → x < mid → mid ≤ y → y < b → ltOf cfT (at' d1 y) (at' d1 x) = false) := by
            have e : at' d1 = rotF (at' d) s m E := funext H1.out.1
            rw [e]
            exact HH.out
          have hws : base ≤ w5.heap.size := Nat.le_trans hb H1.out.2.2.2.2.size
          by_cases h1 : a < s ∧ s < mid
          · obtain ⟨h1a, h1b⟩ := h1
            have z3 : (a : Int) < s := by omega
            have z4 : (s : Int) < mid := by omega
            have HC1 := Lib.hid (IH.out base w5 g n c d1 a s mid (by have := HX.out; omega) ⟨H1.out.2.2.1, H1.out.2.2.2.1, Below.refl _ _⟩ hws hn h1a h1b (by omega) HF1.out.1 HF1.out.2.1)
            go_wp2_with fail
            refine HC1.out.mono ?_
            rintro e w6 ⟨rfl, d2, p2, s2, r2⟩
            have H2 : Hid (PermIn a mid d1 d2 ∧ So (ltOf cfT) (at' d2) a mid ∧ RowIs base w w6 g n c d2) := ⟨p2, s2, r2.1, r2.2.1, H1.out.2.2.2.2.trans r2.2.2⟩
            clear p2 s2 r2 HC1
            go_upto_region 43 with fail
            have hws6 : base ≤ w6.heap.size := Nat.le_trans hb H2.out.2.2.2.2.size
            by_cases h2 : mid < E ∧ E < b
            · obtain ⟨h2a, h2b⟩ := h2
              have z5 : (mid : Int) < E := by omega
              have z6 : (E : Int) < b := by omega
              have HC2 := Lib.hid (IH.out base w6 g n c d2 mid E b (by have := HX.out; omega) ⟨H2.out.2.2.1, H2.out.2.2.2.1, Below.refl _ _⟩ hws6 hn h2a h2b (by omega) (so_same H2.out.1 (.inr (Nat.le_refl _)) HF1.out.2.2.1) (so_same H2.out.1 (.inr hmidE) HF1.out.2.2.2.1))
              go_wp2_with fail
              refine HC2.out.mono ?_
              rintro e w7 ⟨rfl, d3, p3, s3, r3⟩
              have H3 : Hid (PermIn mid b d2 d3 ∧ So (ltOf cfT) (at' d3) mid b ∧ RowIs base w w7 g n c d3) := ⟨p3, s3, r3.1, r3.2.1, H2.out.2.2.2.2.trans r3.2.2⟩
              clear p3 s3 r3 HC2
              have HZ := Lib.hid (merges_join (by have := H1.out.2.2.1; omega) hamid hmidb HF1.out.2.2.2.2 H2.out.1 H2.out.2.1 H3.out.1 H3.out.2.1)
              go_wp2_with fail
              go_end0
              exact ⟨rfl, d3, permIn_trans _ _ _ a b H1.out.2.1 HZ.out.2, HZ.out.1, H3.out.2.2⟩
            · by_cases h2a : mid < E
              · have z5 : (mid : Int) < E := by omega
                have z6 : (b : Int) ≤ E := by omega
                try (exfalso; omega)
                all_goals
                  have HZ := Lib.hid (merges_join (by have := H1.out.2.2.1; omega) hamid hmidb HF1.out.2.2.2.2 H2.out.1 H2.out.2.1 (permIn_refl d2 mid b) (so_two (so_same H2.out.1 (.inr (Nat.le_refl _)) HF1.out.2.2.1) (so_same H2.out.1 (.inr hmidE) HF1.out.2.2.2.1) hmidE (by omega) h2))
                  clear h2
                  go_wp2_with fail
                  go_end0
                  exact ⟨rfl, d2, permIn_trans _ _ _ a b H1.out.2.1 HZ.out.2, HZ.out.1, H2.out.2.2⟩
              · have z5 : (E : Int) ≤ mid := by omega
                try (exfalso; omega)
                all_goals
                  have HZ := Lib.hid (merges_join (by have := H1.out.2.2.1; omega) hamid hmidb HF1.out.2.2.2.2 H2.out.1 H2.out.2.1 (permIn_refl d2 mid b) (so_two (so_same H2.out.1 (.inr (Nat.le_refl _)) HF1.out.2.2.1) (so_same H2.out.1 (.inr hmidE) HF1.out.2.2.2.1) hmidE (by omega) h2))
                  clear h2
                  go_wp2_with fail
                  go_end0
                  exact ⟨rfl, d2, permIn_trans _ _ _ a b H1.out.2.1 HZ.out.2, HZ.out.1, H2.out.2.2⟩
          · by_cases h1a : a < s
            · have z3 : (a : Int) < s := by omega
              have z4 : (mid : Int) ≤ s := by omega
              try (exfalso; omega)
              all_goals
                have H2 : Hid (PermIn a mid d1 d1 ∧ So (ltOf cfT) (at' d1) a mid ∧ RowIs base w w5 g n c d1) := ⟨permIn_refl _ _ _, so_two HF1.out.1 HF1.out.2.1 ha_s hsmid h1, H1.out.2.2⟩
                clear h1
                go_upto_region 43 with fail
                obtain ⟨w6, hw6⟩ : ∃ x, x = w5 := ⟨_, rfl⟩
                obtain ⟨d2, hd2⟩ : ∃ x, x = d1 := ⟨_, rfl⟩
                rw [← hw6] at H2 ⊢
                have H2' : Hid (PermIn a mid d1 d2 ∧ So (ltOf cfT) (at' d2) a mid ∧ RowIs base w w6 g n c d2) := by rw [hd2]; exact H2
                clear H2 hw6 hd2
                have H2 := H2'
                clear H2'
                have hws6 : base ≤ w6.heap.size := Nat.le_trans hb H2.out.2.2.2.2.size
                by_cases h2 : mid < E ∧ E < b
                · obtain ⟨h2a, h2b⟩ := h2
                  have z5 : (mid : Int) < E := by omega
                  have z6 : (E : Int) < b := by omega
                  have HC2 := Lib.hid (IH.out base w6 g n c d2 mid E b (by have := HX.out; omega) ⟨H2.out.2.2.1, H2.out.2.2.2.1, Below.refl _ _⟩ hws6 hn h2a h2b (by omega) (so_same H2.out.1 (.inr (Nat.le_refl _)) HF1.out.2.2.1) (so_same H2.out.1 (.inr hmidE) HF1.out.2.2.2.1))
                  go_wp2_with fail
                  refine HC2.out.mono ?_
                  rintro e w7 ⟨rfl, d3, p3, s3, r3⟩
                  have H3 : Hid (PermIn mid b d2 d3 ∧ So (ltOf cfT) (at' d3) mid b ∧ RowIs base w w7 g n c d3) := ⟨p3, s3, r3.1, r3.2.1, H2.out.2.2.2.2.trans r3.2.2⟩
                  clear p3 s3 r3 HC2
                  have HZ := Lib.hid (merges_join (by have := H1.out.2.2.1; omega) hamid hmidb HF1.out.2.2.2.2 H2.out.1 H2.out.2.1 H3.out.1 H3.out.2.1)
                  go_wp2_with fail
                  go_end0
                  exact ⟨rfl, d3, permIn_trans _ _ _ a b H1.out.2.1 HZ.out.2, HZ.out.1, H3.out.2.2⟩
                · by_cases h2a : mid < E
                  · have z5 : (mid : Int) < E := by omega
                    have z6 : (b : Int) ≤ E := by omega
                    try (exfalso; omega)
                    all_goals
                      have HZ := Lib.hid (merges_join (by have := H1.out.2.2.1; omega) hamid hmidb HF1.out.2.2.2.2 H2.out.1 H2.out.2.1 (permIn_refl d2 mid b) (so_two (so_same H2.out.1 (.inr (Nat.le_refl _)) HF1.out.2.2.1) (so_same H2.out.1 (.inr hmidE) HF1.out.2.2.2.1) hmidE (by omega) h2))
                      clear h2
                      go_wp2_with fail
                      go_end0
                      exact ⟨rfl, d2, permIn_trans _ _ _ a b H1.out.2.1 HZ.out.2, HZ.out.1, H2.out.2.2⟩
                  · have z5 : (E : Int) ≤ mid := by omega
                    try (exfalso; omega)
                    all_goals
                      have HZ := Lib.hid (merges_join (by have := H1.out.2.2.1; omega) hamid hmidb HF1.out.2.2.2.2 H2.out.1 H2.out.2.1 (permIn_refl d2 mid b) (so_two (so_same H2.out.1 (.inr (Nat.le_refl _)) HF1.out.2.2.1) (so_same H2.out.1 (.inr hmidE) HF1.out.2.2.2.1) hmidE (by omega) h2))
                      clear h2
                      go_wp2_with fail
                      go_end0
                      exact ⟨rfl, d2, permIn_trans _ _ _ a b H1.out.2.1 HZ.out.2, HZ.out.1, H2.out.2.2⟩
            · have z3 : (s : Int) ≤ a := by omega
              try (exfalso; omega)
              all_goals
                have H2 : Hid (PermIn a mid d1 d1 ∧ So (ltOf cfT) (at' d1) a mid ∧ RowIs base w w5 g n c d1) := ⟨permIn_refl _ _ _, so_two HF1.out.1 HF1.out.2.1 ha_s hsmid h1, H1.out.2.2⟩
                clear h1
                go_upto_region 43 with fail
                obtain ⟨w6, hw6⟩ : ∃ x, x = w5 := ⟨_, rfl⟩
                obtain ⟨d2, hd2⟩ : ∃ x, x = d1 := ⟨_, rfl⟩
                rw [← hw6] at H2 ⊢
                have H2' : Hid (PermIn a mid d1 d2 ∧ So (ltOf cfT) (at' d2) a mid ∧ RowIs base w w6 g n c d2) := by rw [hd2]; exact H2
                clear H2 hw6 hd2
                have H2 := H2'
                clear H2'
                have hws6 : base ≤ w6.heap.size := Nat.le_trans hb H2.out.2.2.2.2.size
                by_cases h2 : mid < E ∧ E < b
                · obtain ⟨h2a, h2b⟩ := h2
                  have z5 : (mid : Int) < E := by omega
                  have z6 : (E : Int) < b := by omega
                  have HC2 := Lib.hid (IH.out base w6 g n c d2 mid E b (by have := HX.out; omega) ⟨H2.out.2.2.1, H2.out.2.2.2.1, Below.refl _ _⟩ hws6 hn h2a h2b (by omega) (so_same H2.out.1 (.inr (Nat.le_refl _)) HF1.out.2.2.1) (so_same H2.out.1 (.inr hmidE) HF1.out.2.2.2.1))
                  go_wp2_with fail
                  refine HC2.out.mono ?_
                  rintro e w7 ⟨rfl, d3, p3, s3, r3⟩
                  have H3 : Hid (PermIn mid b d2 d3 ∧ So (ltOf cfT) (at' d3) mid b ∧ RowIs base w w7 g n c d3) := ⟨p3, s3, r3.1, r3.2.1, H2.out.2.2.2.2.trans r3.2.2⟩
                  clear p3 s3 r3 HC2
                  have HZ := Lib.hid (merges_join (by have := H1.out.2.2.1; omega) hamid hmidb HF1.out.2.2.2.2 H2.out.1 H2.out.2.1 H3.out.1 H3.out.2.1)
                  go_wp2_with fail
                  go_end0
                  exact ⟨rfl, d3, permIn_trans _ _ _ a b H1.out.2.1 HZ.out.2, HZ.out.1, H3.out.2.2⟩
                · by_cases h2a : mid < E
                  · have z5 : (mid : Int) < E := by omega
                    have z6 : (b : Int) ≤ E := by omega
                    try (exfalso; omega)
                    all_goals
                      have HZ := Lib.hid (merges_join (by have := H1.out.2.2.1; omega) hamid hmidb HF1.out.2.2.2.2 H2.out.1 H2.out.2.1 (permIn_refl d2 mid b) (so_two (so_same H2.out.1 (.inr (Nat.le_refl _)) HF1.out.2.2.1) (so_same H2.out.1 (.inr hmidE) HF1.out.2.2.2.1) hmidE (by omega) h2))
                      clear h2
                      go_wp2_with fail
                      go_end0
                      exact ⟨rfl, d2, permIn_trans _ _ _ a b H1.out.2.1 HZ.out.2, HZ.out.1, H2.out.2.2⟩
                  · have z5 : (E : Int) ≤ mid := by omega
                    try (exfalso; omega)
                    all_goals
                      have HZ := Lib.hid (merges_join (by have := H1.out.2.2.1; omega) hamid hmidb HF1.out.2.2.2.2 H2.out.1 H2.out.2.1 (permIn_refl d2 mid b) (so_two (so_same H2.out.1 (.inr (Nat.le_refl _)) HF1.out.2.2.1) (so_same H2.out.1 (.inr hmidE) HF1.out.2.2.2.1) hmidE (by omega) h2))
                      clear h2
                      go_wp2_with fail
                      go_end0
                      exact ⟨rfl, d2, permIn_trans _ _ _ a b H1.out.2.1 HZ.out.2, HZ.out.1, H2.out.2.2⟩
      · have z1 : (m : Int) ≤ s := by omega
        have H1 : Hid ((∀ x, at' d x = rotF (at' d) s m E x) ∧ PermIn a b d d ∧ RowIs base w wr g n c d) := ⟨fun x => by rw [show s = m by omega]; exact (rot_none1 _ _ _ _).symm, permIn_refl d a b, HL.out.2.2⟩
        clear HL
        go_upto_region 41 with fail
        obtain ⟨w5, hw5⟩ : ∃ x, x = wr := ⟨_, rfl⟩
        obtain ⟨d1, hd1⟩ : ∃ x, x = d := ⟨_, rfl⟩
        rw [← hw5] at H1 ⊢
        have H1' : Hid ((∀ x, at' d1 x = rotF (at' d) s m E x) ∧ PermIn a b d d1 ∧ RowIs base w w5 g n c d1) := by rw [hd1]; exact H1
        clear H1 hw5 hd1
        have H1 := H1'
        clear H1'
        as_aux_lemma =>
          have hsmid : s ≤ mid := by have := HX.out; omega
          have hmidE : mid ≤ E := by have := HX.out; omega
          have hamid : a ≤ mid := by omega
          have hmidb : mid ≤ b := by omega
          have HF1 : Hid (So (ltOf cfT) (at' d1) a s ∧ So (ltOf cfT) (at' d1) s mid ∧ So (ltOf cfT) (at' d1) mid E ∧ So (ltOf cfT) (at' d1) E b ∧ ∀ x y, a ≤ x → x < mid → mid ≤ y → y < b → ltOf cfT (at' d1 y) (at' d1 x) = false) := by
            have e : at' d1 = rotF (at' d) s m E := funext H1.out.1
            rw [e]
            exact HH.out
          have hws : base ≤ w5.heap.size := Nat.le_trans hb H1.out.2.2.2.2.size
          by_cases h1 : a < s ∧ s < mid
          · obtain ⟨h1a, h1b⟩ := h1
            have z3 : (a : Int) < s := by omega
            have z4 : (s : Int) < mid := by omega
            have HC1 := Lib.hid (IH.out base w5 g n c d1 a s mid (by have := HX.out; omega) ⟨H1.out.2.2.1, H1.out.2.2.2.1, Below.refl _ _⟩ hws hn h1a h1b (by omega) HF1.out.1 HF1.out.2.1)
            go_wp2_with fail
            refine HC1.out.mono ?_
            rintro e w6 ⟨rfl, d2, p2, s2, r2⟩
            have H2 : Hid (PermIn a mid d1 d2 ∧ So (ltOf cfT) (at' d2) a mid ∧ RowIs base w w6 g n c d2) := ⟨p2, s2, r2.1, r2.2.1, H1.out.2.2.2.2.trans r2.2.2⟩
            clear p2 s2 r2 HC1
            go_upto_region 43 with fail
            have hws6 : base ≤ w6.heap.size := Nat.le_trans hb H2.out.2.2.2.2.size
            by_cases h2 : mid < E ∧ E < b
            · obtain ⟨h2a, h2b⟩ := h2
              have z5 : (mid : Int) < E := by omega
              have z6 : (E : Int) < b := by omega
              have HC2 := Lib.hid (IH.out base w6 g n c d2 mid E b (by have := HX.out; omega) ⟨H2.out.2.2.1, H2.out.2.2.2.1, Below.refl _ _⟩ hws6 hn h2a h2b (by omega) (so_same H2.out.1 (.inr (Nat.le_refl _)) HF1.out.2.2.1) (so_same H2.out.1 (.inr hmidE) HF1.out.2.2.2.1))
              go_wp2_with fail
              refine HC2.out.mono ?_
              rintro e w7 ⟨rfl, d3, p3, s3, r3⟩
              have H3 : Hid (PermIn mid b d2 d3 ∧ So (ltOf cfT) (at' d3) mid b ∧ RowIs base w w7 g n c d3) := ⟨p3, s3, r3.1, r3.2.1, H2.out.2.2.2.2.trans r3.2.2⟩
              clear p3 s3 r3 HC2
              have HZ := Lib.hid (merges_join (by have := H1.out.2.2.1; omega) hamid hmidb HF1.out.2.2.2.2 H2.out.1 H2.out.2.1 H3.out.1 H3.out.2.1)
              go_wp2_with fail
              go_end0
              exact ⟨rfl, d3, permIn_trans _ _ _ a b H1.out.2.1 HZ.out.2, HZ.out.1, H3.out.2.2⟩
            · by_cases h2a : mid < E
              · have z5 : (mid : Int) < E := by omega
                have z6 : (b : Int) ≤ E := by omega
                try (exfalso; omega)
                all_goals
                  have HZ := Lib.hid (merges_join (by have := H1.out.2.2.1; omega) hamid hmidb HF1.out.2.2.2.2 H2.out.1 H2.out.2.1 (permIn_refl d2 mid b) (so_two (so_same H2.out.1 (.inr (Nat.le_refl _)) HF1.out.2.2.1) (so_same H2.out.1 (.inr hmidE) HF1.out.2.2.2.1) hmidE (by omega) h2))
                  clear h2
                  go_wp2_with fail
                  go_end0
                  exact ⟨rfl, d2, permIn_trans _ _ _ a b H1.out.2.1 HZ.out.2, HZ.out.1, H2.out.2.2⟩
              · have z5 : (E : Int) ≤ mid := by omega
                try (exfalso; omega)
                all_goals
                  have HZ := Lib.hid (merges_join (by have := H1.out.2.2.1; omega) hamid hmidb HF1.out.2.2.2.2 H2.out.1 H2.out.2.1 (permIn_refl d2 mid b) (so_two (so_same H2.out.1 (.inr (Nat.le_refl _)) HF1.out.2.2.1) (so_same H2.out.1 (.inr hmidE) HF1.out.2.2.2.1) hmidE (by omega) h2))
                  clear h2
                  go_wp2_with fail
                  go_end0
                  exact ⟨rfl, d2, permIn_trans _ _ _ a b H1.out.2.1 HZ.out.2, HZ.out.1, H2.out.2.2⟩
          · by_cases h1a : a < s
            · have z3 : (a : Int) < s := by omega
              have z4 : (mid : Int) ≤ s := by omega
              try (exfalso; omega)
              all_goals
                have H2 : Hid (PermIn a mid d1 d1 ∧ So (ltOf cfT) (at' d1) a mid ∧ RowIs base w w5 g n c d1) := ⟨permIn_refl _ _ _, so_two HF1.out.1 HF1.out.2.1 ha_s hsmid h1, H1.out.2.2⟩
                clear h1
                go_upto_region 43 with fail
                obtain ⟨w6, hw6⟩ : ∃ x, x = w5 := ⟨_, rfl⟩
                obtain ⟨d2, hd2⟩ : ∃ x, x = d1 := ⟨_, rfl⟩
                rw [← hw6] at H2 ⊢
                have H2' : Hid (PermIn a mid d1 d2 ∧ So (ltOf cfT) (at' d2) a mid ∧ RowIs base w w6 g n c d2) := by rw [hd2]; exact H2
                clear H2 hw6 hd2
                have H2 := H2'
                clear H2'
                have hws6 : base ≤ w6.heap.size := Nat.le_trans hb H2.out.2.2.2.2.size
                by_cases h2 : mid < E ∧ E < b
                · obtain ⟨h2a, h2b⟩ := h2
                  have z5 : (mid : Int) < E := by omega
                  have z6 : (E : Int) < b := by omega
                  have HC2 := Lib.hid (IH.out base w6 g n c d2 mid E b (by have := HX.out; omega) ⟨H2.out.2.2.1, H2.out.2.2.2.1, Below.refl _ _⟩ hws6 hn h2a h2b (by omega) (so_same H2.out.1 (.inr (Nat.le_refl _)) HF1.out.2.2.1) (so_same H2.out.1 (.inr hmidE) HF1.out.2.2.2.1))
                  go_wp2_with fail
                  refine HC2.out.mono ?_
                  rintro e w7 ⟨rfl, d3, p3, s3, r3⟩
                  have H3 : Hid (PermIn mid b d2 d3 ∧ So (ltOf cfT) (at' d3) mid b ∧ RowIs base w w7 g n c d3) := ⟨p3, s3, r3.1, r3.2.1, H2.out.2.2.2.2.trans r3.2.2⟩
                  clear p3 s3 r3 HC2
                  have HZ := Lib.hid (merges_join (by have := H1.out.2.2.1; omega) hamid hmidb HF1.out.2.2.2.2 H2.out.1 H2.out.2.1 H3.out.1 H3.out.2.1)
                  go_wp2_with fail
                  go_end0
                  exact ⟨rfl, d3, permIn_trans _ _ _ a b H1.out.2.1 HZ.out.2, HZ.out.1, H3.out.2.2⟩
                · by_cases h2a : mid < E
                  · have z5 : (mid : Int) < E := by omega
                    have z6 : (b : Int) ≤ E := by omega
                    try (exfalso; omega)
                    all_goals
                      have HZ := Lib.hid (merges_join (by have := H1.out.2.2.1; omega) hamid hmidb HF1.out.2.2.2.2 H2.out.1 H2.out.2.1 (permIn_refl d2 mid b) (so_two (so_same H2.out.1 (.inr (Nat.le_refl _)) HF1.out.2.2.1) (so_same H2.out.1 (.inr hmidE) HF1.out.2.2.2.1) hmidE (by omega) h2))
                      clear h2
                      go_wp2_with fail
                      go_end0
                      exact ⟨rfl, d2, permIn_trans _ _ _ a b H1.out.2.1 HZ.out.2, HZ.out.1, H2.out.2.2⟩
                  · have z5 : (E : Int) ≤ mid := by omega
                    try (exfalso; omega)
                    all_goals
                      have HZ := Lib.hid (merges_join (by have := H1.out.2.2.1; omega) hamid hmidb HF1.out.2.2.2.2 H2.out.1 H2.out.2.1 (permIn_refl d2 mid b) (so_two (so_same H2.out.1 (.inr (Nat.le_refl _)) HF1.out.2.2.1) (so_same H2.out.1 (.inr hmidE) HF1.out.2.2.2.1) hmidE (by omega) h2))
                      clear h2
                      go_wp2_with fail
                      go_end0
                      exact ⟨rfl, d2, permIn_trans _ _ _ a b H1.out.2.1 HZ.out.2, HZ.out.1, H2.out.2.2⟩
            · have z3 : (s : Int) ≤ a := by omega
              try (exfalso; omega)
              all_goals
                have H2 : Hid (PermIn a mid d1 d1 ∧ So (ltOf cfT) (at' d1) a mid ∧ RowIs base w w5 g n c d1) := ⟨permIn_refl _ _ _, so_two HF1.out.1 HF1.out.2.1 ha_s hsmid h1, H1.out.2.2⟩
                clear h1
                go_upto_region 43 with fail
                obtain ⟨w6, hw6⟩ : ∃ x, x = w5 := ⟨_, rfl⟩
                obtain ⟨d2, hd2⟩ : ∃ x, x = d1 := ⟨_, rfl⟩
                rw [← hw6] at H2 ⊢
                have H2' : Hid (PermIn a mid d1 d2 ∧ So (ltOf cfT) (at' d2) a mid ∧ RowIs base w w6 g n c d2) := by rw [hd2]; exact H2
                clear H2 hw6 hd2
                have H2 := H2'
                clear H2'
                have hws6 : base ≤ w6.heap.size := Nat.le_trans hb H2.out.2.2.2.2.size
                by_cases h2 : mid < E ∧ E < b
                · obtain ⟨h2a, h2b⟩ := h2
                  have z5 : (mid : Int) < E := by omega
                  have z6 : (E : Int) < b := by omega
                  have HC2 := Lib.hid (IH.out base w6 g n c d2 mid E b (by have := HX.out; omega) ⟨H2.out.2.2.1, H2.out.2.2.2.1, Below.refl _ _⟩ hws6 hn h2a h2b (by omega) (so_same H2.out.1 (.inr (Nat.le_refl _)) HF1.out.2.2.1) (so_same H2.out.1 (.inr hmidE) HF1.out.2.2.2.1))
                  go_wp2_with fail
                  refine HC2.out.mono ?_
                  rintro e w7 ⟨rfl, d3, p3, s3, r3⟩
                  have H3 : Hid (PermIn mid b d2 d3 ∧ So (ltOf cfT) (at' d3) mid b ∧ RowIs base w w7 g n c d3) := ⟨p3, s3, r3.1, r3.2.1, H2.out.2.2.2.2.trans r3.2.2⟩
                  clear p3 s3 r3 HC2
                  have HZ := Lib.hid (merges_join (by have := H1.out.2.2.1; omega) hamid hmidb HF1.out.2.2.2.2 H2.out.1 H2.out.2.1 H3.out.1 H3.out.2.1)
                  go_wp2_with fail
                  go_end0
                  exact ⟨rfl, d3, permIn_trans _ _ _ a b H1.out.2.1 HZ.out.2, HZ.out.1, H3.out.2.2⟩
                · by_cases h2a : mid < E
                  · have z5 : (mid : Int) < E := by omega
                    have z6 : (b : Int) ≤ E := by omega
                    try (exfalso; omega)
                    all_goals
                      have HZ := Lib.hid (merges_join (by have := H1.out.2.2.1; omega) hamid hmidb HF1.out.2.2.2.2 H2.out.1 H2.out.2.1 (permIn_refl d2 mid b) (so_two (so_same H2.out.1 (.inr (Nat.le_refl _)) HF1.out.2.2.1) (so_same H2.out.1 (.inr hmidE) HF1.out.2.2.2.1) hmidE (by omega) h2))
                      clear h2
                      go_wp2_with fail
                      go_end0
                      exact ⟨rfl, d2, permIn_trans _ _ _ a b H1.out.2.1 HZ.out.2, HZ.out.1, H2.out.2.2⟩
                  · have z5 : (E : Int) ≤ mid := by omega
                    try (exfalso; omega)
                    all_goals
                      have HZ := Lib.hid (merges_join (by have := H1.out.2.2.1; omega) hamid hmidb HF1.out.2.2.2.2 H2.out.1 H2.out.2.1 (permIn_refl d2 mid b) (so_two (so_same H2.out.1 (.inr (Nat.le_refl _)) HF1.out.2.2.1) (so_same H2.out.1 (.inr hmidE) HF1.out.2.2.2.1) hmidE (by omega) h2))
                      clear h2
                      go_wp2_with fail
                      go_end0
                      exact ⟨rfl, d2, permIn_trans _ _ _ a b H1.out.2.1 HZ.out.2, HZ.out.1, H2.out.2.2⟩
      · have z1 : (s : Int) < m := by omega
        have z2 : (E : Int) ≤ m := by omega
        have H1 : Hid ((∀ x, at' d x = rotF (at' d) s m E x) ∧ PermIn a b d d ∧ RowIs base w wr g n c d) := ⟨fun x => by rw [show E = m by omega]; exact (rot_none2 _ _ _ _).symm, permIn_refl d a b, HL.out.2.2⟩
        clear HL
        go_upto_region 41 with fail
        obtain ⟨w5, hw5⟩ : ∃ x, x = wr := ⟨_, rfl⟩
        obtain ⟨d1, hd1⟩ : ∃ x, x = d := ⟨_, rfl⟩
        rw [← hw5] at H1 ⊢
        have H1' : Hid ((∀ x, at' d1 x = rotF (at' d) s m E x) ∧ PermIn a b d d1 ∧ RowIs base w w5 g n c d1) := by rw [hd1]; exact H1
        clear H1 hw5 hd1
        have H1 := H1'
        clear H1'
        as_aux_lemma =>
          have hsmid : s ≤ mid := by have := HX.out; omega
          have hmidE : mid ≤ E := by have := HX.out; omega
          have hamid : a ≤ mid := by omega
          have hmidb : mid ≤ b := by omega
          have HF1 : Hid (So (ltOf cfT) (at' d1) a s ∧ So (ltOf cfT) (at' d1) s mid ∧ So (ltOf cfT) (at' d1) mid E ∧ So (ltOf cfT) (at' d1) E b ∧ ∀ x y, a ≤ x → x < mid → mid ≤ y → y < b → ltOf cfT (at' d1 y) (at' d1 x) = false) := by
            have e : at' d1 = rotF (at' d) s m E := funext H1.out.1
            rw [e]
            exact HH.out
          have hws : base ≤ w5.heap.size := Nat.le_trans hb H1.out.2.2.2.2.size
          by_cases h1 : a < s ∧ s < mid
          · obtain ⟨h1a, h1b⟩ := h1
            have z3 : (a : Int) < s := by omega
            have z4 : (s : Int) < mid := by omega
            have HC1 := Lib.hid (IH.out base w5 g n c d1 a s mid (by have := HX.out; omega) ⟨H1.out.2.2.1, H1.out.2.2.2.1, Below.refl _ _⟩ hws hn h1a h1b (by omega) HF1.out.1 HF1.out.2.1)
            go_wp2_with fail
            refine HC1.out.mono ?_
            rintro e w6 ⟨rfl, d2, p2, s2, r2⟩
            have H2 : Hid (PermIn a mid d1 d2 ∧ So (ltOf cfT) (at' d2) a mid ∧ RowIs base w w6 g n c d2) := ⟨p2, s2, r2.1, r2.2.1, H1.out.2.2.2.2.trans r2.2.2⟩
            clear p2 s2 r2 HC1
            go_upto_region 43 with fail
            have hws6 : base ≤ w6.heap.size := Nat.le_trans hb H2.out.2.2.2.2.size
            by_cases h2 : mid < E ∧ E < b
            · obtain ⟨h2a, h2b⟩ := h2
              have z5 : (mid : Int) < E := by omega
              have z6 : (E : Int) < b := by omega
              have HC2 := Lib.hid (IH.out base w6 g n c d2 mid E b (by have := HX.out; omega) ⟨H2.out.2.2.1, H2.out.2.2.2.1, Below.refl _ _⟩ hws6 hn h2a h2b (by omega) (so_same H2.out.1 (.inr (Nat.le_refl _)) HF1.out.2.2.1) (so_same H2.out.1 (.inr hmidE) HF1.out.2.2.2.1))
              go_wp2_with fail
              refine HC2.out.mono ?_
              rintro e w7 ⟨rfl, d3, p3, s3, r3⟩
              have H3 : Hid (PermIn mid b d2 d3 ∧ So (ltOf cfT) (at' d3) mid b ∧ RowIs base w w7 g n c d3) := ⟨p3, s3, r3.1, r3.2.1, H2.out.2.2.2.2.trans r3.2.2⟩
              clear p3 s3 r3 HC2
              have HZ := Lib.hid (merges_join (by have := H1.out.2.2.1; omega) hamid hmidb HF1.out.2.2.2.2 H2.out.1 H2.out.2.1 H3.out.1 H3.out.2.1)
              go_wp2_with fail
              go_end0
              exact ⟨rfl, d3, permIn_trans _ _ _ a b H1.out.2.1 HZ.out.2, HZ.out.1, H3.out.2.2⟩
            · by_cases h2a : mid < E
              · have z5 : (mid : Int) < E := by omega
                have z6 : (b : Int) ≤ E := by omega
                try (exfalso; omega)
                all_goals
                  have HZ := Lib.hid (merges_join (by have := H1.out.2.2.1; omega) hamid hmidb HF1.out.2.2.2.2 H2.out.1 H2.out.2.1 (permIn_refl d2 mid b) (so_two (so_same H2.out.1 (.inr (Nat.le_refl _)) HF1.out.2.2.1) (so_same H2.out.1 (.inr hmidE) HF1.out.2.2.2.1) hmidE (by omega) h2))
                  clear h2
                  go_wp2_with fail
                  go_end0
                  exact ⟨rfl, d2, permIn_trans _ _ _ a b H1.out.2.1 HZ.out.2, HZ.out.1, H2.out.2.2⟩
              · have z5 : (E : Int) ≤ mid := by omega
                try (exfalso; omega)
                all_goals
                  have HZ := Lib.hid (merges_join (by have := H1.out.2.2.1; omega) hamid hmidb HF1.out.2.2.2.2 H2.out.1 H2.out.2.1 (permIn_refl d2 mid b) (so_two (so_same H2.out.1 (.inr (Nat.le_refl _)) HF1.out.2.2.1) (so_same H2.out.1 (.inr hmidE) HF1.out.2.2.2.1) hmidE (by omega) h2))
                  clear h2
                  go_wp2_with fail
                  go_end0
                  exact ⟨rfl, d2, permIn_trans _ _ _ a b H1.out.2.1 HZ.out.2, HZ.out.1, H2.out.2.2⟩
          · by_cases h1a : a < s
            · have z3 : (a : Int) < s := by omega
              have z4 : (mid : Int) ≤ s := by omega
              try (exfalso; omega)
              all_goals
                have H2 : Hid (PermIn a mid d1 d1 ∧ So (ltOf cfT) (at' d1) a mid ∧ RowIs base w w5 g n c d1) := ⟨permIn_refl _ _ _, so_two HF1.out.1 HF1.out.2.1 ha_s hsmid h1, H1.out.2.2⟩
                clear h1
                go_upto_region 43 with fail
                obtain ⟨w6, hw6⟩ : ∃ x, x = w5 := ⟨_, rfl⟩
                obtain ⟨d2, hd2⟩ : ∃ x, x = d1 := ⟨_, rfl⟩
                rw [← hw6] at H2 ⊢
                have H2' : Hid (PermIn a mid d1 d2 ∧ So (ltOf cfT) (at' d2) a mid ∧ RowIs base w w6 g n c d2) := by rw [hd2]; exact H2
                clear H2 hw6 hd2
                have H2 := H2'
                clear H2'
                have hws6 : base ≤ w6.heap.size := Nat.le_trans hb H2.out.2.2.2.2.size
                by_cases h2 : mid < E ∧ E < b
                · obtain ⟨h2a, h2b⟩ := h2
                  have z5 : (mid : Int) < E := by omega
                  have z6 : (E : Int) < b := by omega
                  have HC2 := Lib.hid (IH.out base w6 g n c d2 mid E b (by have := HX.out; omega) ⟨H2.out.2.2.1, H2.out.2.2.2.1, Below.refl _ _⟩ hws6 hn h2a h2b (by omega) (so_same H2.out.1 (.inr (Nat.le_refl _)) HF1.out.2.2.1) (so_same H2.out.1 (.inr hmidE) HF1.out.2.2.2.1))
                  go_wp2_with fail
                  refine HC2.out.mono ?_
                  rintro e w7 ⟨rfl, d3, p3, s3, r3⟩
                  have H3 : Hid (PermIn mid b d2 d3 ∧ So (ltOf cfT) (at' d3) mid b ∧ RowIs base w w7 g n c d3) := ⟨p3, s3, r3.1, r3.2.1, H2.out.2.2.2.2.trans r3.2.2⟩
                  clear p3 s3 r3 HC2
                  have HZ := Lib.hid (merges_join (by have := H1.out.2.2.1; omega) hamid hmidb HF1.out.2.2.2.2 H2.out.1 H2.out.2.1 H3.out.1 H3.out.2.1)
                  go_wp2_with fail
                  go_end0
                  exact ⟨rfl, d3, permIn_trans _ _ _ a b H1.out.2.1 HZ.out.2, HZ.out.1, H3.out.2.2⟩
                · by_cases h2a : mid < E
                  · have z5 : (mid : Int) < E := by omega
                    have z6 : (b : Int) ≤ E := by omega
                    try (exfalso; omega)
                    all_goals
                      have HZ := Lib.hid (merges_join (by have := H1.out.2.2.1; omega) hamid hmidb HF1.out.2.2.2.2 H2.out.1 H2.out.2.1 (permIn_refl d2 mid b) (so_two (so_same H2.out.1 (.inr (Nat.le_refl _)) HF1.out.2.2.1) (so_same H2.out.1 (.inr hmidE) HF1.out.2.2.2.1) hmidE (by omega) h2))
                      clear h2
                      go_wp2_with fail
                      go_end0
                      exact ⟨rfl, d2, permIn_trans _ _ _ a b H1.out.2.1 HZ.out.2, HZ.out.1, H2.out.2.2⟩
                  · have z5 : (E : Int) ≤ mid := by omega
                    try (exfalso; omega)
                    all_goals
                      have HZ := Lib.hid (merges_join (by have := H1.out.2.2.1; omega) hamid hmidb HF1.out.2.2.2.2 H2.out.1 H2.out.2.1 (permIn_refl d2 mid b) (so_two (so_same H2.out.1 (.inr (Nat.le_refl _)) HF1.out.2.2.1) (so_same H2.out.1 (.inr hmidE) HF1.out.2.2.2.1) hmidE (by omega) h2))
                      clear h2
                      go_wp2_with fail
                      go_end0
                      exact ⟨rfl, d2, permIn_trans _ _ _ a b H1.out.2.1 HZ.out.2, HZ.out.1, H2.out.2.2⟩
            · have z3 : (s : Int) ≤ a := by omega
              try (exfalso; omega)
              all_goals
                have H2 : Hid (PermIn a mid d1 d1 ∧ So (ltOf cfT) (at' d1) a mid ∧ RowIs base w w5 g n c d1) := ⟨permIn_refl _ _ _, so_two HF1.out.1 HF1.out.2.1 ha_s hsmid h1, H1.out.2.2⟩
                clear h1
                go_upto_region 43 with fail
                obtain ⟨w6, hw6⟩ : ∃ x, x = w5 := ⟨_, rfl⟩
                obtain ⟨d2, hd2⟩ : ∃ x, x = d1 := ⟨_, rfl⟩
                rw [← hw6] at H2 ⊢
                have H2' : Hid (PermIn a mid d1 d2 ∧ So (ltOf cfT) (at' d2) a mid ∧ RowIs base w w6 g n c d2) := by rw [hd2]; exact H2
                clear H2 hw6 hd2
                have H2 := H2'
                clear H2'
                have hws6 : base ≤ w6.heap.size := Nat.le_trans hb H2.out.2.2.2.2.size
                by_cases h2 : mid < E ∧ E < b
                · obtain ⟨h2a, h2b⟩ := h2
                  have z5 : (mid : Int) < E := by omega
                  have z6 : (E : Int) < b := by omega
                  have HC2 := Lib.hid (IH.out base w6 g n c d2 mid E b (by have := HX.out; omega) ⟨H2.out.2.2.1, H2.out.2.2.2.1, Below.refl _ _⟩ hws6 hn h2a h2b (by omega) (so_same H2.out.1 (.inr (Nat.le_refl _)) HF1.out.2.2.1) (so_same H2.out.1 (.inr hmidE) HF1.out.2.2.2.1))
                  go_wp2_with fail
                  refine HC2.out.mono ?_
                  rintro e w7 ⟨rfl, d3, p3, s3, r3⟩
                  have H3 : Hid (PermIn mid b d2 d3 ∧ So (ltOf cfT) (at' d3) mid b ∧ RowIs base w w7 g n c d3) := ⟨p3, s3, r3.1, r3.2.1, H2.out.2.2.2.2.trans r3.2.2⟩
                  clear p3 s3 r3 HC2
                  have HZ := Lib.hid (merges_join (by have := H1.out.2.2.1; omega) hamid hmidb HF1.out.2.2.2.2 H2.out.1 H2.out.2.1 H3.out.1 H3.out.2.1)
                  go_wp2_with fail
                  go_end0
                  exact ⟨rfl, d3, permIn_trans _ _ _ a b H1.out.2.1 HZ.out.2, HZ.out.1, H3.out.2.2⟩
                · by_cases h2a : mid < E
                  · have z5 : (mid : Int) < E := by omega
                    have z6 : (b : Int) ≤ E := by omega
                    try (exfalso; omega)
                    all_goals
                      have HZ := Lib.hid (merges_join (by have := H1.out.2.2.1; omega) hamid hmidb HF1.out.2.2.2.2 H2.out.1 H2.out.2.1 (permIn_refl d2 mid b) (so_two (so_same H2.out.1 (.inr (Nat.le_refl _)) HF1.out.2.2.1) (so_same H2.out.1 (.inr hmidE) HF1.out.2.2.2.1) hmidE (by omega) h2))
                      clear h2
                      go_wp2_with fail
                      go_end0
                      exact ⟨rfl, d2, permIn_trans _ _ _ a b H1.out.2.1 HZ.out.2, HZ.out.1, H2.out.2.2⟩
                  · have z5 : (E : Int) ≤ mid := by omega
                    try (exfalso; omega)
                    all_goals
                      have HZ := Lib.hid (merges_join (by have := H1.out.2.2.1; omega) hamid hmidb HF1.out.2.2.2.2 H2.out.1 H2.out.2.1 (permIn_refl d2 mid b) (so_two (so_same H2.out.1 (.inr (Nat.le_refl _)) HF1.out.2.2.1) (so_same H2.out.1 (.inr hmidE) HF1.out.2.2.2.1) hmidE (by omega) h2))
                      clear h2
                      go_wp2_with fail
                      go_end0
                      exact ⟨rfl, d2, permIn_trans _ _ _ a b H1.out.2.1 HZ.out.2, HZ.out.1, H2.out.2.2⟩
end Go.Proofs.Yteokepnkgdhkkaa
