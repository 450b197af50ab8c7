/- The walks of the stable sort: a single element merged from behind. -/
import Derived.Test.YteokepnkgdhkkaaRows
import Derived.WalkKit
import Derived.ProofKit
import Derived.Handy
import Derived.Deep.QuietTactic
import Derived.BigQuiet
import Derived.Deep.RegionWith
import Derived.Deep.RegionHeld3
import Derived.Deep.AppendLies
import Derived.WalkLawsBesides
import Derived.WalkSmall
import Derived.Deep.Cut
import Derived.Shelf.SlSortCmp.QuietGrown
import Derived.Test.YteokepnkgdhkkaaSta3
namespace Go.Proofs.Yteokepnkgdhkkaa
open Go.RowKit Go.Sort Go.Shelf
set_option linter.unusedVariables false
set_option maxRecDepth 20000 in
set_option maxHeartbeats 4000000 in
theorem symM_last (base : Nat) (w : World) (g n c : Nat) (d : Array Sm) (a m : Nat) (h : RowIs base w w g n c d) (hb : base ≤ w.heap.size) (hn : n ≤ 100000) (hab : a + 1 < m) (hbn : m + 1 ≤ n) (hs : So (ltOf cfT) (at' d) a m) :
    Calls Try.prog 37 #[.slice (some ⟨g, 0, none⟩) n c, .int .i64 a, .int .i64 m, .int .i64 ((m + 1 : Nat) : Int), .func (.func 25) #[] #[]] w (MergeE base w g n c d a (m + 1)) := by
  have H := Lib.hid h
  have HS := Lib.hid hs
  have hc := (Held.of_own h.2.1).2.1
  have hc2 := (Held.of_own h.2.1).2.2.1
  clear h hs
  obtain ⟨b, hm⟩ : ∃ b, b = m + 1 := ⟨_, rfl⟩
  rw [← hm]
  have hm1 : (b : Int) - (m : Int) = 1 := by omega
  obtain ⟨U, hU⟩ : ∃ U : Nat, (m : Int) - (a : Int) = U := ⟨m - a, by omega⟩
  have hUw : IntKind.i64.wrap (U : Int) = U := by rw [IntKind.wrap_i64]; omega
  have hU1 : ((U : Int) == 1) = false := by simp; omega
  have HM := Lib.hid hm
  clear hm
  have mixed : Try.prog.follows .mixedOrders = true := by kernel_rfl
  go_enter Try.func37, Try.ntmps37
  go_wp2_with fail
  go_loopw [14, 15] (fun iv jv wr => ∃ i j : Nat, iv = .int .i64 i ∧ jv = .int .i64 j ∧ a ≤ i ∧ i ≤ j ∧ j ≤ m ∧ (∀ x, a ≤ x → x < i → ltOf cfT (at' d m) (at' d x) = false) ∧ (∀ x, j ≤ x → x < m → ltOf cfT (at' d m) (at' d x) = true) ∧ RowIs base w wr g n c d) (fun iv jv _ => (intOf jv).toNat - (intOf iv).toNat)
  case atStart => exact ⟨a, m, rfl, rfl, Nat.le_refl _, by omega, Nat.le_refl _, (fun x h1 h2 => by omega), (fun x h1 h2 => by omega), H.out⟩
  case round =>
    obtain ⟨i, j, rfl, rfl, hmi, hij, hjb, hlo, hhi, hr⟩ := hrel
    have HL := Lib.hid (And.intro hlo (And.intro hhi hr))
    clear hlo hhi hr
    by_cases hlt : i < j
    · have hijz : (i : Int) < j := by omega
      obtain ⟨sm, hsm⟩ : ∃ sm : Nat, (i : Int) + (j : Int) = (sm : Int) := ⟨i + j, by omega⟩
      have hs2 : IntKind.i64.wrap (sm : Int) = (sm : Int) := by rw [IntKind.wrap_i64]; omega
      obtain ⟨q, hq⟩ : ∃ q : Nat, (sm : Int) / 2 = (q : Int) := ⟨(i + j) / 2, by omega⟩
      have hqij : i ≤ q ∧ q < j := by omega
      obtain ⟨hiq, hqj⟩ := hqij
      have hq0 : (0 : Int) ≤ q := by omega
      have hqn : (q : Int) < n := by omega
      have ha0 : (0 : Int) ≤ m := by omega
      have han : (m : Int) < n := by omega
      have hq1 : IntKind.i64.wrap ((q : Int) + 1) = (q : Int) + 1 := by rw [IntKind.wrap_i64]; omega
      have hds := HL.out.2.2.1
      have r1 := grown_cells HL.out.2.2 q (by omega)
      have r2 := grown_cells HL.out.2.2 m (by omega)
      have hcg := fun n' os' => topC_any d[m]! d[q]! (Sort.grow (wr.drewN n') os')
      have HLT : Hid (cfT d[m]! d[q]! < 0 ↔ ltOf cfT (at' d m) (at' d q) = true) := by
        show _ ↔ decide _ = true
        rw [decide_eq_true_eq]
        rfl
      generalize d[q]! = x at *
      generalize d[m]! = y at *
      generalize cfT y x = cv at *
      obtain ⟨x0, x1, x2, x3, x4, x5, x6, x7⟩ := x
      obtain ⟨y0, y1, y2, y3, y4, y5, y6, y7⟩ := y
      obtain ⟨c0, c1, c2, c3, c4, c5, c6, c7⟩ := r1
      obtain ⟨d0, d1, d2, d3, d4, d5, d6, d7⟩ := r2
      try simp only at c0 c1 c2 c3 c4 c5 c6 c7 d0 d1 d2 d3 d4 d5 d6 d7
      clear hds
      by_cases hlv : cv < 0
      · have HV := Lib.hid (HLT.out.1 hlv)
        have hdec : decide (cv < 0) = true := by simp; omega
        have hdec2 : (!decide (cv < 0)) = false := by rw [hdec]; rfl
        go_wp2_with fail
        go_quiet_grown (first | (go_at_call 25; refine Calls.grown_of (hcg _ _)))
        have hr2 := Lib.hid (rowIs_grow HL.out.2.2 (by have := HL.out.2.2.2.2.size; omega) nq osq)
        clear c0 c1 c2 c3 c4 c5 c6 c7 d0 d1 d2 d3 d4 d5 d6 d7 hcg
        generalize Sort.grow (wr.drewN nq) osq = w3 at *
        go_wp2_with fail
        go_roundw
        case rel => exact ⟨i, q, rfl, rfl, hmi, hiq, by omega, HL.out.1, (fun x h1 h2 => hi_step2 swoT HS.out (show a ≤ q by omega) HV.out x h1 h2), hr2.out⟩
        case measure => simp [intOf]; omega
      · have HV : Hid (ltOf cfT (at' d m) (at' d q) = false) := by
          cases hh : ltOf cfT (at' d m) (at' d q) with
          | false => rfl
          | true => exact absurd (HLT.out.2 hh) hlv
        have hlv' : 0 ≤ cv := by omega
        have hdec : decide (cv < 0) = false := by simp; omega
        have hdec2 : (!decide (cv < 0)) = true := by rw [hdec]; rfl
        go_wp2_with fail
        go_quiet_grown (first | (go_at_call 25; refine Calls.grown_of (hcg _ _)))
        have hr2 := Lib.hid (rowIs_grow HL.out.2.2 (by have := HL.out.2.2.2.2.size; omega) nq osq)
        clear c0 c1 c2 c3 c4 c5 c6 c7 d0 d1 d2 d3 d4 d5 d6 d7 hcg
        generalize Sort.grow (wr.drewN nq) osq = w3 at *
        go_wp2_with fail
        go_roundw
        case rel => exact ⟨q + 1, j, by go_num, rfl, by omega, by omega, hjb, (fun x h1 h2 => lo_step2 swoT HS.out (by omega) HV.out x h1 (by omega)), HL.out.2.1, hr2.out⟩
        case measure => simp [intOf]; omega
    · obtain rfl : i = j := by omega
      go_wp2_with fail
      obtain ⟨wl, hwl⟩ : ∃ x, x = wr := ⟨_, rfl⟩
      subst hwl
      go_loopw [17] (fun kv wr => ∃ (k : Nat) (dk : Array Sm), kv = .int .i64 k ∧ i ≤ k ∧ k ≤ m ∧ (∀ x, at' dk x = rotF (at' d) k m (m + 1) x) ∧ PermIn a b d dk ∧ RowIs base w wr g n c dk) (fun kv _ => (intOf kv).toNat - i)
      case atStart => exact ⟨m, d, rfl, by omega, Nat.le_refl _, (fun x => (rot_none1 _ _ _ _).symm), permIn_refl d a b, HL.out.2.2⟩
      case round =>
        obtain ⟨k, dk, rfl, hak, hkI, hf, hp, hr⟩ := hrel
        have HM2 := Lib.hid (And.intro hf (And.intro hp hr))
        have hds := hr.1
        have hbs : base ≤ wr.heap.size := Nat.le_trans hb hr.2.2.size
        clear hf hp hr
        by_cases hk : i < k
        · have hkz : (i : Int) < k := by omega
          obtain ⟨Q, hQ⟩ : ∃ Q : Nat, (k : Int) - 1 = Q := ⟨k - 1, by omega⟩
          have hQw : IntKind.i64.wrap (Q : Int) = Q := by rw [IntKind.wrap_i64]; omega
          have hk0 : (0 : Int) ≤ k := by omega
          have hkn : (k : Int) < n := by omega
          have hQ0 : (0 : Int) ≤ Q := by omega
          have hQn : (Q : Int) < n := by omega
          have hne : k ≠ Q := by omega
          have HQ := Lib.hid (show k = Q + 1 by omega)
          have hPd : k < dk.size := by omega
          have hQd : Q < dk.size := by omega
          have r1 := row_cells HM2.out.2.2.2.1 k (by simpa using hPd) (by simpa using hds)
          have r2 := row_cells HM2.out.2.2.2.1 Q (by simpa using hQd) (by simpa using hds)
          have eP : dk.toList[k]'(by simpa using hPd) = dk[k]! := by rw [getElem!_pos dk k hPd]; simp
          have eQ : dk.toList[Q]'(by simpa using hQd) = dk[Q]! := by rw [getElem!_pos dk Q hQd]; simp
          rw [eP] at r1
          rw [eQ] at r2
          have HSw := Lib.hid (own_swap HM2.out.2.2.2.1 hPd hQd)
          clear eP eQ
          generalize dk[k]! = x at *
          generalize dk[Q]! = y at *
          obtain ⟨x0, x1, x2, x3, x4, x5, x6, x7⟩ := x
          obtain ⟨y0, y1, y2, y3, y4, y5, y6, y7⟩ := y
          obtain ⟨⟨c0, c1, c2, c3, c4, c5, c6, c7⟩, hfz⟩ := r1
          obtain ⟨⟨d0, d1, d2, d3, d4, d5, d6, d7⟩, _⟩ := r2
          have f0 := hfz (k * 8 + 0)
          have g0 := hfz (Q * 8 + 0)
          have f1 := hfz (k * 8 + 1)
          have g1 := hfz (Q * 8 + 1)
          have f2 := hfz (k * 8 + 2)
          have g2 := hfz (Q * 8 + 2)
          have f3 := hfz (k * 8 + 3)
          have g3 := hfz (Q * 8 + 3)
          have f4 := hfz (k * 8 + 4)
          have g4 := hfz (Q * 8 + 4)
          have f5 := hfz (k * 8 + 5)
          have g5 := hfz (Q * 8 + 5)
          have f6 := hfz (k * 8 + 6)
          have g6 := hfz (Q * 8 + 6)
          have f7 := hfz (k * 8 + 7)
          have g7 := hfz (Q * 8 + 7)
          simp only [Nat.add_zero] at f0 g0
          try simp only at c0 c1 c2 c3 c4 c5 c6 c7 d0 d1 d2 d3 d4 d5 d6 d7
          clear hfz
          go_wp2_with fail
          go_region
          all_goals go_wp2_with fail
          all_goals
            have hrow := HSw.out.1.drew
            have hbel := (HM2.out.2.2.2.2.grown HSw.out.2 hbs (fun q hq => by
              injection hq with hq
              subst hq
              exact ownBlock_ge HM2.out.2.2.2.1 rfl)).drew
            have hrot : ∀ x, at' (swp dk k Q) x = rotF (at' d) Q m (m + 1) x := fun x => by
              have hf := HM2.out.1
              rw [HQ.out] at hf ⊢
              exact rot_down hf (by omega) (by omega) x
            have hperm := permIn_trans _ _ _ a b HM2.out.2.1 (swp_permIn dk a b k Q (by omega) (by omega) (by omega) (by omega) (by omega))
            have hfin := Lib.hid (And.intro hrot (And.intro hperm (And.intro ((size_swp dk k Q).trans hds) (And.intro hrow hbel))))
            clear hrow hbel hrot hperm
            go_roundw
          case rel => exact ⟨Q, swp dk k Q, rfl, by omega, by omega, hfin.out.1, hfin.out.2.1, hfin.out.2.2⟩
          case measure => simp [intOf]; omega
        · obtain rfl : i = k := by omega
          have hso : So (ltOf cfT) (at' dk) a b := by
            have e : at' dk = rotF (at' d) i m (m + 1) := funext HM2.out.1
            rw [e, HM.out]
            exact insert_down swoT hmi hkI HS.out (fun x h1 h2 => HL.out.1 x h1 h2) (fun x h1 h2 => HL.out.2.1 x h1 h2)
          have HF := Lib.hid hso
          clear hso
          go_wp2_with fail
          go_end0
          exact ⟨rfl, dk, HM2.out.2.1, HF.out, HM2.out.2.2⟩
end Go.Proofs.Yteokepnkgdhkkaa
