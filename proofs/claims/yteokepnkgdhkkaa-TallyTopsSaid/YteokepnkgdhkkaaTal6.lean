/- The walks of the answer's Of, Add. -/
import Derived.Test.YteokepnkgdhkkaaRows
import Derived.WalkKit
import Derived.ProofKit
import Derived.Handy
import Derived.Deep.QuietTactic
import Derived.BigQuiet
import Derived.Deep.RegionWith
import Derived.Deep.RegionHeld3
import Derived.Deep.AppendLies
import Derived.WalkLawsBesides
import Derived.WalkSmall
import Derived.Test.YteokepnkgdhkkaaTalM
import Derived.Test.YteokepnkgdhkkaaTalO
import Derived.Test.YteokepnkgdhkkaaTal5
namespace Go.Proofs.Yteokepnkgdhkkaa
open Go.RowKit
set_option linter.unusedVariables false
def ofL (l : List Mv) : List Sm := gatherL (l.map oneL)
theorem ofL_take (l : List Mv) (k : Nat) (hk : k < l.length) : ofL (l.take (k + 1)) = plusL (ofL (l.take k)) (oneL l[k]) := by
  unfold ofL
  rw [List.take_succ_eq_append_getElem hk, List.map_append, List.map_cons, List.map_nil, gatherL_snoc]
theorem ofL_length (l : List Mv) : (ofL l).length ≤ l.length := by
  have := gatherL_length (l.map oneL)
  rw [List.length_map] at this
  exact this
theorem ofL_bd (l : List Mv) (hl : l.length ≤ 5000) : ∀ a ∈ ofL l, a.bd 576460752303423488 := fun a ha => by
  have h := gatherL_bd (K := 1099511627776) (by omega) (fun b hb => by
    obtain ⟨m, _, rfl⟩ := List.mem_map.1 hb
    exact oneL_bd m) a ha
  refine Sm.bd_mono h ?_
  rw [List.length_map]
  omega
theorem sums_below {w w1 w' : World} {l : List Sm} {e : Ending} (b : Below w.heap.size w w1) (h : SumsAre w1 l e w') : SumsAre w l e w' := by
  obtain ⟨A, c, h1, h2, h3⟩ := h
  exact ⟨A, c, h1, h2, b.trans (h3.mono b.size)⟩
set_option maxHeartbeats 2000000 in
theorem rof_any (B n c : Nat) (A : Option Addr) (l : List Mv) (w : World) (h : Mvs w B A n c l) (hB : B ≤ w.heap.size) (hnb : n ≤ 5000) :
    Calls Try.prog 11 #[.slice A n c] w (SumsAre w (ofL l)) := by
  have hc := h.cap_ge
  have hc2 := h.cap_le
  have HK := Lib.hid h
  have HN := Lib.hid h.len
  clear h
  go_enter Try.func11, Try.ntmps11
  go_wp2_with fail
  go_loopw [3, 4] (fun ov iv wr => ∃ (k m c' : Nat) (A' : Option Addr), k ≤ n ∧ iv = .int .i64 k ∧ ov = .slice A' m c' ∧ Sms wr wr.heap.size A' m c' (ofL (l.take k)) ∧ Below w.heap.size w wr) (fun _ i _ => n - (intOf i).toNat)
  case atStart => exact ⟨0, 0, 0, none, by omega, rfl, rfl, Sms.nil_ _ _, Below.refl _ _⟩
  case round =>
    obtain ⟨k, m, c', A', hk, rfl, rfl, hs, hb⟩ := hrel
    have HS := Lib.hid (And.intro hs hb)
    have hbs := hb.size
    clear hs hb
    by_cases hlt : k < n
    · have hkl : k < l.length := by rw [HN.out]; exact hlt
      obtain ⟨b, off, rfl, hbB, c0, c1, c2, c3, c4⟩ := (HK.out.below (HS.out.2.mono hB)).at_ k hkl
      have hk0 : (0 : Int) ≤ k := by omega
      have hk1 : (k : Int) < n := by omega
      have HT := Lib.hid (ofL_take l k hkl)
      generalize l[k] = y at *
      obtain ⟨wh, st, nn, s, en⟩ := y
      try simp only at c0 c1 c2 c3 c4
      go_wp2_with (first
        | (go_at_call 23
           refine (oneR_any ⟨wh, st, nn, s, en⟩ _).mono ?_
           rintro e w1 ⟨rfl, b1⟩
           have H1 := Lib.hid b1
           have hs1 := b1.size
           clear b1)
        | (go_at_call 22
           refine (rplus_any _ m c' A' _ (oneL ⟨wh, st, nn, s, en⟩) _ (HS.out.1.below H1.out) hs1 (by
             have h1 := HS.out.1.len
             have h2 := ofL_length (l.take k)
             rw [List.length_take] at h2
             omega) (gatherL_SS _) (Sm.bd_mono (oneL_bd _) (by omega)) (ofL_bd _ (by rw [List.length_take]; omega))).mono ?_
           rintro e w2 hq
           rw [← HT.out] at hq
           obtain ⟨A2, c2', rfl, h2, b2⟩ := hq
           have H2 := Lib.hid (And.intro h2 (HS.out.2.trans ((H1.out.trans (b2.mono hs1)).mono hbs)))
           clear h2 b2))
      go_roundw
      case rel => exact ⟨k + 1, _, c2', A2, by omega, by go_num, rfl, H2.out.1, H2.out.2⟩
      case measure => simp [intOf]; omega
    · obtain rfl : n = k := by omega
      have e0 := Lib.hid (show l.take n = l from List.take_of_length_le (by rw [HN.out]; exact Nat.le_refl _))
      go_wp2_with fail
      go_ret
      have hs := HS.out.1
      rw [e0.out] at hs
      have hl := hs.len
      subst hl
      exact ⟨A', c', rfl, hs, HS.out.2⟩
theorem gath_bd (l : List Sm) (hl : l.length ≤ 5000) (h : ∀ a ∈ l, a.bd 1099511627776) : ∀ a ∈ gatherL l, a.bd 576460752303423488 := fun a ha => by
  refine Sm.bd_mono (gatherL_bd (K := 1099511627776) (by omega) h a ha) ?_
  omega
set_option maxHeartbeats 4000000 in
theorem radd_any (B n c B' n' c' : Nat) (A A' : Option Addr) (l l' : List Sm) (w : World) (h : Sms w B A n c l) (hB : B ≤ w.heap.size) (h' : Sms w B' A' n' c' l') (hB' : B' ≤ w.heap.size) (hnb : n ≤ 2000) (hnb' : n' ≤ 2000) (hb : ∀ a ∈ l, a.bd 1099511627776) (hb' : ∀ a ∈ l', a.bd 1099511627776) :
    Calls Try.prog 17 #[.slice A n c, .slice A' n' c'] w (SumsAre w (gatherL (l ++ l'))) := by
  have hc := h.cap_ge
  have hc2 := h.cap_le
  have hc' := h'.cap_ge
  have hc2' := h'.cap_le
  have HK := Lib.hid h
  have HN := Lib.hid h.len
  have HK' := Lib.hid h'
  have HN' := Lib.hid h'.len
  have HB := Lib.hid hb
  have HB' := Lib.hid hb'
  clear h h' hb hb'
  go_enter Try.func17, Try.ntmps17
  go_wp2_with fail
  go_loopw [5, 6] (fun ov iv wr => ∃ (k m d : Nat) (A2 : Option Addr), k ≤ n ∧ iv = .int .i64 k ∧ ov = .slice A2 m d ∧ Sms wr wr.heap.size A2 m d (gatherL (l.take k)) ∧ Below w.heap.size w wr) (fun _ i _ => n - (intOf i).toNat)
  case atStart => exact ⟨0, 0, 0, none, by omega, rfl, rfl, Sms.nil_ _ _, Below.refl _ _⟩
  case round =>
    obtain ⟨k, m, d, A2, hk, rfl, rfl, hs, hb⟩ := hrel
    have HS := Lib.hid (And.intro hs hb)
    have hbs := hb.size
    clear hs hb
    by_cases hlt : k < n
    · have hkl : k < l.length := by rw [HN.out]; exact hlt
      obtain ⟨b, off, rfl, hbB, c0, c1, c2, c3, c4, c5, c6, c7⟩ := (HK.out.below (HS.out.2.mono hB)).at_ k hkl
      have hk0 : (0 : Int) ≤ k := by omega
      have hk1 : (k : Int) < n := by omega
      have HT := Lib.hid (gatherL_take l k hkl)
      have HX := Lib.hid (HB.out l[k] (List.getElem_mem hkl))
      generalize l[k] = y at *
      obtain ⟨x0, x1, x2, x3, x4, x5, x6, x7⟩ := y
      try simp only at c0 c1 c2 c3 c4 c5 c6 c7
      go_wp2_with (first
        | (go_at_call 22
           refine (rplus_any _ m d A2 _ ⟨x0, x1, x2, x3, x4, x5, x6, x7⟩ _ HS.out.1 (Nat.le_refl _) (by
             have h1 := HS.out.1.len
             have h2 := gatherL_length (l.take k)
             rw [List.length_take] at h2
             omega) (gatherL_SS _) (Sm.bd_mono HX.out (by omega)) (gath_bd _ (by rw [List.length_take]; omega) (fun a ha => HB.out a (List.mem_of_mem_take ha)))).mono ?_
           rintro e w2 hq
           rw [← HT.out] at hq
           obtain ⟨A3, c3', rfl, h2, b2⟩ := hq
           have H2 := Lib.hid (And.intro h2 (HS.out.2.trans (b2.mono hbs)))
           clear h2 b2))
      go_roundw
      case rel => exact ⟨k + 1, _, c3', A3, by omega, by go_num, rfl, H2.out.1, H2.out.2⟩
      case measure => simp [intOf]; omega
    · obtain rfl : n = k := by omega
      have e0 := Lib.hid (show l.take n = l from List.take_of_length_le (by rw [HN.out]; exact Nat.le_refl _))
      have hs0 := HS.out.1
      rw [e0.out] at hs0
      have H0 := Lib.hid (And.intro hs0 HS.out.2)
      clear hs0 HS
      go_wp2_with fail
      go_loopw [5, 7] (fun ov iv wx => ∃ (k q e : Nat) (A3 : Option Addr), k ≤ n' ∧ iv = .int .i64 k ∧ ov = .slice A3 q e ∧ Sms wx wx.heap.size A3 q e (gatherL (l ++ l'.take k)) ∧ Below w.heap.size w wx) (fun _ i _ => n' - (intOf i).toNat)
      case atStart => exact ⟨0, m, d, A2, by omega, rfl, rfl, by simpa using H0.out.1, H0.out.2⟩
      case round =>
        obtain ⟨k, q, e, A3, hk, rfl, rfl, hs, hb⟩ := hrel
        have HS := Lib.hid (And.intro hs hb)
        have hbs := hb.size
        clear hs hb
        by_cases hlt : k < n'
        · have hkl : k < l'.length := by rw [HN'.out]; exact hlt
          obtain ⟨b, off, rfl, hbB, c0, c1, c2, c3, c4, c5, c6, c7⟩ := (HK'.out.below (HS.out.2.mono hB')).at_ k hkl
          have hk0 : (0 : Int) ≤ k := by omega
          have hk1 : (k : Int) < n' := by omega
          have ht : gatherL (l ++ l'.take (k + 1)) = plusL (gatherL (l ++ l'.take k)) l'[k] := by
            rw [List.take_succ_eq_append_getElem hkl, ← List.append_assoc, gatherL_snoc]
          have HT := Lib.hid ht
          have HX := Lib.hid (HB'.out l'[k] (List.getElem_mem hkl))
          clear ht
          generalize l'[k] = y at *
          obtain ⟨x0, x1, x2, x3, x4, x5, x6, x7⟩ := y
          try simp only at c0 c1 c2 c3 c4 c5 c6 c7
          go_wp2_with (first
            | (go_at_call 22
               refine (rplus_any _ q e A3 _ ⟨x0, x1, x2, x3, x4, x5, x6, x7⟩ _ HS.out.1 (Nat.le_refl _) (by
                 have h1 := HS.out.1.len
                 have h2 := gatherL_length (l ++ l'.take k)
                 have h3 := HN.out
                 rw [List.length_append, List.length_take] at h2
                 omega) (gatherL_SS _) (Sm.bd_mono HX.out (by omega)) (gath_bd _ (by
                 have h3 := HN.out
                 rw [List.length_append, List.length_take]; omega) (fun a ha => by
                 rcases List.mem_append.1 ha with ha | ha
                 · exact HB.out a ha
                 · exact HB'.out a (List.mem_of_mem_take ha)))).mono ?_
               rintro e w2 hq
               rw [← HT.out] at hq
               obtain ⟨A4, c4', rfl, h2, b2⟩ := hq
               have H2 := Lib.hid (And.intro h2 (HS.out.2.trans (b2.mono hbs)))
               clear h2 b2))
          go_roundw
          case rel => exact ⟨k + 1, _, c4', A4, by omega, by go_num, rfl, H2.out.1, H2.out.2⟩
          case measure => simp [intOf]; omega
        · obtain rfl : n' = k := by omega
          have e1 := Lib.hid (show l'.take n' = l' from List.take_of_length_le (by rw [HN'.out]; exact Nat.le_refl _))
          go_wp2_with fail
          go_ret
          have hs := HS.out.1
          rw [e1.out] at hs
          have hl := hs.len
          subst hl
          exact ⟨A3, e, rfl, hs, HS.out.2⟩
end Go.Proofs.Yteokepnkgdhkkaa
