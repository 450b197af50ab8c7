/- The walks of tally's Of, Add, All, Find. -/
import Derived.Test.YteokepnkgdhkkaaRows
import Derived.WalkKit
import Derived.ProofKit
import Derived.Handy
import Derived.Deep.QuietTactic
import Derived.BigQuiet
import Derived.Deep.RegionWith
import Derived.Deep.RegionHeld3
import Derived.Deep.AppendLies
import Derived.WalkLawsBesides
import Derived.WalkSmall
import Derived.Test.YteokepnkgdhkkaaTal9
import Derived.Test.YteokepnkgdhkkaaTal6
namespace Go.Proofs.Yteokepnkgdhkkaa
open Go.RowKit
set_option linter.unusedVariables false
theorem oneL_st (m : Mv) : (oneL m).st = m.st := by
  unfold oneL
  repeat' split
  all_goals rfl
set_option maxHeartbeats 4000000 in
theorem of_any (B n c : Nat) (A : Option Addr) (l : List Mv) (w : World) (h : Mvs w B A n c l) (hB : B ≤ w.heap.size) (hnb : n ≤ 5000) (hk : ∀ m ∈ l, (Lit.int .i64 m.st).wf = true) :
    Calls Try.prog 10 #[.slice A n c] w (SumsAre w (ofL l)) := by
  obtain ⟨i0, hi0, hz0, hz1, hz2⟩ := info_parts info_S
  have hc := h.cap_ge
  have hc2 := h.cap_le
  have HK := Lib.hid h
  have HN := Lib.hid h.len
  have HW := Lib.hid hk
  clear h hk
  go_enter Try.func10, Try.ntmps10
  go_wp2_with fail
  go_loopw [3, 8] (fun ov iv wr => ∃ (k c' : Nat) (A' : Option Addr), k ≤ n ∧ iv = .int .i64 k ∧ ov = .slice A' k c' ∧ wr.ownsRow w.heap.size 33 8 (.slice A' k c') k (svs ((l.take k).map oneL)) ∧ Below w.heap.size w wr) (fun _ i _ => n - (intOf i).toNat)
  case atStart => exact ⟨0, 0, none, by omega, rfl, rfl, own_nil _ _ _ _, Below.refl _ _⟩
  case round =>
    obtain ⟨k, c', A', hk, rfl, rfl, ho, hb⟩ := hrel
    have HS := Lib.hid (And.intro ho hb)
    have hbs := hb.size
    clear ho hb
    by_cases hlt : k < n
    · have hkl : k < l.length := by rw [HN.out]; exact hlt
      obtain ⟨b, off, rfl, hbB, c0, c1, c2, c3, c4⟩ := (HK.out.below (HS.out.2.mono hB)).at_ k hkl
      have hk0 : (0 : Int) ≤ k := by omega
      have hk1 : (k : Int) < n := by omega
      have ht : svs ((l.take (k + 1)).map oneL) = svs ((l.take k).map oneL) ++ sv (oneL l[k]) := by
        rw [List.take_succ_eq_append_getElem hkl, List.map_append, svs_append]
        simp [svs]
      have HT := Lib.hid ht
      clear ht
      generalize l[k] = y at *
      obtain ⟨wh, st, nn, s, en⟩ := y
      try simp only at c0 c1 c2 c3 c4
      go_wp2_with (first
        | (go_at_call 20
           refine (one_any ⟨wh, st, nn, s, en⟩ _).mono ?_
           rintro e w1 ⟨rfl, b1⟩
           have H1 := Lib.hid b1
           have hs1 := b1.size
           rw [World.size_alloc] at hs1
           clear b1
           generalize oneL ⟨wh, st, nn, s, en⟩ = X at *
           obtain ⟨x0, x1, x2, x3, x4, x5, x6, x7⟩ := X
           unfold sa)
        | (at_builtin
           have ho1 := own_below (HS.out.1.alloc _) H1.out (Nat.le_refl _)
           refine wpList_append_any _ rfl (.tmp 12) (.tmp 15) _ rfl w.heap.size 33 i0 _ 8 56 Try.underlying26 hi0 hz0 hz1 hz2 rfl (by omega) (.slice A' k c') k _ rfl (ho1.alloc (.cells (sa ⟨x0, x1, x2, x3, x4, x5, x6, x7⟩) 33)) (w1.heap.size + 1) (some ⟨w1.heap.size, 0, none⟩) 1 1 (sv ⟨x0, x1, x2, x3, x4, x5, x6, x7⟩) rfl (reads_sum w1 ⟨x0, x1, x2, x3, x4, x5, x6, x7⟩) (sv_one ⟨x0, x1, x2, x3, x4, x5, x6, x7⟩) (by simp only [maxLen]; omega) (by omega) (by simp; omega) ?_
           intro v2 w2 hn2 hg2 hd2
           obtain ⟨A2, k2, rfl⟩ := slice_of_own' hn2
           have b2 : Below w.heap.size w w2 := ((((HS.out.2.alloc hbs _).trans (H1.out.mono (by simp; omega))).alloc (by omega) (.cells (sa ⟨x0, x1, x2, x3, x4, x5, x6, x7⟩) 33)).grown hg2 (by simp; omega) (fun k hk => ownBlock_ge HS.out.1 hk))
           rw [← HT.out] at hn2
           have H2 := Lib.hid (And.intro hn2 b2)
           clear hn2 hg2 hd2 b2 ho1))
      go_roundw
      case rel => exact ⟨k + 1, k2, A2, by omega, by go_num, rfl, H2.out.1, H2.out.2⟩
      case measure => simp [intOf]; omega
    · obtain rfl : n = k := by omega
      have e0 := Lib.hid (show l.take n = l from List.take_of_length_le (by rw [HN.out]; exact Nat.le_refl _))
      have ho := HS.out.1
      rw [e0.out] at ho
      have hg := gather_any wr.heap.size n c' A' (l.map oneL) wr (Sms.of_own ho) (Nat.le_refl _) hnb 1099511627776 (by omega) (by omega) (fun a ha => by
        obtain ⟨m, _, rfl⟩ := List.mem_map.1 ha
        exact oneL_bd m) (fun a ha => by
        obtain ⟨m, hm, rfl⟩ := List.mem_map.1 ha
        rw [oneL_st]
        exact HW.out m hm)
      have HG := Lib.hid hg
      clear hg ho
      go_wp2_with fail
      refine HG.out.mono ?_
      rintro e w2 ⟨A2, c2, rfl, h2, b2⟩
      have H2 : Hid (Sms w2 w2.heap.size A2 (ofL l).length c2 (ofL l) ∧ Below w.heap.size w w2) := ⟨h2, HS.out.2.trans (b2.mono hbs)⟩
      clear h2 b2
      go_wp2_with fail
      go_ret
      exact ⟨A2, c2, rfl, H2.out⟩
end Go.Proofs.Yteokepnkgdhkkaa
