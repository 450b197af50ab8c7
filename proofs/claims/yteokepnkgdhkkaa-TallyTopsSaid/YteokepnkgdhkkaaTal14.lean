/- The walk of tally's Top. -/
import Derived.Test.YteokepnkgdhkkaaRows
import Derived.WalkKit
import Derived.ProofKit
import Derived.Handy
import Derived.Deep.QuietTactic
import Derived.BigQuiet
import Derived.Deep.RegionWith
import Derived.Deep.RegionHeld3
import Derived.Deep.AppendLies
import Derived.WalkLawsBesides
import Derived.WalkSmall
import Derived.Deep.Cut
import Derived.Test.YteokepnkgdhkkaaTal13
namespace Go.Proofs.Yteokepnkgdhkkaa
open Go.RowKit
set_option linter.unusedVariables false
def IntsAre (w : World) (l : List Int) (e : Ending) (w' : World) : Prop :=
  ∃ A c, e = .returned (.slice A l.length c) ∧ Held w' 3 1 A l.length c (nums l) ∧ Below w.heap.size w w'
def TopE (w : World) (l : List Sm) (k : Int) (e : Ending) (w' : World) : Prop :=
  ∃ t : List Sm, t.Perm l ∧ t.Pairwise (fun x y => ltOf cfT y x = false) ∧ IntsAre w ((t.take k.toNat).map (·.st)) e w'
set_option maxHeartbeats 2000000 in
theorem top_any (B n c : Nat) (A : Option Addr) (l : List Sm) (k : Int) (w : World) (h : Sms w B A n c l) (hB : B ≤ w.heap.size) (hnb : n ≤ 5000) (hst : StableFor n) :
    Calls Try.prog 14 #[.slice A n c, .int .i64 k] w (TopE w l k) := by
  obtain ⟨i0, hi0, hz0, hz1, hz2⟩ := info_parts info_S
  obtain ⟨j0, hji, hy0, hy1, hy2⟩ := info_parts info_INT
  have hc := h.cap_ge
  have hc2 := h.cap_le
  have HN := Lib.hid h.len
  have HK := Lib.hid h
  have HT := Lib.hid hst
  clear h hst
  go_enter Try.func14, Try.ntmps14
  go_wp2_with (first
    | (at_builtin
       refine wpList_append_any _ rfl (.const (.slice none 0 0)) (.tmp 8) _ rfl w.heap.size 33 i0 _ 8 56 Try.underlying26 hi0 hz0 hz1 hz2 rfl (by omega) (.slice none 0 0) 0 [] rfl (own_nil _ _ _ _) B A n c (svs l) rfl HK.out.reads svs_one (by simp only [maxLen]; omega) (by omega) (Nat.le_refl _) ?_
       intro v1 w1 hn1 hg1 hd1
       obtain ⟨A1, c1, rfl⟩ := slice_of_own' hn1
       rw [Nat.zero_add, List.nil_append] at hn1
       have b1 : Below w.heap.size w w1 := (Below.refl _ _).grown hg1 (Nat.le_refl _) (fun k hk => by simp [Value.ownBlock] at hk)
       have HS := Lib.hid (HT.out w.heap.size w1 A1 c1 l hn1 HN.out b1.size)
       have HB := Lib.hid b1
       clear hn1 hg1 hd1 b1
       try simp only [Nat.zero_add]))
  refine HS.out.mono ?_
  rintro e w2 ⟨rfl, t, hp, hs, ho, hb⟩
  have htl : t.length = n := by rw [hp.length_eq]; exact HN.out
  have H2 := Lib.hid (And.intro (Sms.of_own ho) (And.intro (HB.out.trans (hb.mono (Nat.le_refl _))) (And.intro hp (And.intro hs htl))))
  clear hp hs ho hb HS HB htl
  have hc1 := H2.out.1.cap_ge
  have hc3 := H2.out.1.cap_le
  have hws := H2.out.2.1.size
  go_wp2_with fail
  go_loopw [6, 7] (fun ov iv wr => ∃ (j d : Nat) (A2 : Option Addr), j ≤ n ∧ j ≤ k.toNat ∧ iv = .int .i64 j ∧ ov = .slice A2 j d ∧ wr.ownsRow w2.heap.size 3 1 (.slice A2 j d) j (nums ((t.take j).map (·.st))) ∧ Below w2.heap.size w2 wr) (fun _ i _ => n - (intOf i).toNat)
  case atStart => exact ⟨0, 0, none, by omega, by omega, rfl, rfl, own_nil _ _ _ _, Below.refl _ _⟩
  case round =>
    obtain ⟨j, d, A2, hj, hjk, rfl, rfl, ho, hb⟩ := hrel
    have HO := Lib.hid (And.intro ho hb)
    have hbs := hb.size
    clear ho hb
    by_cases hgo : (j : Int) < k ∧ j < n
    · obtain ⟨h1, h2⟩ := hgo
      have hjl : j < t.length := by rw [H2.out.2.2.2.2]; exact h2
      obtain ⟨b, off, rfl, hbB, x0, _⟩ := (H2.out.1.below HO.out.2).at_ j hjl
      have hj0 : (0 : Int) ≤ j := by omega
      have hj1 : (j : Int) < n := by omega
      have ht : nums ((t.take (j + 1)).map (·.st)) = nums ((t.take j).map (·.st)) ++ [.int .i64 t[j].st] := by
        rw [List.take_succ_eq_append_getElem hjl, List.map_append, nums_append]
        rfl
      have HX := Lib.hid ht
      clear ht
      generalize t[j].st = y at *
      go_wp2_with (first
        | (at_builtin
           refine wpList_append_any _ rfl (.tmp 23) (.tmp 29) _ rfl w2.heap.size 3 j0 _ 1 8 Try.underlying30 hji hy0 hy1 hy2 rfl (by omega) (.slice A2 j d) j _ rfl (HO.out.1.alloc _) (wr.heap.size + 1) (some ⟨wr.heap.size, 0, none⟩) 1 1 [.int .i64 y] rfl (reads_num wr y) (by simp [Value.oneCell']) (by simp only [maxLen]; omega) (by omega) (by simp; omega) ?_
           intro v3 w3 hn3 hg3 hd3
           obtain ⟨A3, c3, rfl⟩ := slice_of_own' hn3
           have b3 : Below w2.heap.size w2 w3 := (HO.out.2.alloc hbs _).grown hg3 (by simp; omega) (fun k hk => ownBlock_ge HO.out.1 hk)
           rw [← HX.out] at hn3
           have H3 := Lib.hid (And.intro hn3 b3)
           clear hn3 hg3 hd3 b3))
      go_roundw
      case rel => exact ⟨j + 1, c3, A3, by omega, by omega, by go_num, rfl, H3.out.1, H3.out.2⟩
      case measure => simp [intOf]; omega
    · have hlen : ((t.take k.toNat).map (·.st)).length = j := by
        have := H2.out.2.2.2.2
        rw [List.length_map, List.length_take]
        omega
      have heq : t.take j = t.take k.toNat := by
        have := H2.out.2.2.2.2
        rcases Nat.lt_or_ge j n with h | h
        · have : j = k.toNat := by omega
          rw [this]
        · rw [List.take_of_length_le (by omega), List.take_of_length_le (by omega)]
      have ho := HO.out.1
      rw [heq] at ho
      have HF := Lib.hid (And.intro hlen (Held.of_own ho))
      clear hlen heq ho
      by_cases h1 : (j : Int) < k
      · have h2 : ¬ (j : Int) < n := by omega
        have h3 : (n : Int) ≤ j := by omega
        clear hgo
        go_wp2_with fail
        go_ret
        exact ⟨t, H2.out.2.2.1, H2.out.2.2.2.1, A2, d, by rw [HF.out.1]; rfl, by rw [HF.out.1]; exact HF.out.2, H2.out.2.1.trans (HO.out.2.mono hws)⟩
      · clear hgo
        go_wp2_with fail
        go_ret
        exact ⟨t, H2.out.2.2.1, H2.out.2.2.2.1, A2, d, by rw [HF.out.1]; rfl, by rw [HF.out.1]; exact HF.out.2, H2.out.2.1.trans (HO.out.2.mono hws)⟩
end Go.Proofs.Yteokepnkgdhkkaa
