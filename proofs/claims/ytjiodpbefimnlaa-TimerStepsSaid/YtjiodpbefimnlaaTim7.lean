/- The walk of the answer's Set. -/
import Derived.Test.YtjiodpbefimnlaaRows
import Derived.WalkKit
import Derived.ProofKit
import Derived.Handy
import Derived.Test.YtjiodpbefimnlaaTim6
import Derived.Deep.QuietTactic
import Derived.BigQuiet
import Derived.Deep.RegionWith
import Derived.Deep.RegionHeld3
import Derived.Deep.AppendLies
import Derived.Deep.DeepCutAuto
import Derived.WalkLawsBesides
import Derived.WalkSmall
namespace Go.Proofs.Ytjiodpbefimnlaa
open Go.RowKit
set_option linter.unusedVariables false
def goB (l : List (Int × Int)) (p : Int × Int) (k : Nat) : Bool := match l[k]? with
  | none => false
  | some q => decide (tmLt q p)
theorem goB_at {l : List (Int × Int)} {p : Int × Int} {k : Nat} (h : k < l.length) : goB l p k = decide (tmLt l[k] p) := by
  unfold goB
  rw [List.getElem?_eq_getElem h]
theorem goB_end {l : List (Int × Int)} {p : Int × Int} {k : Nat} (h : l.length ≤ k) : goB l p k = false := by
  unfold goB
  rw [List.getElem?_eq_none h]
def SetE (w : World) (l : List (Int × Int)) (x a : Int) (e : Ending) (w' : World) : Prop := ∃ l', IsSet l x a l' ∧ TmsAre w l' e w'
set_option maxRecDepth 20000 in
set_option maxHeartbeats 4000000 in
theorem rset_any (A : Option Addr) (n c : Nat) (l : List (Int × Int)) (x a : Int) (w : World) (hn : n = l.length) (hnb : n ≤ 5000) (h : Held w 41 2 A n c (prs l)) :
    Calls Try.prog 18 #[.slice A n c, .agg #[.int .i64 x, .int .i64 a]] w (SetE w l x a) := by
  obtain ⟨i0, hi0, hz0, hz1, hz2⟩ := info_parts info_TM
  have bx := Blk.new w 41 #[.int .i64 x, .int .i64 a]
  have B0 : Below w.heap.size w (w.alloc (.cells #[.int .i64 x, .int .i64 a] 41)) := (Below.refl _ _).alloc (Nat.le_refl _) _
  have HS := Lib.hid (rstop_any A n c l x _ hn hnb (h.alloc (.cells #[.int .i64 x, .int .i64 a] 41)))
  have HB := Lib.hid (And.intro bx B0)
  clear h bx B0
  unfold SetE
  have hlen : (stopT l x).length ≤ 5000 := Nat.le_trans (stopT_le l x) (by omega)
  have HI : Hid (∀ (l' : List (Int × Int)) (k : Nat), AheadT (stopT l x) (x, a) k → l' = insT (stopT l x) k (x, a) → IsSet l x a l') := fun l' k hk he => ⟨k, hk, he⟩
  clear hn hnb
  go_enter Try.func18, Try.ntmps18
  go_wp2_with fail
  generalize w.alloc (.cells #[.int .i64 x, .int .i64 a] 41) = W at *
  refine HS.out.mono ?_
  rintro e w1 ⟨A1, c1, rfl, h1, b1⟩
  generalize stopT l x = l1 at *
  generalize hn1 : l1.length = n1 at *
  have HN := Lib.hid hn1
  have bx1 := HB.out.1.below b1 HB.out.1.lt
  have B1 := HB.out.2.trans (b1.mono HB.out.2.size)
  have H1 := Lib.hid (And.intro h1 (And.intro bx1 B1))
  have hc := h1.2.1
  have hc2 := h1.2.2.1
  have x0 := Blk.cell bx1 0
  have x1 := Blk.cell bx1 1
  simp at x0 x1
  clear h1 b1 bx1 B1 hn1 HB HS
  go_wp2_with fail
  go_loopw [5] (fun iv wr => ∃ k q : Nat, k ≤ n1 ∧ iv = .int .i64 k ∧ (∀ (j : Nat) (hj : j < l1.length), j < k → tmLt l1[j] (x, a)) ∧ wr = w1.drewN q) (fun i _ => n1 - (intOf i).toNat)
  case atStart => exact ⟨0, 0, by omega, rfl, (fun j _ h => absurd h (by omega)), rfl⟩
  case round =>
    obtain ⟨k, q, hk, rfl, hno, rfl⟩ := hrel
    have HNO := Lib.hid hno
    clear hno
    have hk0 : (0 : Int) ≤ k := by omega
    go_upto_region 3 with fail
    go_cut [44] (fun s44 wx => (∃ q', wx = w1.drewN q') ∧ s44 = .bool (goB l1 (x, a) k))
    case first =>
      by_cases hlt : k < n1
      · have hkl : k < l1.length := by rw [HN.out]; exact hlt
        obtain ⟨b, off, rfl, hb, c0, c1'⟩ := held_prs H1.out.1 hkl
        have HT : Hid ((l1[k].2 < a ∨ (l1[k].2 = a ∧ l1[k].1 < x)) → goB l1 (x, a) k = true) := fun h => by rw [goB_at hkl]; exact decide_eq_true h
        have HF : Hid (¬ (l1[k].2 < a ∨ (l1[k].2 = a ∧ l1[k].1 < x)) → goB l1 (x, a) k = false) := fun h => by rw [goB_at hkl]; exact decide_eq_false h
        have hk1 : (k : Int) < n1 := by omega
        generalize l1[k].1 = y at *
        generalize l1[k].2 = z at *
        rcases Int.lt_trichotomy z a with h1 | h1 | h1
        · have HG := Lib.hid (HT.out (.inl h1))
          go_quiet (fail)
          go_wp2_with fail
          go_meet
          exact ⟨by first | exact ⟨_, rfl⟩ | exact ⟨_, World.drewN_drewN _ _ _⟩, by rw [HG.out]⟩
        · subst h1
          by_cases h2 : y < x
          · have HG := Lib.hid (HT.out (.inr ⟨rfl, h2⟩))
            go_quiet (fail)
            go_wp2_with fail
            go_meet
            exact ⟨by first | exact ⟨_, rfl⟩ | exact ⟨_, World.drewN_drewN _ _ _⟩, by rw [HG.out]⟩
          · have HG := Lib.hid (HF.out (by omega))
            go_quiet (fail)
            go_wp2_with fail
            go_meet
            exact ⟨by first | exact ⟨_, rfl⟩ | exact ⟨_, World.drewN_drewN _ _ _⟩, by rw [HG.out]⟩
        · have HG := Lib.hid (HF.out (by omega))
          have hza : (z == a) = false := by simp; omega
          have hzl : decide (z < a) = false := by simp; omega
          go_quiet (fail)
          go_wp2_with fail
          go_meet
          exact ⟨by first | exact ⟨_, rfl⟩ | exact ⟨_, World.drewN_drewN _ _ _⟩, by rw [HG.out]⟩
      · obtain rfl : n1 = k := by omega
        have HG := Lib.hid (goB_end (p := (x, a)) (show l1.length ≤ n1 by rw [HN.out]; exact Nat.le_refl _))
        go_quiet (fail)
        go_wp2_with fail
        go_meet
        exact ⟨by first | exact ⟨_, rfl⟩ | exact ⟨_, World.drewN_drewN _ _ _⟩, by rw [HG.out]⟩
    case rest =>
      obtain ⟨⟨q', rfl⟩, rfl⟩ := hcut
      cases hg : goB l1 (x, a) k
      · have HA : Hid (AheadT l1 (x, a) k) := by
          refine ⟨by rw [HN.out]; exact hk, HNO.out, fun h => ?_⟩
          rw [goB_at h] at hg
          simpa using hg
        clear hg
        obtain ⟨X, hX1, hX2⟩ := run_from Try.underlying26 (by kernel_rfl : (Try.prog.info? 41).map (·.size) = some 2) A1 n1 c1 k hk hc
        have hU := fun W => run_upto Try.underlying26 (by kernel_rfl : (Try.prog.info? 41).map (·.size) = some 2) A1 n1 c1 k (by omega) W
        have hR1 : Reads (w1.drewN q') w1.heap.size 2 A1 k (prs (l1.take k)) := by
          have h := held_upTo H1.out.1 hk
          rw [prs_take] at h
          exact (reads_of_held h).drewN q'
        have hR2 : Reads (w1.drewN q') w1.heap.size 2 X (n1 - k) (prs (l1.drop k)) := by
          have h := hX2 w1 _ H1.out.1
          rw [prs_drop l1 k (by rw [HN.out]; exact hk)] at h
          exact (reads_of_held h).drewN q'
        have HR := Lib.hid (And.intro hR1 hR2)
        have HBX : Hid (Blk (w1.drewN q') w.heap.size 41 #[.int .i64 x, .int .i64 a] ∧ Below w.heap.size w (w1.drewN q')) := ⟨H1.out.2.1, below_drewN H1.out.2.2 q'⟩
        have hws := HBX.out.2.size
        have hxl := HBX.out.1.lt
        clear hX2 hR1 hR2 x0 x1
        generalize hW5 : w1.drewN q' = w5 at *
        have hs5 : w5.heap.size = w1.heap.size := by rw [← hW5]; rfl
        have HS5 := Lib.hid hs5
        clear hW5 hs5 HNO H1
        go_wp2_with (first
          | (at_builtin
             refine wpList_append_any _ rfl (.tmp 47) (.tmp 50) _ rfl w5.heap.size 41 i0 _ 2 16 Try.underlying26 hi0 hz0 hz1 hz2 rfl (by omega) (.slice (some ⟨w5.heap.size, 0, none⟩) 0 0) 0 [] rfl (own_empty (Blk.new w5 41 #[]) (Nat.le_refl _)) w1.heap.size A1 k c1 _ rfl (HR.out.1.alloc (by rw [HS5.out]; exact Nat.le_refl _) _) (prs_one _) (by simp only [maxLen]; omega) (by omega) (by simp) ?_
             intro v1 w6 hn1 hg1 hd1
             obtain ⟨A6, k6, rfl⟩ := slice_of_own' hn1
             rw [Nat.zero_add, List.nil_append] at hn1
             have b1 : Below w5.heap.size w5 w6 := ((Below.refl _ _).alloc (Nat.le_refl _) _).grown hg1 (by simp) (fun k hk => by simp [Value.ownBlock] at hk; omega)
             have H6 := Lib.hid (And.intro hn1 b1)
             have hs6 := b1.size
             have bx6 := HBX.out.1.below b1 hxl
             have x0 := Blk.cell bx6 0
             have x1 := Blk.cell bx6 1
             simp at x0 x1
             clear hn1 hg1 hd1 b1 bx6)
          | (at_builtin
             refine wpList_append_any _ rfl (.tmp 52) (.tmp 54) _ rfl w5.heap.size 41 i0 _ 2 16 Try.underlying26 hi0 hz0 hz1 hz2 rfl (by omega) (.slice A6 k k6) k _ rfl (H6.out.1.alloc _) (w6.heap.size + 1) (some ⟨w6.heap.size, 0, none⟩) 1 1 [.int .i64 x, .int .i64 a] rfl (reads_pair w6 41 x a) (by simp [Value.oneCell']) (by simp only [maxLen]; omega) (by omega) (by simp; omega) ?_
             intro v2 w7 hn2 hg2 hd2
             obtain ⟨A7, k7, rfl⟩ := slice_of_own' hn2
             have b2 : Below w5.heap.size w5 w7 := (H6.out.2.alloc hs6 _).grown hg2 (by simp; omega) (fun k hk => ownBlock_ge H6.out.1 hk)
             have H7 := Lib.hid (And.intro hn2 b2)
             have hs7 := b2.size
             clear hn2 hg2 hd2 b2)
          | (at_builtin
             refine wpList_append_any _ rfl (.tmp 56) (.tmp 59) _ rfl w5.heap.size 41 i0 _ 2 16 Try.underlying26 hi0 hz0 hz1 hz2 rfl (by omega) (.slice A7 (k + 1) k7) (k + 1) _ rfl H7.out.1 w5.heap.size X (n1 - k) (c1 - k) (prs (l1.drop k)) rfl (((HR.out.2.more (by rw [HS5.out]; exact Nat.le_refl _))).below H7.out.2) (prs_one _) (by simp only [maxLen]; omega) (by omega) hs7 ?_
             intro v3 w8 hn3 hg3 hd3
             obtain ⟨A8, k8, rfl⟩ := slice_of_own' hn3
             have b3 : Below w5.heap.size w5 w8 := H7.out.2.grown hg3 hs7 (fun k hk => ownBlock_ge H7.out.1 hk)
             have H8 := Lib.hid (And.intro hn3 b3)
             clear hn3 hg3 hd3 b3))
        have hil := insT_length (p := (x, a)) HA.out.1
        have hle : k + 1 + (n1 - k) = (insT l1 k (x, a)).length := by rw [hil, HN.out]; omega
        have e1 : prs (insT l1 k (x, a)) = prs (l1.take k) ++ [.int .i64 x, .int .i64 a] ++ prs (l1.drop k) := by simp [insT, prs]
        go_ret
        refine ⟨_, HI.out _ k HA.out rfl, A8, k8, by rw [← hle]; rfl, ?_, HBX.out.2.trans (H8.out.2.mono hws)⟩
        rw [← hle, e1]
        exact Held.of_own H8.out.1
      · have hlt : k < n1 := by
          rcases Nat.lt_or_ge k n1 with h | h
          · exact h
          · rw [goB_end (by rw [HN.out]; exact h)] at hg
            cases hg
        have hkl : k < l1.length := by rw [HN.out]; exact hlt
        have ht : tmLt l1[k] (x, a) := by rw [goB_at hkl] at hg; simpa using hg
        have HT := Lib.hid ht
        clear hg ht
        go_wp2_with fail
        go_roundw
        case rel =>
          refine ⟨k + 1, q', by omega, by go_num, fun j hj hjk => ?_, rfl⟩
          rcases Nat.lt_or_ge j k with h | h
          · exact HNO.out j hj h
          · obtain rfl : j = k := by omega
            exact HT.out
        case measure => simp [intOf]; omega
end Go.Proofs.Ytjiodpbefimnlaa
