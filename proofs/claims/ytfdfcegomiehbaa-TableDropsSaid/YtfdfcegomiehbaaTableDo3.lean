/- The walks of package table, a call of both. -/
import Derived.Test.YtfdfcegomiehbaaRows
import Derived.WalkKit
import Derived.ProofKit
import Derived.Handy
import Derived.Test.YtfdfcegomiehbaaMem
import Derived.Test.YtfdfcegomiehbaaLift
import Derived.Test.YtfdfcegomiehbaaApp
import Derived.Test.YtfdfcegomiehbaaReads
import Derived.Test.YtfdfcegomiehbaaOrd
import Derived.Test.YtfdfcegomiehbaaRow
import Derived.Test.YtfdfcegomiehbaaIns
import Derived.Test.YtfdfcegomiehbaaTable
import Derived.Test.YtfdfcegomiehbaaTable2
import Derived.Test.YtfdfcegomiehbaaInts
import Derived.Test.YtfdfcegomiehbaaTable3
import Derived.Test.YtfdfcegomiehbaaTable4
import Derived.Test.YtfdfcegomiehbaaTableDo
import Derived.Test.YtfdfcegomiehbaaTableDo2
import Derived.Deep.QuietTactic
import Derived.BigQuiet
import Derived.Deep.RegionWith
import Derived.Deep.RegionHeld3
import Derived.Deep.AppendLies
import Derived.WalkLawsBesides
import Derived.WalkSmall
namespace Go.Proofs.Ytfdfcegomiehbaa
open Go.RowKit
set_option linter.unusedVariables false


set_option maxRecDepth 20000 in
set_option maxHeartbeats 4000000 in
theorem do_at (base g cap c : Nat) (most : Int) (A B : Option Addr) (l : List (Int × Int)) ( x y : Int) (w : World) (k : TabAt base w g most A cap l) (hI : Held w 47 2 B l.length c (prs l)) (hm : most ≤ 1024)  :
    Calls Try.prog 8 #[.pointer (some ⟨g, 0, none⟩), .agg #[.slice B l.length c], .int .i64 most, .agg #[.int .i64 6, .int .i64 x, .int .i64 y]] w (Did base g most w) := by
  have hcI := hI.2.1
  have hfew := k.few
  have b5 := (Blk.alloc (Blk.alloc (Blk.new w 30 #[.slice B l.length c]) (.cells #[.int .i64 6, .int .i64 x, .int .i64 y] 34)) (.cells #[.slice none 0 0] 30))
  have b7 := Blk.alloc (Blk.new (w.alloc (.cells #[.slice B l.length c] 30)) 34 #[.int .i64 6, .int .i64 x, .int .i64 y]) (.cells #[.slice none 0 0] 30)
  have b8 := Blk.new ((w.alloc (.cells #[.slice B l.length c] 30)).alloc (.cells #[.int .i64 6, .int .i64 x, .int .i64 y] 34)) 30 #[.slice none 0 0]
  have BW : Below w.heap.size w (((w.alloc (.cells #[.slice B l.length c] 30)).alloc (.cells #[.int .i64 6, .int .i64 x, .int .i64 y] 34)).alloc (.cells #[.slice none 0 0] 30)) := (((Below.refl _ _).alloc (Nat.le_refl _) _).alloc (by simp) _).alloc (by simp; omega) _
  simp only [World.size_alloc] at b7 b8
  have HW := Lib.hid (And.intro (k.below BW) (And.intro (hI.below BW) (And.intro b5 (And.intro b7 (And.intro b8 (BW.mono k.down))))))
  have hs0 := k.lt
  have HBW := Lib.hid (Still.of_below BW)
  have HK := Lib.hid k
  clear b5 b7 b8 BW k hI
  go_enter Try.func8, Try.ntmps8
  go_wp2_with fail
  generalize ((w.alloc (.cells #[.slice B l.length c] 30)).alloc (.cells #[.int .i64 6, .int .i64 x, .int .i64 y] 34)).alloc (.cells #[.slice none 0 0] 30) = W at *
  have HF0 : Hid (Still w W) := HBW.out
  generalize hs00 : w.heap.size = s0 at *
  have HS0 := Lib.hid hs00
  clear hs00
  have hs8 := Blk.lt HW.out.2.2.2.2.1
  refine (rfind_any B l.length c l x W rfl HW.out.2.1).mono ?_
  rintro e w1 ⟨r, rfl, hr, b1⟩
  have HR := Lib.hid hr
  have H1 := Lib.hid (And.intro (HW.out.1.below b1) (And.intro (HW.out.2.1.below b1) (And.intro (Blk.below HW.out.2.2.1 b1 (Blk.lt HW.out.2.2.1)) (And.intro (Blk.below HW.out.2.2.2.1 b1 (Blk.lt HW.out.2.2.2.1)) (And.intro (Blk.below HW.out.2.2.2.2.1 b1 (Blk.lt HW.out.2.2.2.2.1)) (HW.out.2.2.2.2.2.trans (b1.mono HW.out.1.down)))))))
  have hs1 := b1.size
  have HF1 := Lib.hid (HF0.out.trans (Still.of_below b1))
  clear b1 hr
  have c5 := Blk.cell H1.out.2.2.1 0
  have c70 := Blk.cell H1.out.2.2.2.1 0
  have c71 := Blk.cell H1.out.2.2.2.1 1
  have c72 := Blk.cell H1.out.2.2.2.1 2
  simp at c5 c70 c71 c72
  have HP := Lib.hid (at_any base g cap most x A l w1 H1.out.1)
  go_wp2_with fail
  refine HP.out.mono ?_
  rintro e w2 ⟨xx, v, b, rfl, hcase, q, hV⟩
  have b2 : Below w1.heap.size w1 w2 := by rw [hV]; exact below_drewN (Below.refl _ _) q
  clear hV
  have HC := Lib.hid hcase
  have H2 := Lib.hid (And.intro (TabTurn.of_below H1.out.1 b2).1 (And.intro (H1.out.2.1.below b2) (And.intro (Blk.below H1.out.2.2.1 b2 (Blk.lt H1.out.2.2.1)) (And.intro (Blk.below H1.out.2.2.2.1 b2 (Blk.lt H1.out.2.2.2.1)) (And.intro (Blk.below H1.out.2.2.2.2.1 b2 (Blk.lt H1.out.2.2.2.2.1)) (H1.out.2.2.2.2.2.trans (b2.mono H1.out.1.down)))))))
  have hs2 := b2.size
  have HF2 := Lib.hid (HF1.out.trans (Still.of_below b2))
  clear b2 hcase c5 c70 c71 c72
  have c5 := Blk.cell H2.out.2.2.1 0
  have c71 := Blk.cell H2.out.2.2.2.1 1
  have c72 := Blk.cell H2.out.2.2.2.1 2
  have c8 := Blk.cell H2.out.2.2.2.2.1 0
  have f8 := Blk.frozen H2.out.2.2.2.2.1 0
  simp at c5 c71 c72 c8
  rcases HC.out with ⟨rfl, k, hk, rfl, hx, hv⟩ | ⟨rfl, rfl, rfl, ho⟩
  · have hk0 : (0 : Int) ≤ k := by omega
    have hk1 : (k : Int) < l.length := by omega
    have hk2 : ¬ (k : Int) < 0 := by omega
    have hk3 : ¬ (l.length : Int) ≤ k := by omega
    obtain ⟨bq, off, hB, hbq, ci0, ci1⟩ := held_prs H2.out.2.1 hk
    rw [hx] at ci0
    rw [hv] at ci1
    have hfar : ¬ bq = s0 + 1 + 1 := by
      intro e
      obtain ⟨b', o', cur, hB', hc', _⟩ := H2.out.2.1.2.2.2.2 (by omega)
      rw [hB] at hB'
      injection hB' with hB'
      injection hB' with hB'
      subst hB' e
      have := H2.out.2.2.2.2.1
      unfold Blk at this
      rw [this] at hc'
      injection hc' with hc'
      injection hc' with _ hc'
      exact absurd hc' (by decide)
    subst hB
    clear hx hv
    go_wp2_with fail
    go_region_held3 (fun w' => w'.cell? ⟨s0, 0, none⟩ = some (.slice (some ⟨bq, off, none⟩) l.length c) ∧ w'.cell? ⟨s0 + 1, 1, none⟩ = some (.int .i64 (k : Nat)) ∧ w'.cell? ⟨bq, off + k * 2, none⟩ = some (.int .i64 xx) ∧ w'.cell? ⟨bq, off + k * 2 + 1, none⟩ = some (.int .i64 v))
      (first
        | (refine ⟨?_, ?_, ?_, ?_⟩
           · first | exact c5 | exact (World.cell?_setCell_other _ _ _ _ (fun e => by injection e with e1; omega)).trans c5
           · first | exact c71 | exact (World.cell?_setCell_other _ _ _ _ (fun e => by injection e with e1; omega)).trans c71
           · first | exact ci0 | exact (World.cell?_setCell_other _ _ _ _ (fun e => by injection e with e1; omega)).trans ci0
           · first | exact ci1 | exact (World.cell?_setCell_other _ _ _ _ (fun e => by injection e with e1; omega)).trans ci1))
      (fail)
    go_wp2_with fail
    obtain ⟨⟨A2, cap2, k2, _⟩, dI, _, _, d8, B2⟩ := H2.out
    have BR := (Blk.set_ d8 0 (.slice (some ⟨bq, off, none⟩) l.length c))
    simp at BR
    refine ret_cell1_tmp (g := s0 + 1 + 1) rfl rfl rfl BR (fun W' q0 => by simp [go_sem, q0]) ⟨l, A2, cap2, some ⟨bq, off, none⟩, c, rfl, ?_, ?_, ?_⟩
    · exact (k2.only1 d8 (by decide) (by decide) _).drewN 1
    · exact dI.setCell (p := ⟨s0 + 1 + 1, 0, none⟩) (by exact d8) (by decide) _
    · exact ⟨below_drewN (B2.setCell (p := ⟨s0 + 1 + 1, 0, none⟩) (by have := HK.out.bas; simp; omega) _) 1, fun x t cs h h1 h2 => (HF2.out.set_ (b := s0 + 1 + 1) (o := 0) (u := .slice (some ⟨bq, off, none⟩) l.length c) (by have := HS0.out; omega)) x t cs h h1 h2⟩
  · rcases ho with ho | ho
    · go_wp2_with fail
      obtain ⟨⟨A2, cap2, k2, _⟩, dI, _, _, d8, B2⟩ := H2.out
      have BR := Blk.set_ d8 0 (.slice B l.length c)
      simp at BR
      refine ret_cell1_tmp (g := s0 + 1 + 1) rfl rfl rfl BR (fun W' q0 => by simp [go_sem, q0]) ⟨l, A2, cap2, B, c, rfl, ?_, ?_, ?_⟩
      · exact k2.only1 d8 (by decide) (by decide) _
      · exact dI.setCell (p := ⟨s0 + 1 + 1, 0, none⟩) (by exact d8) (by decide) _
      · exact ⟨B2.setCell (by have := HK.out.bas; simp; omega) _, HF2.out.set_ (by have := HS0.out; omega)⟩
    · have ho2 : ¬ x < 0 := by omega
      go_wp2_with fail
      obtain ⟨⟨A2, cap2, k2, _⟩, dI, _, _, d8, B2⟩ := H2.out
      have BR := Blk.set_ d8 0 (.slice B l.length c)
      simp at BR
      refine ret_cell1_tmp (g := s0 + 1 + 1) rfl rfl rfl BR (fun W' q0 => by simp [go_sem, q0]) ⟨l, A2, cap2, B, c, rfl, ?_, ?_, ?_⟩
      · exact k2.only1 d8 (by decide) (by decide) _
      · exact dI.setCell (p := ⟨s0 + 1 + 1, 0, none⟩) (by exact d8) (by decide) _
      · exact ⟨B2.setCell (by have := HK.out.bas; simp; omega) _, HF2.out.set_ (by have := HS0.out; omega)⟩

set_option maxRecDepth 20000 in
set_option maxHeartbeats 4000000 in
theorem do_get (base g cap c : Nat) (most : Int) (A B : Option Addr) (l : List (Int × Int)) (kd x y : Int) (w : World) (k : TabAt base w g most A cap l) (hI : Held w 47 2 B l.length c (prs l)) (hm : most ≤ 1024) (hk : ¬ kd = 0 ∧ ¬ kd = 1 ∧ ¬ kd = 2 ∧ ¬ kd = 3 ∧ ¬ kd = 4 ∧ ¬ kd = 6) :
    Calls Try.prog 8 #[.pointer (some ⟨g, 0, none⟩), .agg #[.slice B l.length c], .int .i64 most, .agg #[.int .i64 kd, .int .i64 x, .int .i64 y]] w (Did base g most w) := by
  have hcI := hI.2.1
  have hfew := k.few
  have b5 := (Blk.alloc (Blk.alloc (Blk.new w 30 #[.slice B l.length c]) (.cells #[.int .i64 kd, .int .i64 x, .int .i64 y] 34)) (.cells #[.slice none 0 0] 30))
  have b7 := Blk.alloc (Blk.new (w.alloc (.cells #[.slice B l.length c] 30)) 34 #[.int .i64 kd, .int .i64 x, .int .i64 y]) (.cells #[.slice none 0 0] 30)
  have b8 := Blk.new ((w.alloc (.cells #[.slice B l.length c] 30)).alloc (.cells #[.int .i64 kd, .int .i64 x, .int .i64 y] 34)) 30 #[.slice none 0 0]
  have BW : Below w.heap.size w (((w.alloc (.cells #[.slice B l.length c] 30)).alloc (.cells #[.int .i64 kd, .int .i64 x, .int .i64 y] 34)).alloc (.cells #[.slice none 0 0] 30)) := (((Below.refl _ _).alloc (Nat.le_refl _) _).alloc (by simp) _).alloc (by simp; omega) _
  simp only [World.size_alloc] at b7 b8
  have HW := Lib.hid (And.intro (k.below BW) (And.intro (hI.below BW) (And.intro b5 (And.intro b7 (And.intro b8 (BW.mono k.down))))))
  have hs0 := k.lt
  have HBW := Lib.hid (Still.of_below BW)
  have HK := Lib.hid k
  clear b5 b7 b8 BW k hI
  go_enter Try.func8, Try.ntmps8
  go_wp2_with fail
  generalize ((w.alloc (.cells #[.slice B l.length c] 30)).alloc (.cells #[.int .i64 kd, .int .i64 x, .int .i64 y] 34)).alloc (.cells #[.slice none 0 0] 30) = W at *
  have HF0 : Hid (Still w W) := HBW.out
  generalize hs00 : w.heap.size = s0 at *
  have HS0 := Lib.hid hs00
  clear hs00
  have hs8 := Blk.lt HW.out.2.2.2.2.1
  refine (rfind_any B l.length c l x W rfl HW.out.2.1).mono ?_
  rintro e w1 ⟨r, rfl, hr, b1⟩
  have HR := Lib.hid hr
  have H1 := Lib.hid (And.intro (HW.out.1.below b1) (And.intro (HW.out.2.1.below b1) (And.intro (Blk.below HW.out.2.2.1 b1 (Blk.lt HW.out.2.2.1)) (And.intro (Blk.below HW.out.2.2.2.1 b1 (Blk.lt HW.out.2.2.2.1)) (And.intro (Blk.below HW.out.2.2.2.2.1 b1 (Blk.lt HW.out.2.2.2.2.1)) (HW.out.2.2.2.2.2.trans (b1.mono HW.out.1.down)))))))
  have hs1 := b1.size
  have HF1 := Lib.hid (HF0.out.trans (Still.of_below b1))
  clear b1 hr
  have c5 := Blk.cell H1.out.2.2.1 0
  have c70 := Blk.cell H1.out.2.2.2.1 0
  have c71 := Blk.cell H1.out.2.2.2.1 1
  have c72 := Blk.cell H1.out.2.2.2.1 2
  simp at c5 c70 c71 c72
  have HP := Lib.hid (get_any base g cap most x A l w1 H1.out.1)
  have e0 : (kd == 0) = false := by simp [hk.1]
  have e1 : (kd == 1) = false := by simp [hk.2.1]
  have e2 : (kd == 2) = false := by simp [hk.2.2.1]
  have e3 : (kd == 3) = false := by simp [hk.2.2.2.1]
  have e4 : (kd == 4) = false := by simp [hk.2.2.2.2.1]
  have e6 : (kd == 6) = false := by simp [hk.2.2.2.2.2]
  clear hk
  go_wp2_with fail
  refine HP.out.mono ?_
  rintro e w2 ⟨v, b, rfl, hcase, b2⟩
  have HC := Lib.hid hcase
  have H2 := Lib.hid (And.intro (TabTurn.of_below H1.out.1 b2).1 (And.intro (H1.out.2.1.below b2) (And.intro (Blk.below H1.out.2.2.1 b2 (Blk.lt H1.out.2.2.1)) (And.intro (Blk.below H1.out.2.2.2.1 b2 (Blk.lt H1.out.2.2.2.1)) (And.intro (Blk.below H1.out.2.2.2.2.1 b2 (Blk.lt H1.out.2.2.2.2.1)) (H1.out.2.2.2.2.2.trans (b2.mono H1.out.1.down)))))))
  have hs2 := b2.size
  have HF2 := Lib.hid (HF1.out.trans (Still.of_below b2))
  clear b2 hcase c5 c70 c71 c72
  have c5 := Blk.cell H2.out.2.2.1 0
  have c71 := Blk.cell H2.out.2.2.2.1 1
  have c72 := Blk.cell H2.out.2.2.2.1 2
  have c8 := Blk.cell H2.out.2.2.2.2.1 0
  have f8 := Blk.frozen H2.out.2.2.2.2.1 0
  simp at c5 c71 c72 c8
  rcases HR.out with ⟨kr, hkr, hxr, rfl⟩ | ⟨rfl, hno⟩
  · obtain ⟨rfl, hv⟩ : b = true ∧ l[kr].2 = v := by
      rcases HC.out with ⟨h1, k2, hk2, hx2, hy2⟩ | ⟨_, _, h1⟩
      · obtain rfl := srt_one HK.out.srt hk2 hkr (hx2.trans hxr.symm)
        exact ⟨h1, hy2⟩
      · exact absurd hxr (h1 kr hkr)
    have hr0 : (0 : Int) ≤ kr := by omega
    have hr1 : (kr : Int) < l.length := by omega
    have hr2 : ¬ (kr : Int) < 0 := by omega
    obtain ⟨bq, off, hB, hbq, ci0, ci1⟩ := held_prs H2.out.2.1 hkr
    rw [hxr] at ci0
    rw [hv] at ci1
    have hfar : ¬ bq = s0 + 1 + 1 := by
      intro e
      obtain ⟨b', o', cur, hB', hc', _⟩ := H2.out.2.1.2.2.2.2 (by omega)
      rw [hB] at hB'
      injection hB' with hB'
      injection hB' with hB'
      subst hB' e
      have := H2.out.2.2.2.2.1
      unfold Blk at this
      rw [this] at hc'
      injection hc' with hc'
      injection hc' with _ hc'
      exact absurd hc' (by decide)
    subst hB
    clear hxr hv
    go_wp2_with fail
    go_region_held3 (fun w' => w'.cell? ⟨s0, 0, none⟩ = some (.slice (some ⟨bq, off, none⟩) l.length c) ∧ w'.cell? ⟨s0 + 1, 1, none⟩ = some (.int .i64 x) ∧ w'.cell? ⟨bq, off + kr * 2, none⟩ = some (.int .i64 x) ∧ w'.cell? ⟨bq, off + kr * 2 + 1, none⟩ = some (.int .i64 v))
      (first
        | (refine ⟨?_, ?_, ?_, ?_⟩
           · first | exact c5 | exact (World.cell?_setCell_other _ _ _ _ (fun e => by injection e with e1; omega)).trans c5
           · first | exact c71 | exact (World.cell?_setCell_other _ _ _ _ (fun e => by injection e with e1; omega)).trans c71
           · first | exact ci0 | exact (World.cell?_setCell_other _ _ _ _ (fun e => by injection e with e1; omega)).trans ci0
           · first | exact ci1 | exact (World.cell?_setCell_other _ _ _ _ (fun e => by injection e with e1; omega)).trans ci1))
      (fail)
    go_wp2_with fail
    obtain ⟨⟨A2, cap2, k2, _⟩, dI, _, _, d8, B2⟩ := H2.out
    have BR := (Blk.set_ d8 0 (.slice (some ⟨bq, off, none⟩) l.length c))
    simp at BR
    refine ret_cell1_tmp (g := s0 + 1 + 1) rfl rfl rfl BR (fun W' q0 => by simp [go_sem, q0]) ⟨l, A2, cap2, some ⟨bq, off, none⟩, c, rfl, ?_, ?_, ?_⟩
    · exact (k2.only1 d8 (by decide) (by decide) _).drewN 1
    · exact dI.setCell (p := ⟨s0 + 1 + 1, 0, none⟩) (by exact d8) (by decide) _
    · exact ⟨below_drewN (B2.setCell (p := ⟨s0 + 1 + 1, 0, none⟩) (by have := HK.out.bas; simp; omega) _) 1, fun x t cs h h1 h2 => (HF2.out.set_ (b := s0 + 1 + 1) (o := 0) (u := .slice (some ⟨bq, off, none⟩) l.length c) (by have := HS0.out; omega)) x t cs h h1 h2⟩
  · obtain ⟨rfl, rfl⟩ : b = false ∧ v = 0 := by
      rcases HC.out with ⟨_, k2, hk2, hx2, _⟩ | ⟨h1, h2, _⟩
      · exact absurd hx2 (hno k2 hk2)
      · exact ⟨h1, h2⟩
    clear hno
    go_wp2_with fail
    obtain ⟨⟨A2, cap2, k2, _⟩, dI, _, _, d8, B2⟩ := H2.out
    have BR := Blk.set_ d8 0 (.slice B l.length c)
    simp at BR
    refine ret_cell1_tmp (g := s0 + 1 + 1) rfl rfl rfl BR (fun W' q0 => by simp [go_sem, q0]) ⟨l, A2, cap2, B, c, rfl, ?_, ?_, ?_⟩
    · exact k2.only1 d8 (by decide) (by decide) _
    · exact dI.setCell (p := ⟨s0 + 1 + 1, 0, none⟩) (by exact d8) (by decide) _
    · exact ⟨B2.setCell (by have := HK.out.bas; simp; omega) _, HF2.out.set_ (by have := HS0.out; omega)⟩

theorem do_any (base g cap c : Nat) (most : Int) (A B : Option Addr) (l : List (Int × Int)) (kd x y : Int) (w : World) (k : TabAt base w g most A cap l) (hI : Held w 47 2 B l.length c (prs l)) (hm : most ≤ 1024) :
    Calls Try.prog 8 #[.pointer (some ⟨g, 0, none⟩), .agg #[.slice B l.length c], .int .i64 most, .agg #[.int .i64 kd, .int .i64 x, .int .i64 y]] w (Did base g most w) := by
  by_cases h0 : kd = 0 ∨ kd = 1 ∨ kd = 2
  · exact do_put base g cap c most A B l kd x y w k hI hm h0
  by_cases h3 : kd = 3
  · subst h3; exact do_set base g cap c most A B l x y w k hI hm
  by_cases h4 : kd = 4
  · subst h4; exact do_del base g cap c most A B l x y w k hI hm
  by_cases h6 : kd = 6
  · subst h6; exact do_at base g cap c most A B l x y w k hI hm
  exact do_get base g cap c most A B l kd x y w k hI hm ⟨by omega, by omega, by omega, h3, h4, h6⟩
end Go.Proofs.Ytfdfcegomiehbaa
