/- The walks of package table, a call of both. -/
import Derived.Test.YtfdfcegomiehbaaRows
import Derived.WalkKit
import Derived.ProofKit
import Derived.Handy
import Derived.Test.YtfdfcegomiehbaaMem
import Derived.Test.YtfdfcegomiehbaaLift
import Derived.Test.YtfdfcegomiehbaaApp
import Derived.Test.YtfdfcegomiehbaaReads
import Derived.Test.YtfdfcegomiehbaaOrd
import Derived.Test.YtfdfcegomiehbaaRow
import Derived.Test.YtfdfcegomiehbaaIns
import Derived.Test.YtfdfcegomiehbaaTable
import Derived.Test.YtfdfcegomiehbaaTable2
import Derived.Test.YtfdfcegomiehbaaInts
import Derived.Test.YtfdfcegomiehbaaTable3
import Derived.Test.YtfdfcegomiehbaaTable4
import Derived.Test.YtfdfcegomiehbaaTableDo
import Derived.Deep.QuietTactic
import Derived.BigQuiet
import Derived.Deep.RegionWith
import Derived.Deep.RegionHeld3
import Derived.Deep.AppendLies
import Derived.WalkLawsBesides
import Derived.WalkSmall
namespace Go.Proofs.Ytfdfcegomiehbaa
open Go.RowKit
set_option linter.unusedVariables false


set_option maxRecDepth 20000 in
set_option maxHeartbeats 4000000 in
theorem do_set (base g cap c : Nat) (most : Int) (A B : Option Addr) (l : List (Int × Int)) ( x y : Int) (w : World) (k : TabAt base w g most A cap l) (hI : Held w 47 2 B l.length c (prs l)) (hm : most ≤ 1024)  :
    Calls Try.prog 8 #[.pointer (some ⟨g, 0, none⟩), .agg #[.slice B l.length c], .int .i64 most, .agg #[.int .i64 3, .int .i64 x, .int .i64 y]] w (Did base g most w) := by
  have hcI := hI.2.1
  have hfew := k.few
  have b5 := (Blk.alloc (Blk.alloc (Blk.new w 30 #[.slice B l.length c]) (.cells #[.int .i64 3, .int .i64 x, .int .i64 y] 34)) (.cells #[.slice none 0 0] 30))
  have b7 := Blk.alloc (Blk.new (w.alloc (.cells #[.slice B l.length c] 30)) 34 #[.int .i64 3, .int .i64 x, .int .i64 y]) (.cells #[.slice none 0 0] 30)
  have b8 := Blk.new ((w.alloc (.cells #[.slice B l.length c] 30)).alloc (.cells #[.int .i64 3, .int .i64 x, .int .i64 y] 34)) 30 #[.slice none 0 0]
  have BW : Below w.heap.size w (((w.alloc (.cells #[.slice B l.length c] 30)).alloc (.cells #[.int .i64 3, .int .i64 x, .int .i64 y] 34)).alloc (.cells #[.slice none 0 0] 30)) := (((Below.refl _ _).alloc (Nat.le_refl _) _).alloc (by simp) _).alloc (by simp; omega) _
  simp only [World.size_alloc] at b7 b8
  have HW := Lib.hid (And.intro (k.below BW) (And.intro (hI.below BW) (And.intro b5 (And.intro b7 (And.intro b8 (BW.mono k.down))))))
  have hs0 := k.lt
  have HBW := Lib.hid (Still.of_below BW)
  have HK := Lib.hid k
  clear b5 b7 b8 BW k hI
  go_enter Try.func8, Try.ntmps8
  go_wp2_with fail
  generalize ((w.alloc (.cells #[.slice B l.length c] 30)).alloc (.cells #[.int .i64 3, .int .i64 x, .int .i64 y] 34)).alloc (.cells #[.slice none 0 0] 30) = W at *
  have HF0 : Hid (Still w W) := HBW.out
  generalize hs00 : w.heap.size = s0 at *
  have HS0 := Lib.hid hs00
  clear hs00
  have hs8 := Blk.lt HW.out.2.2.2.2.1
  refine (rfind_any B l.length c l x W rfl HW.out.2.1).mono ?_
  rintro e w1 ⟨r, rfl, hr, b1⟩
  have HR := Lib.hid hr
  have H1 := Lib.hid (And.intro (HW.out.1.below b1) (And.intro (HW.out.2.1.below b1) (And.intro (Blk.below HW.out.2.2.1 b1 (Blk.lt HW.out.2.2.1)) (And.intro (Blk.below HW.out.2.2.2.1 b1 (Blk.lt HW.out.2.2.2.1)) (And.intro (Blk.below HW.out.2.2.2.2.1 b1 (Blk.lt HW.out.2.2.2.2.1)) (HW.out.2.2.2.2.2.trans (b1.mono HW.out.1.down)))))))
  have hs1 := b1.size
  have HF1 := Lib.hid (HF0.out.trans (Still.of_below b1))
  clear b1 hr
  have c5 := Blk.cell H1.out.2.2.1 0
  have c70 := Blk.cell H1.out.2.2.2.1 0
  have c71 := Blk.cell H1.out.2.2.2.1 1
  have c72 := Blk.cell H1.out.2.2.2.1 2
  simp at c5 c70 c71 c72
  have HP := Lib.hid (set_any base g cap most x y A l w1 H1.out.1)
  go_wp2_with fail
  refine HP.out.mono ?_
  rintro e w2 ⟨cc, l', rfl, t2, hcase⟩
  have HC := Lib.hid hcase
  have d5 := turn_blk H1.out.1 t2 H1.out.2.2.1 (by decide) (by decide)
  have d7 := turn_blk H1.out.1 t2 H1.out.2.2.2.1 (by decide) (by decide)
  have d8 := turn_blk H1.out.1 t2 H1.out.2.2.2.2.1 (by decide) (by decide)
  have dI := H1.out.1.held t2.2 H1.out.2.1 (by decide) (by decide)
  have B2 := H1.out.2.2.2.2.2.trans (t2.below H1.out.1)
  have H2 := Lib.hid (And.intro t2.1 (And.intro dI (And.intro d5 (And.intro d7 (And.intro d8 B2)))))
  have hs2 := t2.2.size
  have HF2 := Lib.hid (HF1.out.trans (Still.turn H1.out.1 t2))
  clear t2 hcase d5 d7 d8 dI B2 c5 c70 c71 c72
  have c5 := Blk.cell H2.out.2.2.1 0
  have c71 := Blk.cell H2.out.2.2.2.1 1
  have c72 := Blk.cell H2.out.2.2.2.1 2
  have c8 := Blk.cell H2.out.2.2.2.2.1 0
  have f8 := Blk.frozen H2.out.2.2.2.2.1 0
  simp at c5 c71 c72 c8
  rcases HR.out with ⟨kr, hkr, hxr, rfl⟩ | ⟨rfl, hno⟩
  · obtain ⟨rfl, rfl⟩ : cc = 0 ∧ chg l kr (x, y) = l' := by
      rcases HC.out with ⟨h1, k2, hk2, hx2, h2⟩ | ⟨_, _, h1⟩
      · obtain rfl := srt_one HK.out.srt hk2 hkr (hx2.trans hxr.symm)
        exact ⟨h1, h2.symm⟩
      · exact absurd hxr (h1 kr hkr)
    have hr0 : (0 : Int) ≤ kr := by omega
    have hr1 : ¬ (kr : Int) < 0 := by omega
    have HX := Lib.hid hxr
    clear hxr
    go_wp2_with fail
    refine (rset_any B l.length c l kr x y w2 rfl (by omega) HK.out.srt hkr HX.out H2.out.2.1).mono ?_
    rintro e w3 ⟨A3, c3, rfl, h3, b3⟩
    obtain ⟨⟨A2, cap2, k2, _⟩, _, _, _, d8, B2⟩ := H2.out
    have H3 := Lib.hid (And.intro (k2.below b3) (And.intro h3 (And.intro (Blk.below d8 b3 (Blk.lt d8)) (B2.trans (b3.mono k2.down)))))
    have HF3 := Lib.hid (HF2.out.trans (Still.of_below b3))
    clear h3 b3 c8 f8 k2 d8 B2
    have c8 := Blk.cell H3.out.2.2.1 0
    have f8 := Blk.frozen H3.out.2.2.1 0
    simp at c8
    go_wp2_with fail
    have BR := Blk.set_ H3.out.2.2.1 0 (.slice A3 (chg l kr (x, y)).length c3)
    simp at BR
    have O3 : Below s0 w3 (w3.setCell ⟨s0 + 1 + 1, 0, none⟩ (.slice A3 (chg l kr (x, y)).length c3)) := (Below.refl _ _).setCell (by simp; omega) _
    refine ret_cell1_tmp (g := s0 + 1 + 1) rfl rfl rfl BR (fun W' q0 => by simp [go_sem, q0]) ⟨chg l kr (x, y), A2, cap2, A3, c3, rfl, ?_, ?_, ?_⟩
    · exact H3.out.1.only1 H3.out.2.2.1 (by decide) (by decide) _
    · exact H3.out.2.1.setCell (p := ⟨s0 + 1 + 1, 0, none⟩) (by exact H3.out.2.2.1) (by decide) _
    · exact ⟨H3.out.2.2.2.trans (O3.mono (by have := HK.out.bas; omega)), HF3.out.set_ (by have := HS0.out; omega)⟩
  · obtain ⟨rfl, rfl⟩ : cc = 7 ∧ l = l' := by
      rcases HC.out with ⟨_, k2, hk2, hx2, _⟩ | ⟨h1, h2, _⟩
      · exact absurd hx2 (hno k2 hk2)
      · exact ⟨h1, h2.symm⟩
    clear hno
    go_wp2_with fail
    obtain ⟨⟨A2, cap2, k2, _⟩, dI, _, _, d8, B2⟩ := H2.out
    have BR := Blk.set_ d8 0 (.slice B l.length c)
    simp at BR
    refine ret_cell1_tmp (g := s0 + 1 + 1) rfl rfl rfl BR (fun W' q0 => by simp [go_sem, q0]) ⟨l, A2, cap2, B, c, rfl, ?_, ?_, ?_⟩
    · exact k2.only1 d8 (by decide) (by decide) _
    · exact dI.setCell (p := ⟨s0 + 1 + 1, 0, none⟩) (by exact d8) (by decide) _
    · exact ⟨B2.setCell (by have := HK.out.bas; simp; omega) _, HF2.out.set_ (by have := HS0.out; omega)⟩

set_option maxRecDepth 20000 in
set_option maxHeartbeats 4000000 in
theorem do_del (base g cap c : Nat) (most : Int) (A B : Option Addr) (l : List (Int × Int)) ( x y : Int) (w : World) (k : TabAt base w g most A cap l) (hI : Held w 47 2 B l.length c (prs l)) (hm : most ≤ 1024)  :
    Calls Try.prog 8 #[.pointer (some ⟨g, 0, none⟩), .agg #[.slice B l.length c], .int .i64 most, .agg #[.int .i64 4, .int .i64 x, .int .i64 y]] w (Did base g most w) := by
  have hcI := hI.2.1
  have hfew := k.few
  have b5 := (Blk.alloc (Blk.alloc (Blk.new w 30 #[.slice B l.length c]) (.cells #[.int .i64 4, .int .i64 x, .int .i64 y] 34)) (.cells #[.slice none 0 0] 30))
  have b7 := Blk.alloc (Blk.new (w.alloc (.cells #[.slice B l.length c] 30)) 34 #[.int .i64 4, .int .i64 x, .int .i64 y]) (.cells #[.slice none 0 0] 30)
  have b8 := Blk.new ((w.alloc (.cells #[.slice B l.length c] 30)).alloc (.cells #[.int .i64 4, .int .i64 x, .int .i64 y] 34)) 30 #[.slice none 0 0]
  have BW : Below w.heap.size w (((w.alloc (.cells #[.slice B l.length c] 30)).alloc (.cells #[.int .i64 4, .int .i64 x, .int .i64 y] 34)).alloc (.cells #[.slice none 0 0] 30)) := (((Below.refl _ _).alloc (Nat.le_refl _) _).alloc (by simp) _).alloc (by simp; omega) _
  simp only [World.size_alloc] at b7 b8
  have HW := Lib.hid (And.intro (k.below BW) (And.intro (hI.below BW) (And.intro b5 (And.intro b7 (And.intro b8 (BW.mono k.down))))))
  have hs0 := k.lt
  have HBW := Lib.hid (Still.of_below BW)
  have HK := Lib.hid k
  clear b5 b7 b8 BW k hI
  go_enter Try.func8, Try.ntmps8
  go_wp2_with fail
  generalize ((w.alloc (.cells #[.slice B l.length c] 30)).alloc (.cells #[.int .i64 4, .int .i64 x, .int .i64 y] 34)).alloc (.cells #[.slice none 0 0] 30) = W at *
  have HF0 : Hid (Still w W) := HBW.out
  generalize hs00 : w.heap.size = s0 at *
  have HS0 := Lib.hid hs00
  clear hs00
  have hs8 := Blk.lt HW.out.2.2.2.2.1
  refine (rfind_any B l.length c l x W rfl HW.out.2.1).mono ?_
  rintro e w1 ⟨r, rfl, hr, b1⟩
  have HR := Lib.hid hr
  have H1 := Lib.hid (And.intro (HW.out.1.below b1) (And.intro (HW.out.2.1.below b1) (And.intro (Blk.below HW.out.2.2.1 b1 (Blk.lt HW.out.2.2.1)) (And.intro (Blk.below HW.out.2.2.2.1 b1 (Blk.lt HW.out.2.2.2.1)) (And.intro (Blk.below HW.out.2.2.2.2.1 b1 (Blk.lt HW.out.2.2.2.2.1)) (HW.out.2.2.2.2.2.trans (b1.mono HW.out.1.down)))))))
  have hs1 := b1.size
  have HF1 := Lib.hid (HF0.out.trans (Still.of_below b1))
  clear b1 hr
  have c5 := Blk.cell H1.out.2.2.1 0
  have c70 := Blk.cell H1.out.2.2.2.1 0
  have c71 := Blk.cell H1.out.2.2.2.1 1
  have c72 := Blk.cell H1.out.2.2.2.1 2
  simp at c5 c70 c71 c72
  have HP := Lib.hid (del_any base g cap most x A l w1 H1.out.1)
  go_wp2_with fail
  refine HP.out.mono ?_
  rintro e w2 ⟨yy, bb, l', rfl, t2, hcase⟩
  have HC := Lib.hid hcase
  have d5 := turn_blk H1.out.1 t2 H1.out.2.2.1 (by decide) (by decide)
  have d7 := turn_blk H1.out.1 t2 H1.out.2.2.2.1 (by decide) (by decide)
  have d8 := turn_blk H1.out.1 t2 H1.out.2.2.2.2.1 (by decide) (by decide)
  have dI := H1.out.1.held t2.2 H1.out.2.1 (by decide) (by decide)
  have B2 := H1.out.2.2.2.2.2.trans (t2.below H1.out.1)
  have H2 := Lib.hid (And.intro t2.1 (And.intro dI (And.intro d5 (And.intro d7 (And.intro d8 B2)))))
  have hs2 := t2.2.size
  have HF2 := Lib.hid (HF1.out.trans (Still.turn H1.out.1 t2))
  clear t2 hcase d5 d7 d8 dI B2 c5 c70 c71 c72
  have c5 := Blk.cell H2.out.2.2.1 0
  have c71 := Blk.cell H2.out.2.2.2.1 1
  have c72 := Blk.cell H2.out.2.2.2.1 2
  have c8 := Blk.cell H2.out.2.2.2.2.1 0
  have f8 := Blk.frozen H2.out.2.2.2.2.1 0
  simp at c5 c71 c72 c8
  rcases HR.out with ⟨kr, hkr, hxr, rfl⟩ | ⟨rfl, hno⟩
  · obtain ⟨rfl, rfl, hy⟩ : bb = true ∧ wo x l = l' ∧ l[kr].2 = yy := by
      rcases HC.out with ⟨h1, k2, hk2, hx2, hy2, h2⟩ | ⟨_, _, _, h1⟩
      · obtain rfl := srt_one HK.out.srt hk2 hkr (hx2.trans hxr.symm)
        exact ⟨h1, (wo_del HK.out.srt hk2 hx2).trans h2.symm, hy2⟩
      · exact absurd hxr (h1 kr hkr)
    have hr0 : (0 : Int) ≤ kr := by omega
    have hr1 : (kr : Int) < l.length := by omega
    have hr2 : ¬ (kr : Int) < 0 := by omega
    have HD := Lib.hid (fun (V : World) (bV : Below w2.heap.size w2 V) => rdel_any B l.length c l x V rfl (by omega) (H2.out.2.1.below bV))
    obtain ⟨bq, off, hB, hbq, _, ci⟩ := held_prs H2.out.2.1 hkr
    rw [hy] at ci
    have hBQ := Lib.hid (And.intro hB hy)
    have hfar : ¬ bq = s0 + 1 + 1 := by
      intro e
      obtain ⟨b', o', cur, hB', hc', _⟩ := H2.out.2.1.2.2.2.2 (by omega)
      rw [hB] at hB'
      injection hB' with hB'
      injection hB' with hB'
      subst hB' e
      have := H2.out.2.2.2.2.1
      unfold Blk at this
      rw [this] at hc'
      injection hc' with hc'
      injection hc' with _ hc'
      exact absurd hc' (by decide)
    subst hB
    clear hxr hy
    obtain ⟨⟨A2, cap2, k2, _⟩, _, _, _, d8, B2⟩ := H2.out
    have hl0 : s0 < w2.heap.size := by omega
    have hl1 : s0 + 1 < w2.heap.size := by omega
    have hl2 : s0 + 1 + 1 < w2.heap.size := by omega
    have HD8 := Lib.hid (And.intro k2 (And.intro d8 B2))
    clear k2 d8 B2
    go_wp2_with fail
    go_region_held3 (fun w' => w'.cell? ⟨s0, 0, none⟩ = some (.slice (some ⟨bq, off, none⟩) l.length c) ∧ w'.cell? ⟨s0 + 1, 1, none⟩ = some (.int .i64 x) ∧ w'.cell? ⟨bq, off + kr * 2 + 1, none⟩ = some (.int .i64 yy))
      (first
        | (refine ⟨?_, ?_, ?_⟩
           · first | exact c5 | exact y5 | exact (World.cell?_setCell_other _ _ _ _ (fun e => by injection e with e1; omega)).trans y5
           · first | exact c71 | exact y7 | exact (World.cell?_setCell_other _ _ _ _ (fun e => by injection e with e1; omega)).trans y7
           · first | exact ci | exact yi | exact (World.cell?_setCell_other _ _ _ _ (fun e => by injection e with e1; omega)).trans yi))
      ((first
        | (go_at_call 13
           refine (HD.out _ (by exact below_drewN (Below.refl _ _) 1)).mono ?_
           rintro e w3 ⟨A3, c3, rfl, h3, b3'⟩
           have b3 : Below w2.heap.size w2 w3 := ⟨b3'.os, b3'.tape, b3'.output, b3'.size, b3'.block⟩
           have y5 := (b3.cell (p := ⟨s0, 0, none⟩) hl0).trans c5
           have y7 := (b3.cell (p := ⟨s0 + 1, 1, none⟩) hl1).trans c71
           have yi := (b3.cell (p := ⟨bq, off + kr * 2 + 1, none⟩) hbq).trans ci
           have HF3 := Lib.hid (HF2.out.trans (Still.of_below b3))
           have H3 := Lib.hid (And.intro (HD8.out.1.below b3) (And.intro h3 (And.intro (Blk.below HD8.out.2.1 b3 (Blk.lt HD8.out.2.1)) (HD8.out.2.2.trans (b3.mono HD8.out.1.down)))))
           have c8' := Blk.cell H3.out.2.2.1 0
           have f8' := Blk.frozen H3.out.2.2.1 0
           simp at c8'
           clear h3 b3 b3')))
    go_wp2_with fail
    have BR := Blk.set_ H3.out.2.2.1 0 (.slice A3 (wo x l).length c3)
    simp at BR
    have O3 : Below s0 w3 (w3.setCell ⟨s0 + 1 + 1, 0, none⟩ (.slice A3 (wo x l).length c3)) := (Below.refl _ _).setCell (by simp; omega) _
    refine ret_cell1_tmp (g := s0 + 1 + 1) rfl rfl rfl BR (fun W' q0 => by simp [go_sem, q0]) ⟨wo x l, A2, cap2, A3, c3, rfl, ?_, ?_, ?_⟩
    · exact H3.out.1.only1 H3.out.2.2.1 (by decide) (by decide) _
    · exact H3.out.2.1.setCell (p := ⟨s0 + 1 + 1, 0, none⟩) (by exact H3.out.2.2.1) (by decide) _
    · exact ⟨H3.out.2.2.2.trans (O3.mono (by have := HK.out.bas; omega)), HF3.out.set_ (by have := HS0.out; omega)⟩
  · obtain ⟨rfl, rfl, rfl⟩ : bb = false ∧ l = l' ∧ yy = 0 := by
      rcases HC.out with ⟨_, k2, hk2, hx2, _⟩ | ⟨h1, h2, h3, _⟩
      · exact absurd hx2 (hno k2 hk2)
      · exact ⟨h1, h3.symm, h2⟩
    clear hno
    go_wp2_with fail
    obtain ⟨⟨A2, cap2, k2, _⟩, dI, _, _, d8, B2⟩ := H2.out
    have BR := Blk.set_ d8 0 (.slice B l.length c)
    simp at BR
    refine ret_cell1_tmp (g := s0 + 1 + 1) rfl rfl rfl BR (fun W' q0 => by simp [go_sem, q0]) ⟨l, A2, cap2, B, c, rfl, ?_, ?_, ?_⟩
    · exact k2.only1 d8 (by decide) (by decide) _
    · exact dI.setCell (p := ⟨s0 + 1 + 1, 0, none⟩) (by exact d8) (by decide) _
    · exact ⟨B2.setCell (by have := HK.out.bas; simp; omega) _, HF2.out.set_ (by have := HS0.out; omega)⟩
end Go.Proofs.Ytfdfcegomiehbaa
