/- The walks of package share: the answer's rounds. -/
import Derived.Test.YtodkifkphhfnpaaRows
import Derived.WalkKit
import Derived.ProofKit
import Derived.Handy
import Derived.Test.YtodkifkphhfnpaaMem
import Derived.Test.YtodkifkphhfnpaaLift
import Derived.Test.YtodkifkphhfnpaaApp
import Derived.Test.YtodkifkphhfnpaaReads
import Derived.Test.YtodkifkphhfnpaaOrd
import Derived.Test.YtodkifkphhfnpaaShLaw
import Derived.Test.YtodkifkphhfnpaaShare
import Derived.Test.YtodkifkphhfnpaaShare2
import Derived.Test.YtodkifkphhfnpaaShare3
import Derived.Test.YtodkifkphhfnpaaShare4
import Derived.Test.YtodkifkphhfnpaaShare5
import Derived.Deep.QuietTactic
import Derived.BigQuiet
import Derived.Deep.RegionWith
import Derived.Deep.RegionHeld3
import Derived.Deep.AppendLies
import Derived.WalkLawsBesides
import Derived.WalkSmall
import Derived.ChangeKeysEq
import Derived.Laws.StructEq
namespace Go.Proofs.Ytodkifkphhfnpaa
open Go.RowKit
set_option linter.unusedVariables false
set_option linter.unusedSimpArgs false






def Onesd (w : World) (D : SH.Deal) (h : Nat → Int) (n : Nat) (e : Ending) (w' : World) : Prop :=
  ∃ A cap, e = .returned (.slice A n cap) ∧ RowI w' A n cap (D.ones h) ∧ Below w.heap.size w w'
theorem RowI.of_own {w : World} {B n cap : Nat} {A : Option Addr} {h : Nat → Int} (o : w.ownsRow B 3 1 (.slice A n cap) n (cellsI h n)) : RowI w A n cap h := by
  refine ⟨?_, fun hn => ?_⟩
  · rcases o.2 with ⟨hv, h0⟩ | ⟨g, cap', cur, hv, _, _, h, _⟩
    · omega
    · injection hv with _ _ hv; omega
  · cases A with
    | none =>
      rcases o.2 with ⟨_, h0⟩ | ⟨g, cap', cur, hv, _⟩
      · omega
      · cases hv
    | some b =>
      obtain ⟨g, rfl, _, i⟩ := IRow.of_own o
      exact ⟨g, rfl, i⟩

set_option maxHeartbeats 4000000 in
theorem rones_any (whole : Int) (v : Value) (A' : Option Addr) (n cap' : Nat) (X Y h : Nat → Int) (w : World) (hc : Claims w v n X Y) (r : RowI w A' n cap' h) (hn : n ≤ 256)
    (hh : ∀ j, j < n → 0 ≤ h j ∧ h j ≤ 2147483647) (hl0 : 0 ≤ (dealOf whole n X Y).left h) (hl1 : (dealOf whole n X Y).left h ≤ 2147483647) :
    Calls Try.prog 20 #[.int .i64 ((dealOf whole n X Y).left h), v, .slice A' n cap'] w (Onesd w (dealOf whole n X Y) h n) := by
  generalize hD : dealOf whole n X Y = D at *
  have hwant : D.want = fun j => wantOf (X j) := by rw [← hD]; rfl
  obtain ⟨⟨A, cap, rfl, hnc, hcap, hA0, hcells⟩, bx, bY⟩ := hc
  obtain ⟨i0, hi0, hz0, hz1, hz2⟩ := info_parts info_I
  have HC := Lib.hid hcells
  have HX := Lib.hid bx
  have HR := Lib.hid r.2
  have HH := Lib.hid hh
  have hol : ∀ m, 0 ≤ D.ol h m ∧ D.ol h m ≤ D.left h := by
    intro m
    induction m with
    | zero => simp only [SH.Deal.ol]; omega
    | succ m ih => simp only [SH.Deal.ol]; split <;> omega
  have HO := Lib.hid hol
  have HW := Lib.hid hwant
  clear hcells bx bY r hh hol hwant hD
  generalize hB : w.heap.size = B at *
  have hBw : B ≤ w.heap.size := by omega
  go_enter Try.func20, Try.ntmps20
  go_wp2_with fail
  go_loopw [0, 7, 8] (fun lv ov iv wr => ∃ (m : Nat) (Ao : Option Addr) (co : Nat), m ≤ n ∧ iv = .int .i64 m ∧ ov = .slice Ao m co ∧ lv = .int .i64 (D.ol h m) ∧ wr.ownsRow B 3 1 (.slice Ao m co) m (cellsI (D.ones h) m) ∧ Below B w wr) (fun _ _ i _ => n - (intOf i).toNat)
  case atStart => exact ⟨0, none, 0, by omega, rfl, rfl, rfl, own_nil _ _ _ _, Below.refl _ _⟩
  case round =>
    obtain ⟨m, Ao, co, hm, rfl, rfl, rfl, ow, rb⟩ := hrel
    have hwr : B ≤ wr.heap.size := by have := rb.size; omega
    by_cases hlt : m < n
    · obtain ⟨b, off, rfl, hbl, c0, c1⟩ := HC.out m hlt
      obtain ⟨gr, rfl, ir⟩ := HR.out (by omega)
      have hx := HX.out m hlt
      have hhm := HH.out m hlt
      have hO := HO.out m
      have x1 := ir.cell hlt
      have hgr := ir.lt
      rw [hB] at hgr
      rw [← rb.cell (p := ⟨b, off + m * 2, none⟩) (by simp; omega)] at c0
      rw [← rb.cell (p := ⟨gr, m, none⟩) (by simp; omega)] at x1
      have hwm : D.want m = wantOf (X m) := by rw [HW.out]
      have OW := Lib.hid ow
      clear ow c1 ir
      by_cases h0 : 0 < D.ol h m
      · by_cases h1 : h m < wantOf (X m)
        · go_wp2_with (first
            | (at_builtin
               refine wpList_append_s _ rfl (.tmp 36) (.tmp 38) _ rfl B 3 i0 _ 1 8 Try.underlying25 hi0 hz0 hz1 hz2 rfl (by omega) (.slice Ao m co) m _ rfl (OW.out.alloc _) ⟨wr.heap.size, 0, none⟩ 1 1 [.int .i64 (h m + 1)] rfl rfl ?c1 ?c2 ?c3 ?c4 ?c5 ?_
               case c1 => exact fun j u hu => World.news_of_block (cs := #[.int .i64 (h m + 1)]) (t := 3) (fr := (0, 0)) (heap_alloc_new wr _) j u hu
               case c2 => intro u hu; simp at hu; subst hu; rfl
               case c3 => simp only [maxLen]; omega
               case c4 => omega
               case c5 => simp; omega
               intro A1 k1 w1 hn1 hg1)
            | (go_at_call 10
               refine (want_any _ _).mono ?_
               rintro e w1 ⟨rfl, rfl⟩))
          go_roundw
          case rel =>
            have OWx := OW.out.alloc (.cells #[.int .i64 (h m + 1)] 3)
            refine ⟨m + 1, A1, k1, by omega, by go_num, rfl, ?_, ?_, ?_⟩
            · show Value.int .i64 (D.ol h m - 1) = _; simp only [SH.Deal.ol]; rw [if_pos ⟨h0, by omega⟩]
            · rw [cellsI_succ, show D.ones h m = h m + 1 by unfold SH.Deal.ones; rw [if_pos ⟨h0, by omega⟩]]; exact hn1
            · exact (rb.alloc (by omega) _).grown hg1 (by simp; omega) (fun k hk => ownBlock_ge OWx hk)
          case measure => simp [intOf]; omega
        · go_wp2_with (first
            | (at_builtin
               refine wpList_append_s _ rfl (.tmp 36) (.tmp 38) _ rfl B 3 i0 _ 1 8 Try.underlying25 hi0 hz0 hz1 hz2 rfl (by omega) (.slice Ao m co) m _ rfl (OW.out.alloc _) ⟨wr.heap.size, 0, none⟩ 1 1 [.int .i64 (h m)] rfl rfl ?c1 ?c2 ?c3 ?c4 ?c5 ?_
               case c1 => exact fun j u hu => World.news_of_block (cs := #[.int .i64 (h m)]) (t := 3) (fr := (0, 0)) (heap_alloc_new wr _) j u hu
               case c2 => intro u hu; simp at hu; subst hu; rfl
               case c3 => simp only [maxLen]; omega
               case c4 => omega
               case c5 => simp; omega
               intro A1 k1 w1 hn1 hg1)
            | (go_at_call 10
               refine (want_any _ _).mono ?_
               rintro e w1 ⟨rfl, rfl⟩))
          go_roundw
          case rel =>
            have OWx := OW.out.alloc (.cells #[.int .i64 (h m)] 3)
            refine ⟨m + 1, A1, k1, by omega, by go_num, rfl, ?_, ?_, ?_⟩
            · show Value.int .i64 (D.ol h m) = _; simp only [SH.Deal.ol]; rw [if_neg (by omega)]
            · rw [cellsI_succ, show D.ones h m = h m by unfold SH.Deal.ones; rw [if_neg (by omega)]]; exact hn1
            · exact (rb.alloc (by omega) _).grown hg1 (by simp; omega) (fun k hk => ownBlock_ge OWx hk)
          case measure => simp [intOf]; omega
      · go_wp2_with (first
          | (at_builtin
             refine wpList_append_s _ rfl (.tmp 36) (.tmp 38) _ rfl B 3 i0 _ 1 8 Try.underlying25 hi0 hz0 hz1 hz2 rfl (by omega) (.slice Ao m co) m _ rfl (OW.out.alloc _) ⟨wr.heap.size, 0, none⟩ 1 1 [.int .i64 (h m)] rfl rfl ?c1 ?c2 ?c3 ?c4 ?c5 ?_
             case c1 => exact fun j u hu => World.news_of_block (cs := #[.int .i64 (h m)]) (t := 3) (fr := (0, 0)) (heap_alloc_new wr _) j u hu
             case c2 => intro u hu; simp at hu; subst hu; rfl
             case c3 => simp only [maxLen]; omega
             case c4 => omega
             case c5 => simp; omega
             intro A1 k1 w1 hn1 hg1)
          | (go_at_call 10
             refine (want_any _ _).mono ?_
             rintro e w1 ⟨rfl, rfl⟩))
        go_roundw
        case rel =>
          have OWx := OW.out.alloc (.cells #[.int .i64 (h m)] 3)
          refine ⟨m + 1, A1, k1, by omega, by go_num, rfl, ?_, ?_, ?_⟩
          · show Value.int .i64 (D.ol h m) = _; simp only [SH.Deal.ol]; rw [if_neg (by omega)]
          · rw [cellsI_succ, show D.ones h m = h m by unfold SH.Deal.ones; rw [if_neg (by omega)]]; exact hn1
          · exact (rb.alloc (by omega) _).grown hg1 (by simp; omega) (fun k hk => ownBlock_ge OWx hk)
        case measure => simp [intOf]; omega
    · obtain rfl : m = n := by omega
      have HF := Lib.hid (And.intro (RowI.of_own ow) rb)
      clear ow rb
      go_wp2_with fail
      go_ret
      exact ⟨_, _, rfl, HF.out.1, by rw [hB]; exact HF.out.2⟩
end Go.Proofs.Ytodkifkphhfnpaa
