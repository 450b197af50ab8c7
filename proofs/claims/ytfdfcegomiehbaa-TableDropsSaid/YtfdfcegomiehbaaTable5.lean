/- The walks of package table, a call of both. -/
import Derived.Test.YtfdfcegomiehbaaRows
import Derived.WalkKit
import Derived.ProofKit
import Derived.Handy
import Derived.Test.YtfdfcegomiehbaaMem
import Derived.Test.YtfdfcegomiehbaaLift
import Derived.Test.YtfdfcegomiehbaaApp
import Derived.Test.YtfdfcegomiehbaaReads
import Derived.Test.YtfdfcegomiehbaaOrd
import Derived.Test.YtfdfcegomiehbaaRow
import Derived.Test.YtfdfcegomiehbaaIns
import Derived.Test.YtfdfcegomiehbaaTable
import Derived.Test.YtfdfcegomiehbaaTable2
import Derived.Test.YtfdfcegomiehbaaInts
import Derived.Test.YtfdfcegomiehbaaTable3
import Derived.Test.YtfdfcegomiehbaaTable4
import Derived.Test.YtfdfcegomiehbaaTableDo
import Derived.Test.YtfdfcegomiehbaaTableDo2
import Derived.Deep.QuietTactic
import Derived.BigQuiet
import Derived.Deep.RegionWith
import Derived.Deep.RegionHeld3
import Derived.Deep.AppendLies
import Derived.WalkLawsBesides
import Derived.WalkSmall
namespace Go.Proofs.Ytfdfcegomiehbaa
open Go.RowKit
set_option linter.unusedVariables false


/-- Numbers that lie below base. -/
def Low (base : Nat) (B : Option Addr) (w : World) (ids : List Int) : Prop := ∀ (i : Nat) (h : i < ids.length), ∃ b off, B = some ⟨b, off, none⟩ ∧ b < base ∧ w.cell? ⟨b, off + i, none⟩ = some (.int .i64 ids[i])
theorem Low.below {base : Nat} {B : Option Addr} {w w' : World} {ids : List Int} (h : Low base B w ids) (b : Below base w w') : Low base B w' ids := fun i hi => by
  obtain ⟨g, off, h1, h2, h3⟩ := h i hi
  exact ⟨g, off, h1, h2, (b.cell (p := ⟨g, off + i, none⟩) h2).trans h3⟩
theorem Low.take {base : Nat} {B : Option Addr} {w : World} {ids : List Int} (h : Low base B w ids) (k : Nat) : Low base B w (ids.take k) := fun i hi => by
  have hi2 : i < ids.length := by simp at hi; omega
  obtain ⟨g, off, h1, h2, h3⟩ := h i hi2
  exact ⟨g, off, h1, h2, by rw [List.getElem_take]; exact h3⟩
set_option maxHeartbeats 2000000 in
theorem drop_low (base g cap m cb : Nat) (most : Int) (A B : Option Addr) (l : List (Int × Int)) (ids : List Int) (w : World) (k : TabAt base w g most A cap l) (hm : m = ids.length) (hcb : m ≤ cb) (hcb2 : cb ≤ 9223372036854775807) (hI : Low base B w ids) :
    Calls Try.prog 14 #[.pointer (some ⟨g, 0, none⟩), .slice B m cb] w (DropIs base w g most (.slice A l.length cap) l ids) := by
  have HK := Lib.hid (And.intro k hI)
  have HM := Lib.hid hm
  clear k hI hm
  go_enter Try.func14, Try.ntmps14
  go_wp2_with fail
  go_loopw [5, 12] (fun nv iv wr => ∃ (j cap' : Nat) (A' : Option Addr), j ≤ m ∧ iv = .int .i64 j ∧ nv = .int .i64 ((l.length : Int) - (wos l (ids.take j)).length) ∧ TabAt base wr g most A' cap' (wos l (ids.take j)) ∧ (∀ z, (Value.slice A' (wos l (ids.take j)).length cap').ownBlock = some z → (Value.slice A l.length cap).ownBlock = some z ∨ w.heap.size ≤ z) ∧ Low base B wr ids ∧ Only (g :: blks (.slice A l.length cap)) w wr) (fun _ i _ => m - (intOf i).toNat)
  case atStart => exact ⟨0, cap, A, by omega, rfl, by simp [wos], HK.out.1, fun z hz => .inl hz, HK.out.2, Only.refl _ _⟩
  case round =>
    obtain ⟨j, c1, A1, hj, rfl, rfl, k1, d1, hI1, o1⟩ := hrel
    have hle := wos_le (ids.take j) l
    have hfew := HK.out.1.few
    have H1 := Lib.hid (And.intro k1 (And.intro d1 (And.intro hI1 o1)))
    have HS : Hid (∀ (h : j < ids.length), wos l (ids.take (j + 1)) = wo ids[j] (wos l (ids.take j))) := fun h => by rw [List.take_succ_eq_append_getElem h, wos_snoc]
    clear k1 d1 hI1 o1
    generalize hl1 : wos l (ids.take j) = l1 at *
    have HL1 := Lib.hid hl1
    clear hl1
    by_cases hlt : j < m
    · have hji : j < ids.length := by rw [← HM.out]; exact hlt
      obtain ⟨b, off, hB, hb, cx⟩ := H1.out.2.2.1 j hji
      have HSX := Lib.hid (HS.out hji)
      have HB := Lib.hid hB
      generalize ids[j] = x at *
      have HD := Lib.hid (del_any base g c1 most x A1 l1 wr H1.out.1)
      rw [hB]
      clear hB HS
      go_wp2_with fail
      refine HD.out.mono ?_
      rintro e w2 ⟨y, bb, l2, rfl, t2, hcase⟩
      have h12 : l2 = wo x l1 ∧ (bb = true → l2.length + 1 = l1.length) := by
        rcases hcase with ⟨rfl, k, hk, hx, hy, rfl⟩ | ⟨rfl, rfl, rfl, hno⟩
        · exact ⟨(wo_del H1.out.1.srt hk hx).symm, fun _ => by rw [del_length l1 k hk]; omega⟩
        · exact ⟨(wo_none hno).symm, fun h => by cases h⟩
      have hb2 : bb = false → l2 = l1 := by
        rcases hcase with ⟨rfl, _⟩ | ⟨rfl, rfl, rfl, hno⟩
        · intro h; cases h
        · intro _; rfl
      have HC := Lib.hid (And.intro h12.1 (And.intro h12.2 hb2))
      have HI2 := Lib.hid (H1.out.2.2.1.below (TabTurn.below H1.out.1 t2))
      have T2 := Lib.hid (TabTurn.trans H1.out.2.2.2 H1.out.2.1 t2)
      clear t2 hcase h12 hb2
      cases bb with
      | true =>
        go_wp2_with fail
        go_roundw
        case rel =>
          obtain ⟨⟨A2, c2, k2, d2⟩, o2⟩ := T2.out
          have e1 : wos l (ids.take (j + 1)) = l2 := by rw [HSX.out, HC.out.1]
          exact ⟨j + 1, c2, A2, by omega, by go_num, by have := HC.out.2.1 (by trivial); rw [e1]; congr 1; omega, by rw [e1]; exact k2, by rw [e1]; exact d2, by rw [← HB.out]; exact HI2.out, o2⟩
        case measure => simp [intOf]; omega
      | false =>
        go_wp2_with fail
        go_roundw
        case rel =>
          obtain ⟨⟨A2, c2, k2, d2⟩, o2⟩ := T2.out
          have e1 : wos l (ids.take (j + 1)) = l2 := by rw [HSX.out, HC.out.1]
          exact ⟨j + 1, c2, A2, by omega, by go_num, by have := HC.out.2.2 (by trivial); rw [e1, this], by rw [e1]; exact k2, by rw [e1]; exact d2, by rw [← HB.out]; exact HI2.out, o2⟩
        case measure => simp [intOf]; omega
    · obtain rfl : j = m := by omega
      go_wp2_with fail
      go_ret
      have e0 : ids.take j = ids := List.take_of_length_le (by rw [HM.out]; exact Nat.le_refl _)
      have e1 : wos l ids = l1 := by rw [← HL1.out, e0]
      refine ⟨by rw [e1]; rfl, ?_⟩
      rw [e1]
      exact ⟨⟨A1, c1, H1.out.1, H1.out.2.1⟩, H1.out.2.2.2⟩
theorem wos_filter (ids : List Int) : ∀ l : List (Int × Int), wos l ids = l.filter fun p => !ids.contains p.1 := by
  induction ids with
  | nil => intro l; exact (List.filter_eq_self.2 (by simp)).symm
  | cons x r ih =>
    intro l
    show wos (wo x l) r = _
    rw [ih, wo, List.filter_filter]
    apply List.filter_congr
    intro p _
    simp only [List.contains_cons, Bool.not_or]
    cases hh : (p.1 == x) <;> simp [bne, hh]
theorem wos_twice (l : List (Int × Int)) (ids : List Int) : wos (wos l ids) ids = wos l ids := by
  rw [wos_filter ids, wos_filter ids, List.filter_filter]
  apply List.filter_congr
  intro p _
  cases ids.contains p.1 <;> rfl
theorem low_of_rows {w : World} {v : Value} {n : Nat} {C : Nat → List Value} (h : RowsAt w v n 1 (OneNum .i64) C) : ∃ A cap ids, v = .slice A (ids : List Int).length cap ∧ ids.length ≤ cap ∧ cap ≤ 9223372036854775807 ∧ Low w.heap.size A w ids := by
  obtain ⟨A, cap, rfl, h1, h2, h3⟩ := h
  refine ⟨A, cap, (List.range n).map fun i => match C i with | [.int _ x] => x | _ => 0, by simp, by simpa using h1, h2, fun i hi => ?_⟩
  have hi2 : i < n := by simpa using hi
  obtain ⟨⟨x, hx, _⟩, _, b, off, hA, hb, hc⟩ := h3 i hi2
  refine ⟨b, off, hA, hb, ?_⟩
  have := hc 0 (.int .i64 x) (by rw [hx]; rfl)
  simpa [hx] using this
end Go.Proofs.Ytfdfcegomiehbaa
