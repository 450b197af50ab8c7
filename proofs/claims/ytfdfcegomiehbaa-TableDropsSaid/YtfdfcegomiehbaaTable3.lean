/- The walks of package table, third part: IDs, Drop, Ends. -/
import Derived.Test.YtfdfcegomiehbaaRows
import Derived.WalkKit
import Derived.ProofKit
import Derived.Handy
import Derived.Test.YtfdfcegomiehbaaMem
import Derived.Test.YtfdfcegomiehbaaLift
import Derived.Test.YtfdfcegomiehbaaApp
import Derived.Test.YtfdfcegomiehbaaReads
import Derived.Test.YtfdfcegomiehbaaOrd
import Derived.Test.YtfdfcegomiehbaaRow
import Derived.Test.YtfdfcegomiehbaaIns
import Derived.Test.YtfdfcegomiehbaaTable
import Derived.Test.YtfdfcegomiehbaaTable2
import Derived.Test.YtfdfcegomiehbaaInts
import Derived.Deep.QuietTactic
import Derived.BigQuiet
import Derived.Deep.RegionWith
import Derived.Deep.RegionHeld3
import Derived.Deep.AppendLies
import Derived.WalkLawsBesides
import Derived.WalkSmall
namespace Go.Proofs.Ytfdfcegomiehbaa
open Go.RowKit
set_option linter.unusedVariables false


def IDsIs (w : World) (l : List (Int × Int)) (e : Ending) (w' : World) : Prop :=
  ∃ A c, e = .returned (.slice A l.length c) ∧ Held w' 3 1 A l.length c (nums (l.map (·.1))) ∧ Below w.heap.size w w'
theorem map_take_snoc (l : List (Int × Int)) (j : Nat) (h : j < l.length) : nums ((l.take (j + 1)).map (·.1)) = nums ((l.take j).map (·.1)) ++ [.int .i64 l[j].1] := by
  rw [List.take_succ_eq_append_getElem h]
  simp only [nums, List.map_append, List.map_cons, List.map_nil]
set_option maxHeartbeats 2000000 in
theorem ids_any (base g cap : Nat) (most : Int) (A : Option Addr) (l : List (Int × Int)) (w : World) (k : TabAt base w g most A cap l) :
    Calls Try.prog 11 #[.pointer (some ⟨g, 0, none⟩)] w (IDsIs w l) := by
  obtain ⟨i0, hi0, hz0, hz1, hz2⟩ := info_parts info_INT
  have HL := Lib.hid (len_any base g cap most A l w k)
  have HK := Lib.hid k
  have hlen := k.few
  have hcap := k.capb
  clear k
  go_enter Try.func11, Try.ntmps11
  go_wp2_with fail
  refine HL.out.mono ?_
  rintro e w1 ⟨rfl, rfl⟩
  go_wp2_with fail
  go_loopw [3, 7] (fun ov iv wr => ∃ (j c : Nat) (B : Option Addr), j ≤ l.length ∧ iv = .int .i64 j ∧ ov = .slice B j c ∧ wr.ownsRow w.heap.size 3 1 (.slice B j c) j (nums ((l.take j).map (·.1))) ∧ Below w.heap.size w wr) (fun _ i _ => l.length - (intOf i).toNat)
  case atStart => exact ⟨0, 0, none, by omega, rfl, rfl, own_nil _ _ _ _, Below.refl _ _⟩
  case round =>
    obtain ⟨j, c, B, hj, rfl, rfl, ho, hb⟩ := hrel
    have HO := Lib.hid (And.intro ho hb)
    have hbs := hb.size
    clear ho hb
    by_cases hlt : j < l.length
    · obtain ⟨gb, hA, hgb, c0, _⟩ := (HK.out.below HO.out.2).cells j hlt
      have ct := Blk.cell (HK.out.below HO.out.2).blk 1
      simp at ct
      have hj0 : (0 : Int) ≤ j := by omega
      have hj1 : (j : Int) < l.length := by omega
      have HS := Lib.hid (map_take_snoc l j hlt)
      rw [hA] at ct
      generalize hy : l[j].1 = y at *
      have HR := Lib.hid (reads_num wr y)
      clear hA hy
      go_wp2_with (first
        | (at_builtin
           refine wpList_append_any _ rfl (.tmp 10) (.tmp 19) _ rfl w.heap.size 3 i0 _ 1 8 Try.underlying37 hi0 hz0 hz1 hz2 rfl (by omega) (.slice B j c) j _ rfl (HO.out.1.alloc _) (wr.heap.size + 1) (some ⟨wr.heap.size, 0, none⟩) 1 1 [.int .i64 y] rfl HR.out (by simp [Value.oneCell']) (by simp only [maxLen]; omega) (by omega) (by simp; omega) ?_
           intro v1 w1 hn1 hg1 hd1
           obtain ⟨B1, k1, rfl⟩ := slice_of_own' hn1
           rw [← HS.out] at hn1
           have b1 : Below w.heap.size w w1 := (HO.out.2.alloc hbs _).grown hg1 (by simp; omega) (fun k hk => ownBlock_ge HO.out.1 hk)
           have H1 := Lib.hid (And.intro hn1 b1)
           clear hn1 hg1 hd1 b1))
      go_roundw
      case rel => exact ⟨j + 1, k1, B1, by omega, by go_num, rfl, H1.out.1, H1.out.2⟩
      case measure => simp [intOf]; omega
    · obtain rfl : j = l.length := by omega
      go_wp2_with fail
      go_ret
      exact ⟨B, c, rfl, by have h := Held.of_own HO.out.1; rw [List.take_of_length_le (Nat.le_refl _)] at h; exact h, HO.out.2⟩
theorem ids_nil (w : World) : Calls Try.prog 11 #[.pointer none] w fun e w' => e = .returned (.slice none 0 0) ∧ w = w' := by
  go_enter Try.func11, Try.ntmps11
  go_wp2_with fail
  refine (len_nil w).mono ?_
  rintro e w1 ⟨rfl, rfl⟩
  go_wp2_with fail
  go_loopw [3, 7] (fun ov iv wr => iv = .int .i64 0 ∧ ov = .slice none 0 0 ∧ wr = w) (fun _ _ _ => 0)
  case atStart => exact ⟨rfl, rfl, rfl⟩
  case round =>
    obtain ⟨rfl, rfl, rfl⟩ := hrel
    go_wp2_with fail
    go_ret
    exact ⟨rfl, rfl⟩


/-- Without a number. -/
def wo (x : Int) (l : List (Int × Int)) : List (Int × Int) := l.filter fun p => p.1 != x
theorem wo_none {l : List (Int × Int)} {x : Int} (h : ∀ (j : Nat) (hj : j < l.length), l[j].1 ≠ x) : wo x l = l := by
  unfold wo
  rw [List.filter_eq_self]
  intro p hp
  obtain ⟨j, hj, rfl⟩ := List.mem_iff_getElem.1 hp
  simpa using h j hj
theorem wo_del {l : List (Int × Int)} {k : Nat} {x : Int} (hs : Srt l) (hk : k < l.length) (hx : l[k].1 = x) : wo x l = del l k := by
  have e : l = l.take k ++ l[k] :: l.drop (k + 1) := by rw [← List.drop_eq_getElem_cons hk, List.take_append_drop]
  have h1 : wo x (l.take k) = l.take k := wo_none (fun j hj => by
    rw [List.getElem_take]
    simp only [List.length_take] at hj
    have := hs j k (by omega) hk (by omega)
    omega)
  have h2 : wo x (l.drop (k + 1)) = l.drop (k + 1) := wo_none (fun j hj => by
    rw [List.getElem_drop]
    simp only [List.length_drop] at hj
    have := hs k (k + 1 + j) hk (by omega) (by omega)
    omega)
  unfold wo del at *
  conv => lhs; rw [e]
  rw [List.filter_append, List.filter_cons, h1, h2]
  simp [hx]
def wos (l : List (Int × Int)) (ids : List Int) : List (Int × Int) := ids.foldl (fun l x => wo x l) l
theorem wo_le (x : Int) (l : List (Int × Int)) : (wo x l).length ≤ l.length := List.length_filter_le _ _
theorem wos_le (ids : List Int) : ∀ l, (wos l ids).length ≤ l.length := by
  induction ids with
  | nil => intro l; exact Nat.le_refl _
  | cons x r ih => intro l; exact Nat.le_trans (ih (wo x l)) (wo_le x l)
theorem wos_snoc (l : List (Int × Int)) (ids : List Int) (x : Int) : wos l (ids ++ [x]) = wo x (wos l ids) := by simp [wos]
theorem wo_srt {l : List (Int × Int)} {x : Int} (hs : Srt l) : Srt (wo x l) := by
  rw [srt_iff] at hs ⊢
  exact hs.sublist (List.filter_sublist)
theorem TabAt.held {base : Nat} {w w' : World} {g cap : Nat} {most : Int} {A : Option Addr} {l : List (Int × Int)} {e : TypeId} {sz n c : Nat} {B : Option Addr} {xs : List Value} (k : TabAt base w g most A cap l) (o : Only (g :: blks (.slice A l.length cap)) w w') (h : Held w e sz B n c xs) (h1 : 54 ≠ e) (h2 : 58 ≠ e) : Held w' e sz B n c xs :=
  h.only o (fun i hi _ => by
    rcases List.mem_cons.1 hi with rfl | hi
    · exact ⟨_, _, _, k.blk, h1⟩
    · rw [mem_blks] at hi
      rcases k.own.2 with ⟨hv, _⟩ | ⟨gb, c, cur, hv, _, hc, _⟩
      · rw [hv] at hi; cases hi
      · rw [hv] at hi
        injection hi with hi
        simp only at hi
        subst hi
        exact ⟨_, _, _, hc, h2⟩)
theorem TabTurn.trans {base : Nat} {w w1 w2 : World} {g cap : Nat} {most : Int} {A : Option Addr} {v : Value} {l1 l2 : List (Int × Int)} (o1 : Only (g :: blks v) w w1) (hd : ∀ z, (Value.slice A l1.length cap).ownBlock = some z → v.ownBlock = some z ∨ w.heap.size ≤ z) (t : TabTurn base w1 g most (.slice A l1.length cap) l2 w2) : TabTurn base w g most v l2 w2 := by
  obtain ⟨⟨A2, c2, k2, d2⟩, o2⟩ := t
  refine ⟨⟨A2, c2, k2, fun z hz => ?_⟩, o1.trans o2 (fun i hi => ?_)⟩
  · rcases d2 z hz with h | h
    · exact hd z h
    · exact .inr (Nat.le_trans o1.size h)
  · rcases List.mem_cons.1 hi with rfl | hi
    · exact .inl (by simp)
    · rw [mem_blks] at hi
      rcases hd i hi with h | h
      · exact .inl (List.mem_cons_of_mem _ (mem_blks.2 h))
      · exact .inr h
def DropIs (base : Nat) (w : World) (g : Nat) (most : Int) (v : Value) (l : List (Int × Int)) (ids : List Int) (e : Ending) (w' : World) : Prop :=
  e = .returned (.int .i64 ((l.length : Int) - (wos l ids).length)) ∧ TabTurn base w g most v (wos l ids) w'
set_option maxHeartbeats 2000000 in
theorem drop_any (base g cap m cb : Nat) (most : Int) (A B : Option Addr) (l : List (Int × Int)) (ids : List Int) (w : World) (k : TabAt base w g most A cap l) (hm : m = ids.length) (hI : Held w 3 1 B m cb (nums ids)) :
    Calls Try.prog 14 #[.pointer (some ⟨g, 0, none⟩), .slice B m cb] w (DropIs base w g most (.slice A l.length cap) l ids) := by
  have HK := Lib.hid (And.intro k hI)
  have hcb := hI.2.1
  have hcb2 := hI.2.2.1
  have HM := Lib.hid hm
  clear k hI hm
  go_enter Try.func14, Try.ntmps14
  go_wp2_with fail
  go_loopw [5, 12] (fun nv iv wr => ∃ (j cap' : Nat) (A' : Option Addr), j ≤ m ∧ iv = .int .i64 j ∧ nv = .int .i64 ((l.length : Int) - (wos l (ids.take j)).length) ∧ TabAt base wr g most A' cap' (wos l (ids.take j)) ∧ (∀ z, (Value.slice A' (wos l (ids.take j)).length cap').ownBlock = some z → (Value.slice A l.length cap).ownBlock = some z ∨ w.heap.size ≤ z) ∧ Held wr 3 1 B m cb (nums ids) ∧ Only (g :: blks (.slice A l.length cap)) w wr) (fun _ i _ => m - (intOf i).toNat)
  case atStart => exact ⟨0, cap, A, by omega, rfl, by simp [wos], HK.out.1, fun z hz => .inl hz, HK.out.2, Only.refl _ _⟩
  case round =>
    obtain ⟨j, c1, A1, hj, rfl, rfl, k1, d1, hI1, o1⟩ := hrel
    have hle := wos_le (ids.take j) l
    have hfew := HK.out.1.few
    have H1 := Lib.hid (And.intro k1 (And.intro d1 (And.intro hI1 o1)))
    have HS : Hid (∀ (h : j < ids.length), wos l (ids.take (j + 1)) = wo ids[j] (wos l (ids.take j))) := fun h => by rw [List.take_succ_eq_append_getElem h, wos_snoc]
    clear k1 d1 hI1 o1
    generalize hl1 : wos l (ids.take j) = l1 at *
    have HL1 := Lib.hid hl1
    clear hl1
    by_cases hlt : j < m
    · have hji : j < ids.length := by rw [← HM.out]; exact hlt
      have hg : (nums ids)[j]? = some (.int .i64 ids[j]) := by simp [nums, hji]
      obtain ⟨b, off, hB, hb, cx⟩ := H1.out.2.2.1.at_ hg
      have HSX := Lib.hid (HS.out hji)
      have HB := Lib.hid hB
      generalize ids[j] = x at *
      have HD := Lib.hid (del_any base g c1 most x A1 l1 wr H1.out.1)
      rw [hB]
      clear hg hB HS
      go_wp2_with fail
      refine HD.out.mono ?_
      rintro e w2 ⟨y, bb, l2, rfl, t2, hcase⟩
      have h12 : l2 = wo x l1 ∧ (bb = true → l2.length + 1 = l1.length) := by
        rcases hcase with ⟨rfl, k, hk, hx, hy, rfl⟩ | ⟨rfl, rfl, rfl, hno⟩
        · exact ⟨(wo_del H1.out.1.srt hk hx).symm, fun _ => by rw [del_length l1 k hk]; omega⟩
        · exact ⟨(wo_none hno).symm, fun h => by cases h⟩
      have hb2 : bb = false → l2 = l1 := by
        rcases hcase with ⟨rfl, _⟩ | ⟨rfl, rfl, rfl, hno⟩
        · intro h; cases h
        · intro _; rfl
      have HC := Lib.hid (And.intro h12.1 (And.intro h12.2 hb2))
      have HI2 := Lib.hid (H1.out.1.held t2.2 H1.out.2.2.1 (by decide) (by decide))
      have T2 := Lib.hid (TabTurn.trans H1.out.2.2.2 H1.out.2.1 t2)
      clear t2 hcase h12 hb2
      cases bb with
      | true =>
        go_wp2_with fail
        go_roundw
        case rel =>
          obtain ⟨⟨A2, c2, k2, d2⟩, o2⟩ := T2.out
          have e1 : wos l (ids.take (j + 1)) = l2 := by rw [HSX.out, HC.out.1]
          exact ⟨j + 1, c2, A2, by omega, by go_num, by have := HC.out.2.1 (by trivial); rw [e1]; congr 1; omega, by rw [e1]; exact k2, by rw [e1]; exact d2, by rw [← HB.out]; exact HI2.out, o2⟩
        case measure => simp [intOf]; omega
      | false =>
        go_wp2_with fail
        go_roundw
        case rel =>
          obtain ⟨⟨A2, c2, k2, d2⟩, o2⟩ := T2.out
          have e1 : wos l (ids.take (j + 1)) = l2 := by rw [HSX.out, HC.out.1]
          exact ⟨j + 1, c2, A2, by omega, by go_num, by have := HC.out.2.2 (by trivial); rw [e1, this], by rw [e1]; exact k2, by rw [e1]; exact d2, by rw [← HB.out]; exact HI2.out, o2⟩
        case measure => simp [intOf]; omega
    · obtain rfl : j = m := by omega
      go_wp2_with fail
      go_ret
      have e0 : ids.take j = ids := List.take_of_length_le (by rw [HM.out]; exact Nat.le_refl _)
      have e1 : wos l ids = l1 := by rw [← HL1.out, e0]
      refine ⟨by rw [e1]; rfl, ?_⟩
      rw [e1]
      exact ⟨⟨A1, c1, H1.out.1, H1.out.2.1⟩, H1.out.2.2.2⟩
/-- The least and the greatest. -/
def EndsIs (w : World) (l : List (Int × Int)) (e : Ending) (w' : World) : Prop :=
  ∃ lo hi b, e = .returned (.tuple #[.int .i64 lo, .int .i64 hi, .bool b]) ∧ ((b = false ∧ l = [] ∧ lo = 0 ∧ hi = 0) ∨ (b = true ∧ ∃ h : 0 < l.length, lo = l[0].1 ∧ hi = (l[l.length - 1]'(by omega)).1)) ∧ ∃ q, w' = w.drewN q
theorem ends_any (base g cap : Nat) (most : Int) (A : Option Addr) (l : List (Int × Int)) (w : World) (k : TabAt base w g most A cap l) :
    Calls Try.prog 15 #[.pointer (some ⟨g, 0, none⟩)] w (EndsIs w l) := by
  have HK := Lib.hid k
  have hlen := k.few
  have H0 := Lib.hid (at_any base g cap most 0 A l w k)
  clear k
  go_enter Try.func15, Try.ntmps15
  go_wp2_with fail
  refine H0.out.mono ?_
  rintro e w1 ⟨x, v, b, rfl, hcase, q, rfl⟩
  have HC := Lib.hid hcase
  have HL := Lib.hid (len_any base g cap most A l (w.drewN q) (HK.out.drewN q))
  have H1 := Lib.hid (at_any base g cap most ((l.length : Int) - 1) A l (w.drewN q) (HK.out.drewN q))
  clear hcase
  go_wp2_with fail
  refine HL.out.mono ?_
  rintro e w2 ⟨rfl, rfl⟩
  go_wp2_with fail
  refine H1.out.mono ?_
  rintro e w3 ⟨x2, v2, b2, rfl, hcase2, q2, rfl⟩
  have HC2 := Lib.hid hcase2
  clear hcase2
  go_wp2_with fail
  go_ret3
  refine ⟨x, x2, b, rfl, ?_, q + q2, by simp [World.drewN_drewN]⟩
  rcases HC.out with ⟨rfl, k, hk, he, hx, hv⟩ | ⟨rfl, rfl, rfl, ho⟩
  · right
    obtain rfl : k = 0 := by omega
    refine ⟨rfl, hk, hx.symm, ?_⟩
    rcases HC2.out with ⟨_, k2, hk2, he2, hx2, _⟩ | ⟨_, _, _, ho2⟩
    · obtain rfl : k2 = l.length - 1 := by omega
      exact hx2.symm
    · omega
  · left
    have h0 : l.length = 0 := by omega
    refine ⟨rfl, List.eq_nil_of_length_eq_zero h0, rfl, ?_⟩
    rcases HC2.out with ⟨_, k2, hk2, _⟩ | ⟨_, h, _⟩
    · omega
    · exact h
theorem ends_nil (w : World) : Calls Try.prog 15 #[.pointer none] w fun e w' => e = .returned (.tuple #[.int .i64 0, .int .i64 0, .bool false]) ∧ w = w' := by
  go_enter Try.func15, Try.ntmps15
  go_wp2_with fail
  refine (at_nil _ _).mono ?_
  rintro e w1 ⟨rfl, rfl⟩
  go_wp2_with fail
  refine (len_nil _).mono ?_
  rintro e w1 ⟨rfl, rfl⟩
  go_wp2_with fail
  refine (at_nil _ _).mono ?_
  rintro e w1 ⟨rfl, rfl⟩
  go_wp2_with fail
  go_ret3
  exact ⟨rfl, rfl⟩
/-- Drop on a nil table. -/
theorem drop_nil (m cb : Nat) (B : Option Addr) (ids : List Int) (w : World) (hm : m = ids.length) (hI : Held w 3 1 B m cb (nums ids)) :
    Calls Try.prog 14 #[.pointer none, .slice B m cb] w fun e w' => e = .returned (.int .i64 0) ∧ Below w.heap.size w w' := by
  have HK := Lib.hid hI
  have hcb := hI.2.1
  have hcb2 := hI.2.2.1
  have HM := Lib.hid hm
  clear hI hm
  go_enter Try.func14, Try.ntmps14
  go_wp2_with fail
  go_loopw [5, 12] (fun nv iv wr => ∃ j : Nat, j ≤ m ∧ iv = .int .i64 j ∧ nv = .int .i64 0 ∧ Below w.heap.size w wr) (fun _ i _ => m - (intOf i).toNat)
  case atStart => exact ⟨0, by omega, rfl, rfl, Below.refl _ _⟩
  case round =>
    obtain ⟨j, hj, rfl, rfl, hb⟩ := hrel
    have HB := Lib.hid hb
    clear hb
    by_cases hlt : j < m
    · have hji : j < ids.length := by rw [← HM.out]; exact hlt
      have hg : (nums ids)[j]? = some (.int .i64 ids[j]) := by simp [nums, hji]
      obtain ⟨b, off, rfl, hb, cx⟩ := (HK.out.below HB.out).at_ hg
      generalize ids[j] = x at *
      have HD := Lib.hid (del_nil x wr)
      clear hg
      go_wp2_with fail
      refine HD.out.mono ?_
      rintro e w2 ⟨rfl, b2⟩
      have HB2 := Lib.hid (HB.out.trans (b2.mono HB.out.size))
      clear b2
      go_wp2_with fail
      go_roundw
      case rel => exact ⟨j + 1, by omega, by go_num, rfl, HB2.out⟩
      case measure => simp [intOf]; omega
    · obtain rfl : j = m := by omega
      go_wp2_with fail
      go_ret
      exact ⟨rfl, HB.out⟩
end Go.Proofs.Ytfdfcegomiehbaa
