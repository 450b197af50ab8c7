/- The walks of package credit: what only reads. -/
import Derived.Test.YtpbahmnlhckgbaaCred3
import Derived.Deep.QuietTactic
import Derived.BigQuiet
import Derived.Deep.RegionWith
import Derived.Deep.RegionHeld3
import Derived.WalkLawsBesides
import Derived.WalkSmall
namespace Go.Proofs.Ytpbahmnlhckgbaa
open Go.RowKit
set_option linter.unusedVariables false
section
variable (base g cw cap : Nat) (cn sp M x : Int) (A : Option Addr) (l : List Ln) (w : World) (k : Led base w g cw cn sp A cap l M)
include k
theorem line_at (i : Nat) (hi : i < l.length) : Calls Try.prog 26 #[.pointer (some ⟨g, 0, none⟩), .int .i64 l[i].id] w fun e w' => (∃ gb, A = some ⟨gb, 0, none⟩ ∧ e = .returned (.tuple #[.pointer (some ⟨gb, i * 3, none⟩), .int .i64 0])) ∧ Below w.heap.size w w' := by
  refine (line_any base g cw cap cn sp M l[i].id A l w k).mono ?_
  rintro e w1 ⟨h, b⟩
  refine ⟨?_, b⟩
  rcases h with ⟨j, hj, gb, hA, hx, he⟩ | ⟨hn, _⟩
  · obtain rfl := srt_one k.srt hj hi hx
    exact ⟨gb, hA, he⟩
  · exact absurd rfl (hn i hi)
theorem line_no (hn : ∀ (j : Nat) (hj : j < l.length), l[j].id ≠ x) : Calls Try.prog 26 #[.pointer (some ⟨g, 0, none⟩), .int .i64 x] w fun e w' => e = .returned (.tuple #[.pointer none, .int .i64 7]) ∧ Below w.heap.size w w' := by
  refine (line_any base g cw cap cn sp M x A l w k).mono ?_
  rintro e w1 ⟨h, b⟩
  rcases h with ⟨j, hj, gb, hA, hx, he⟩ | ⟨_, he⟩
  · exact absurd hx (hn j hj)
  · exact ⟨he, b⟩
theorem size_conn : Calls Try.prog 17 #[.pointer (some ⟨g, 0, none⟩), .int .i64 0] w fun e w' => e = .returned (.tuple #[.int .i64 cn, .int .i64 0]) ∧ w = w' := by
  have HS := Lib.hid (size_any cw cn w k.con)
  have c0 := Blk.cell k.blk 0
  simp at c0
  clear k
  go_enter Try.func17, Try.ntmps17
  go_wp2_with fail
  refine HS.out.mono ?_
  rintro e w1 ⟨rfl, rfl⟩
  go_wp2_with fail
  go_ret2
  exact ⟨rfl, rfl⟩
theorem size_at (i : Nat) (hi : i < l.length) : Calls Try.prog 17 #[.pointer (some ⟨g, 0, none⟩), .int .i64 l[i].id] w fun e w' => e = .returned (.tuple #[.int .i64 l[i].n, .int .i64 0]) ∧ Below w.heap.size w w' := by
  have HL := Lib.hid (line_at base g cw cap cn sp M A l w k i hi)
  have hb := (k.bds l[i] (List.getElem_mem _)).2.2.2.2.1
  have hne : (l[i].id == 0) = false := by rw [beq_eq_false_iff_ne]; omega
  have HK := Lib.hid k
  have HS := Lib.hid (fun (V : World) (hV : Win V l[i].w l[i].n) => size_any l[i].w l[i].n V hV)
  have HC := Lib.hid (fun (w1 : World) (b : Below w.heap.size w w1) => (k.below b).cells i hi)
  have HW := Lib.hid (fun (w1 : World) (b : Below w.heap.size w w1) => ((k.below b).wins l[i] (List.getElem_mem _)).1)
  clear k hb
  generalize l[i].id = x at *
  generalize l[i].n = n at *
  generalize l[i].w = ww at *
  generalize l[i].sp = ss at *
  go_enter Try.func17, Try.ntmps17
  go_wp2_with fail
  refine HL.out.mono ?_
  rintro e w1 ⟨⟨gb, hA, rfl⟩, b⟩
  obtain ⟨gb', hA', _, c0, c1, c2⟩ := HC.out w1 b
  rw [hA] at hA'
  injection hA' with hA'
  injection hA' with hA'
  subst hA'
  have HB := Lib.hid b
  clear b hA
  go_wp2_with fail
  refine (HS.out _ (HW.out _ HB.out)).mono ?_
  rintro e w2 ⟨rfl, rfl⟩
  go_wp2_with fail
  go_ret2
  exact ⟨rfl, HB.out⟩
theorem size_no (hx0 : x ≠ 0) (hn : ∀ (j : Nat) (hj : j < l.length), l[j].id ≠ x) : Calls Try.prog 17 #[.pointer (some ⟨g, 0, none⟩), .int .i64 x] w fun e w' => e = .returned (.tuple #[.int .i64 0, .int .i64 7]) ∧ Below w.heap.size w w' := by
  have HL := Lib.hid (line_no base g cw cap cn sp M x A l w k hn)
  have hne : (x == 0) = false := by rw [beq_eq_false_iff_ne]; exact hx0
  clear k hn
  go_enter Try.func17, Try.ntmps17
  go_wp2_with fail
  refine HL.out.mono ?_
  rintro e w1 ⟨rfl, b⟩
  have HB := Lib.hid b
  clear b
  go_wp2_with fail
  go_ret2
  exact ⟨rfl, HB.out⟩
theorem spent_conn : Calls Try.prog 18 #[.pointer (some ⟨g, 0, none⟩), .int .i64 0] w fun e w' => e = .returned (.tuple #[.int .i64 sp, .int .i64 0]) ∧ w = w' := by
  have c0 := Blk.cell k.blk 1
  simp at c0
  clear k
  go_enter Try.func18, Try.ntmps18
  go_wp2_with fail
  go_ret2
  exact ⟨rfl, rfl⟩
theorem spent_at (i : Nat) (hi : i < l.length) : Calls Try.prog 18 #[.pointer (some ⟨g, 0, none⟩), .int .i64 l[i].id] w fun e w' => e = .returned (.tuple #[.int .i64 l[i].sp, .int .i64 0]) ∧ Below w.heap.size w w' := by
  have HL := Lib.hid (line_at base g cw cap cn sp M A l w k i hi)
  have hb := (k.bds l[i] (List.getElem_mem _)).2.2.2.2.1
  have hne : (l[i].id == 0) = false := by rw [beq_eq_false_iff_ne]; omega
  have HC := Lib.hid (fun (w1 : World) (b : Below w.heap.size w w1) => (k.below b).cells i hi)
  clear k hb
  generalize l[i].id = x at *
  generalize l[i].w = ww at *
  generalize l[i].sp = ss at *
  go_enter Try.func18, Try.ntmps18
  go_wp2_with fail
  refine HL.out.mono ?_
  rintro e w1 ⟨⟨gb, hA, rfl⟩, b⟩
  obtain ⟨gb', hA', _, c0, c1, c2⟩ := HC.out w1 b
  rw [hA] at hA'
  injection hA' with hA'
  injection hA' with hA'
  subst hA'
  have HB := Lib.hid b
  clear b hA
  go_wp2_with fail
  go_ret2
  exact ⟨rfl, HB.out⟩
theorem spent_no (hx0 : x ≠ 0) (hn : ∀ (j : Nat) (hj : j < l.length), l[j].id ≠ x) : Calls Try.prog 18 #[.pointer (some ⟨g, 0, none⟩), .int .i64 x] w fun e w' => e = .returned (.tuple #[.int .i64 0, .int .i64 7]) ∧ Below w.heap.size w w' := by
  have HL := Lib.hid (line_no base g cw cap cn sp M x A l w k hn)
  have hne : (x == 0) = false := by rw [beq_eq_false_iff_ne]; exact hx0
  clear k hn
  go_enter Try.func18, Try.ntmps18
  go_wp2_with fail
  refine HL.out.mono ?_
  rintro e w1 ⟨rfl, b⟩
  have HB := Lib.hid b
  clear b
  go_wp2_with fail
  go_ret2
  exact ⟨rfl, HB.out⟩
theorem free_no (hn : ∀ (j : Nat) (hj : j < l.length), l[j].id ≠ x) : Calls Try.prog 19 #[.pointer (some ⟨g, 0, none⟩), .int .i64 x] w fun e w' => e = .returned (.int .i64 0) ∧ Below w.heap.size w w' := by
  have HL := Lib.hid (line_no base g cw cap cn sp M x A l w k hn)
  clear k hn
  go_enter Try.func19, Try.ntmps19
  go_wp2_with fail
  refine HL.out.mono ?_
  rintro e w1 ⟨rfl, b⟩
  have HB := Lib.hid b
  clear b
  go_wp2_with fail
  go_ret
  exact ⟨rfl, HB.out⟩
set_option maxHeartbeats 1000000 in
theorem free_at (i : Nat) (hi : i < l.length) : Calls Try.prog 19 #[.pointer (some ⟨g, 0, none⟩), .int .i64 l[i].id] w fun e w' => e = .returned (.int .i64 (min (max l[i].n 0) (max cn 0))) ∧ Below w.heap.size w w' := by
  have HL := Lib.hid (line_at base g cw cap cn sp M A l w k i hi)
  have HK := Lib.hid k
  have HC := Lib.hid (fun (w1 : World) (b : Below w.heap.size w w1) => (k.below b).cells i hi)
  have HW := Lib.hid (fun (w1 : World) (b : Below w.heap.size w w1) => ((k.below b).wins l[i] (List.getElem_mem _)).1)
  clear k
  generalize l[i].id = x at *
  generalize l[i].n = n at *
  generalize l[i].w = ww at *
  generalize l[i].sp = ss at *
  go_enter Try.func19, Try.ntmps19
  go_wp2_with fail
  refine HL.out.mono ?_
  rintro e w1 ⟨⟨gb, hA, rfl⟩, b⟩
  obtain ⟨gb', hA', _, c0, c1, c2⟩ := HC.out w1 b
  rw [hA] at hA'
  injection hA' with hA'
  injection hA' with hA'
  subst hA'
  have HB := Lib.hid b
  have HV := Lib.hid (fun q => (HW.out w1 b).drewN q)
  have HV2 := Lib.hid (fun q => (HK.out.below b).con.drewN q)
  have b0 := Blk.cell (HK.out.below b).blk 0
  simp at b0
  clear b hA
  go_wp2_with fail
  go_quiet ((first | (go_at_call_of 40 (Value.pointer (some ⟨ww, 0, none⟩)); exact quiet_left (free_any ww n _ (HV.out _))) | (go_at_call_of 40 (Value.pointer (some ⟨cw, 0, none⟩)); exact quiet_left (free_any cw cn _ (HV2.out _)))))
  go_wp2_with fail
  all_goals
    (go_ret
     exact ⟨ret_int (by omega), below_drewN HB.out _⟩)
end
def IDsIs (w : World) (l : List Ln) (e : Ending) (w' : World) : Prop :=
  ∃ A c, e = .returned (.slice A l.length c) ∧ Held w' 3 1 A l.length c (nums (l.map (·.id))) ∧ Below w.heap.size w w'
theorem map_take_snoc (l : List Ln) (j : Nat) (h : j < l.length) : nums ((l.take (j + 1)).map (·.id)) = nums ((l.take j).map (·.id)) ++ [.int .i64 l[j].id] := by
  rw [List.take_succ_eq_append_getElem h]
  simp only [nums, List.map_append, List.map_cons, List.map_nil]
set_option maxHeartbeats 2000000 in
theorem ids_any (base g cw cap : Nat) (cn sp M : Int) (A : Option Addr) (l : List Ln) (w : World) (k : Led base w g cw cn sp A cap l M) :
    Calls Try.prog 11 #[.pointer (some ⟨g, 0, none⟩)] w (IDsIs w l) := by
  obtain ⟨i0, hi0, hz0, hz1, hz2⟩ := info_parts info_INT
  have HK := Lib.hid k
  have hlen := k.few
  have hcap := k.capb
  have ct := Blk.cell k.blk 2
  simp at ct
  clear k
  go_enter Try.func11, Try.ntmps11
  go_wp2_with fail
  go_loopw [3, 14] (fun ov iv wr => ∃ (j c : Nat) (B : Option Addr), j ≤ l.length ∧ iv = .int .i64 j ∧ ov = .slice B j c ∧ wr.ownsRow w.heap.size 3 1 (.slice B j c) j (nums ((l.take j).map (·.id))) ∧ Below w.heap.size w wr) (fun _ i _ => l.length - (intOf i).toNat)
  case atStart => exact ⟨0, 0, none, by omega, rfl, rfl, own_nil _ _ _ _, Below.refl _ _⟩
  case round =>
    obtain ⟨j, c, B, hj, rfl, rfl, ho, hb⟩ := hrel
    have HO := Lib.hid (And.intro ho hb)
    have hbs := hb.size
    clear ho hb
    by_cases hlt : j < l.length
    · obtain ⟨gb, hA, hgb, c0, c1, c2⟩ := (HK.out.below HO.out.2).cells j hlt
      have hj0 : (0 : Int) ≤ j := by omega
      have hj1 : (j : Int) < l.length := by omega
      have HS := Lib.hid (map_take_snoc l j hlt)
      generalize l[j].id = y at *
      generalize l[j].w = ww at *
      generalize l[j].sp = ss at *
      have HR := Lib.hid (reads_num (wr.alloc (.cells #[.int .i64 y, .pointer (some ⟨ww, 0, none⟩), .int .i64 ss] 60)) y)
      subst hA
      go_wp2_with (first
        | (at_builtin
           refine wpList_append_any _ rfl (.tmp 18) (.tmp 21) _ rfl w.heap.size 3 i0 _ 1 8 Try.underlying34 hi0 hz0 hz1 hz2 rfl (by omega) (.slice B j c) j _ rfl ((HO.out.1.alloc _).alloc _) (wr.heap.size + 1 + 1) (some ⟨wr.heap.size + 1, 0, none⟩) 1 1 [.int .i64 y] rfl (by have := HR.out; simpa using this) (by simp [Value.oneCell']) (by simp only [maxLen]; omega) (by omega) (by simp; omega) ?_
           intro v1 w1 hn1 hg1 hd1
           obtain ⟨B1, k1, rfl⟩ := slice_of_own' hn1
           rw [← HS.out] at hn1
           have b1 : Below w.heap.size w w1 := ((HO.out.2.alloc hbs _).alloc (by simp; omega) _).grown hg1 (by simp; omega) (fun k hk => ownBlock_ge HO.out.1 hk)
           have H1 := Lib.hid (And.intro hn1 b1)
           clear hn1 hg1 hd1 b1))
      go_roundw
      case rel => exact ⟨j + 1, k1, B1, by omega, by go_num, rfl, H1.out.1, H1.out.2⟩
      case measure => simp [intOf]; omega
    · obtain rfl : j = l.length := by omega
      go_wp2_with fail
      go_ret
      exact ⟨B, c, rfl, by have h := Held.of_own HO.out.1; rw [List.take_of_length_le (Nat.le_refl _)] at h; exact h, HO.out.2⟩
theorem ids_nil (w : World) : Calls Try.prog 11 #[.pointer none] w fun e w' => e = .returned (.slice none 0 0) ∧ w = w' := by
  go_enter Try.func11, Try.ntmps11
  go_wp2_with fail
  go_ret
  exact ⟨rfl, rfl⟩
end Go.Proofs.Ytpbahmnlhckgbaa
