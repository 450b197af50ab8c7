/- The walks of the answer's ledger: Open, Close that go well. -/
import Derived.Test.YtpbahmnlhckgbaaRef9
import Derived.Deep.QuietTactic
import Derived.BigQuiet
import Derived.Deep.RegionWith
import Derived.Deep.RegionHeld3
import Derived.Deep.DeepCutAuto
import Derived.WalkLawsBesides
import Derived.WalkSmall
namespace Go.Proofs.Ytpbahmnlhckgbaa
open Go.RowKit
set_option linter.unusedVariables false
theorem info_RE3 : (Try.prog.info? 68).map (·.size) = some 3 := by kernel_rfl
theorem reads_line (w : World) (x y z : Int) : Reads (w.alloc (.cells #[.int .i64 x, .int .i64 y, .int .i64 z] 68)) (w.heap.size + 1) 3 (some ⟨w.heap.size, 0, none⟩) 1 [.int .i64 x, .int .i64 y, .int .i64 z] :=
  ⟨rfl, fun _ => ⟨_, rfl, by simp, fun j u hu => World.news_of_block (cs := #[.int .i64 x, .int .i64 y, .int .i64 z]) (t := 68) (fr := (0, 0)) (heap_alloc_new w _) j u hu⟩⟩
theorem prq_ins (l : List Ln) (k : Nat) (p : Ln) : prq (ins l k p) = prq (l.take k) ++ cellq p ++ prq (l.drop k) := by simp [ins, prq]
theorem prq_del (l : List Ln) (k : Nat) : prq (del l k) = prq (l.take k) ++ prq (l.drop (k + 1)) := by simp [del, prq]
section
variable (base h c : Nat) (cn sp x : Int) (B : Option Addr) (l : List Ln) (w : World) (k : Ref base w h cn sp B c l)
include k
set_option maxHeartbeats 4000000 in
theorem rop_ok (n : Int) (hn : ∀ (j : Nat) (hj : j < l.length), l[j].id ≠ x) (hx1 : 1 ≤ x) (hx2 : x ≤ 2147483647) (h0 : 0 ≤ n) (h1 : n ≤ 2147483647) (hl : l.length < 64) (p : Nat) (hp : Place l x p) (wb : Nat) : Calls Try.prog 31 #[.pointer (some ⟨h, 0, none⟩), .int .i64 x, .int .i64 n] w fun e w' => e = .returned (.int .i64 0) ∧ (∃ B' c', Ref base w' h cn sp B' c' (ins l p ⟨x, wb, n, 0⟩)) ∧ Only [h] w w' := by
  obtain ⟨i0, hi0, hz0, hz1, hz2⟩ := info_parts info_RE
  have HF := Lib.hid (rfind_no base h c cn sp x B l w k hn)
  have HR := Lib.hid (fun W => right_yes n W h0 h1)
  have d2 := Blk.cell k.blk 2
  simp at d2
  have hcap := k.capb
  have hpl := hp.1
  have HP := Lib.hid hp
  have HK := Lib.hid k
  have HC := Lib.hid (fun j hj => k.cells j hj)
  obtain ⟨X, hx1', hx2'⟩ := run_from Try.underlying39 info_RE3 B l.length c p hpl hcap.1
  have hup := run_upto Try.underlying39 info_RE3 B l.length c p (by omega)
  have HX := Lib.hid (hx2' w _ k.row)
  have HU := Lib.hid (held_upTo k.row hpl)
  have hh := Blk.lt k.blk
  clear k hp hx2' hn
  have hl2 : (l.length : Int) < 64 := by omega
  go_enter Try.func31, Try.ntmps31
  go_wp2_with fail
  refine (HR.out _).mono ?_
  rintro e w1 ⟨rfl, rfl⟩
  go_wp2_with fail
  refine HF.out.mono ?_
  rintro e w1 ⟨rfl, rfl⟩
  go_wp2_with fail
  go_loop [7] (fun iv => ∃ j : Nat, j ≤ p ∧ iv = .int .i64 j) (fun iv => p - (intOf iv).toNat)
  case atStart => exact ⟨0, by omega, rfl⟩
  case round =>
    obtain ⟨j, hj, rfl⟩ := hrel
    have hj0 : (0 : Int) ≤ j := by omega
    rcases Nat.lt_or_ge j p with hjp | hjp
    · have hlt : j < l.length := by omega
      obtain ⟨b, off, hB, _, c0, _, _⟩ := HC.out j hlt
      have hlx := HP.out.2.1 j hlt hjp
      have hj1 : (j : Int) < l.length := by omega
      generalize l[j].id = y at *
      have HB := Lib.hid hB
      rw [hB] at d2
      clear hB
      go_wp2_with fail
      go_round
      case rel => exact ⟨j + 1, by omega, by go_num⟩
      case measure => simp [intOf]; omega
    · obtain rfl : j = p := by omega
      have hend : (l.length : Int) ≤ j ∨ ∃ (hlt : j < l.length), x ≤ l[j].id := by
        rcases Nat.lt_or_ge j l.length with h | h
        · exact .inr ⟨h, HP.out.2.2 j h (Nat.le_refl _)⟩
        · exact .inl (by omega)
      have hlj0 : IntKind.i64.wrap (j : Int) = j := by rw [IntKind.wrap_i64]; omega
      rcases hend with hend | ⟨hlt, hge⟩
      rotate_left
      · obtain ⟨b, off, hB, _, c0, _, _⟩ := HC.out j hlt
        have hj1 : (j : Int) < l.length := by omega
        have hge' : ¬ l[j].id < x := by omega
        subst hB
        generalize l[j].id = y at *
        clear hge
        go_wp2_with (first
          | (at_builtin
             refine wpList_append_any _ rfl (.tmp 49) (.tmp 55) _ rfl w.heap.size 68 i0 _ 3 24 Try.underlying39 hi0 hz0 hz1 hz2 rfl (by omega) (.slice (some ⟨w.heap.size, 0, none⟩) 0 0) 0 [] rfl (own_empty (Blk.new w 68 #[]) (Nat.le_refl _)) w.heap.size _ j c _ rfl ((reads_of_held HU.out).alloc (Nat.le_refl _) _) (fun u hu => prq_one _ u (List.mem_of_mem_take hu)) (by simp only [maxLen]; omega) (by omega) (by simp) ?_
             intro v1 w1 hn1 hg1 hd1
             obtain ⟨A1, k1, rfl⟩ := slice_of_own' hn1
             rw [Nat.zero_add, List.nil_append] at hn1
             have b1 : Below w.heap.size w w1 := ((Below.refl _ _).alloc (Nat.le_refl _) _).grown hg1 (by simp) (fun k hk => by simp [Value.ownBlock] at hk; omega)
             have H1 := Lib.hid (And.intro hn1 b1)
             have hs1 := b1.size
             have d21 := (b1.cell (p := ⟨h, 2, none⟩) hh).trans d2
             clear hn1 hg1 hd1 b1)
          | (at_builtin
             refine wpList_append_any _ rfl (.tmp 57) (.tmp 61) _ rfl w.heap.size 68 i0 _ 3 24 Try.underlying39 hi0 hz0 hz1 hz2 rfl (by omega) (.slice A1 j k1) j _ rfl (H1.out.1.alloc _) (w1.heap.size + 1) (some ⟨w1.heap.size, 0, none⟩) 1 1 [.int .i64 x, .int .i64 n, .int .i64 0] rfl (reads_line w1 x n 0) (by simp [Value.oneCell']) (by simp only [maxLen]; omega) (by omega) (by simp; omega) ?_
             intro v2 w2 hn2 hg2 hd2
             obtain ⟨A2, k2, rfl⟩ := slice_of_own' hn2
             have b2 : Below w.heap.size w w2 := (H1.out.2.alloc hs1 _).grown hg2 (by simp; omega) (fun k hk => ownBlock_ge H1.out.1 hk)
             have H2 := Lib.hid (And.intro hn2 b2)
             have hs2 := b2.size
             have d22 := (b2.cell (p := ⟨h, 2, none⟩) hh).trans d2
             clear hn2 hg2 hd2 b2)
          | (at_builtin
             refine wpList_append_any _ rfl (.tmp 64) (.tmp 70) _ rfl w.heap.size 68 i0 _ 3 24 Try.underlying39 hi0 hz0 hz1 hz2 rfl (by omega) (.slice A2 (j + 1) k2) (j + 1) _ rfl H2.out.1 w2.heap.size X (l.length - j) (c - j) _ rfl ((reads_of_held HX.out).below H2.out.2 |>.more hs2) (fun u hu => prq_one _ u (List.mem_of_mem_drop hu)) (by simp only [maxLen]; omega) (by omega) (by omega) ?_
             intro v3 w3 hn3 hg3 hd3
             obtain ⟨A3, k3, rfl⟩ := slice_of_own' hn3
             have b3 : Below w.heap.size w w3 := H2.out.2.grown hg3 hs2 (fun k hk => ownBlock_ge H2.out.1 hk)
             have H3 := Lib.hid (And.intro hn3 b3)
             have BR0 := Blk.below HK.out.blk b3 hh
             have cr := Blk.cell BR0 2
             have fr := Blk.frozen BR0 2
             simp at cr
             have HBR := Lib.hid BR0
             clear hn3 hg3 hd3 b3 BR0))
        go_ret
        have BF := HBR.out.set_ 2 (.slice A3 (j + 1 + (l.length - j)) k3)
        simp at BF
        have hil := ins_length l j ⟨x, wb, n, 0⟩ hpl
        have hle : j + 1 + (l.length - j) = (ins l j ⟨x, wb, n, 0⟩).length := by rw [hil]; omega
        refine ⟨rfl, ⟨A3, k3, ⟨by rw [← hle]; exact BF, ?_, by rw [hil]; omega, HK.out.bas⟩⟩, (Only.of_below H3.out.2).setCell (.inl (by simp)) _⟩
        have hrow := (Held.of_own H3.out.1).setCell (p := ⟨h, 2, none⟩) (by exact HBR.out) (by decide) (.slice A3 (j + 1 + (l.length - j)) k3)
        rw [← hle, prq_ins, ← prq_take, ← prq_drop]
        exact hrow
      · go_wp2_with (first
          | (at_builtin
             refine wpList_append_any _ rfl (.tmp 49) (.tmp 55) _ rfl w.heap.size 68 i0 _ 3 24 Try.underlying39 hi0 hz0 hz1 hz2 rfl (by omega) (.slice (some ⟨w.heap.size, 0, none⟩) 0 0) 0 [] rfl (own_empty (Blk.new w 68 #[]) (Nat.le_refl _)) w.heap.size _ j c _ rfl ((reads_of_held HU.out).alloc (Nat.le_refl _) _) (fun u hu => prq_one _ u (List.mem_of_mem_take hu)) (by simp only [maxLen]; omega) (by omega) (by simp) ?_
             intro v1 w1 hn1 hg1 hd1
             obtain ⟨A1, k1, rfl⟩ := slice_of_own' hn1
             rw [Nat.zero_add, List.nil_append] at hn1
             have b1 : Below w.heap.size w w1 := ((Below.refl _ _).alloc (Nat.le_refl _) _).grown hg1 (by simp) (fun k hk => by simp [Value.ownBlock] at hk; omega)
             have H1 := Lib.hid (And.intro hn1 b1)
             have hs1 := b1.size
             have d21 := (b1.cell (p := ⟨h, 2, none⟩) hh).trans d2
             clear hn1 hg1 hd1 b1)
          | (at_builtin
             refine wpList_append_any _ rfl (.tmp 57) (.tmp 61) _ rfl w.heap.size 68 i0 _ 3 24 Try.underlying39 hi0 hz0 hz1 hz2 rfl (by omega) (.slice A1 j k1) j _ rfl (H1.out.1.alloc _) (w1.heap.size + 1) (some ⟨w1.heap.size, 0, none⟩) 1 1 [.int .i64 x, .int .i64 n, .int .i64 0] rfl (reads_line w1 x n 0) (by simp [Value.oneCell']) (by simp only [maxLen]; omega) (by omega) (by simp; omega) ?_
             intro v2 w2 hn2 hg2 hd2
             obtain ⟨A2, k2, rfl⟩ := slice_of_own' hn2
             have b2 : Below w.heap.size w w2 := (H1.out.2.alloc hs1 _).grown hg2 (by simp; omega) (fun k hk => ownBlock_ge H1.out.1 hk)
             have H2 := Lib.hid (And.intro hn2 b2)
             have hs2 := b2.size
             have d22 := (b2.cell (p := ⟨h, 2, none⟩) hh).trans d2
             clear hn2 hg2 hd2 b2)
          | (at_builtin
             refine wpList_append_any _ rfl (.tmp 64) (.tmp 70) _ rfl w.heap.size 68 i0 _ 3 24 Try.underlying39 hi0 hz0 hz1 hz2 rfl (by omega) (.slice A2 (j + 1) k2) (j + 1) _ rfl H2.out.1 w2.heap.size X (l.length - j) (c - j) _ rfl ((reads_of_held HX.out).below H2.out.2 |>.more hs2) (fun u hu => prq_one _ u (List.mem_of_mem_drop hu)) (by simp only [maxLen]; omega) (by omega) (by omega) ?_
             intro v3 w3 hn3 hg3 hd3
             obtain ⟨A3, k3, rfl⟩ := slice_of_own' hn3
             have b3 : Below w.heap.size w w3 := H2.out.2.grown hg3 hs2 (fun k hk => ownBlock_ge H2.out.1 hk)
             have H3 := Lib.hid (And.intro hn3 b3)
             have BR0 := Blk.below HK.out.blk b3 hh
             have cr := Blk.cell BR0 2
             have fr := Blk.frozen BR0 2
             simp at cr
             have HBR := Lib.hid BR0
             clear hn3 hg3 hd3 b3 BR0))
        go_ret
        have BF := HBR.out.set_ 2 (.slice A3 (j + 1 + (l.length - j)) k3)
        simp at BF
        have hil := ins_length l j ⟨x, wb, n, 0⟩ hpl
        have hle : j + 1 + (l.length - j) = (ins l j ⟨x, wb, n, 0⟩).length := by rw [hil]; omega
        refine ⟨rfl, ⟨A3, k3, ⟨by rw [← hle]; exact BF, ?_, by rw [hil]; omega, HK.out.bas⟩⟩, (Only.of_below H3.out.2).setCell (.inl (by simp)) _⟩
        have hrow := (Held.of_own H3.out.1).setCell (p := ⟨h, 2, none⟩) (by exact HBR.out) (by decide) (.slice A3 (j + 1 + (l.length - j)) k3)
        rw [← hle, prq_ins, ← prq_take, ← prq_drop]
        exact hrow
set_option maxHeartbeats 4000000 in
theorem rcl_at (i : Nat) (hi : i < l.length) (hs : Srt l) : Calls Try.prog 32 #[.pointer (some ⟨h, 0, none⟩), .int .i64 l[i].id] w fun e w' => e = .returned (.int .i64 0) ∧ (∃ B' c', Ref base w' h cn sp B' c' (del l i)) ∧ Only [h] w w' := by
  obtain ⟨i0, hi0, hz0, hz1, hz2⟩ := info_parts info_RE
  have HF := Lib.hid (rfind_at base h c cn sp B l w k i hi hs)
  have d2 := Blk.cell k.blk 2
  simp at d2
  have hcap := k.capb
  have hfew := k.few
  have HK := Lib.hid k
  obtain ⟨X, hx1', hx2'⟩ := run_from Try.underlying39 info_RE3 B l.length c (i + 1) (by omega) hcap.1
  have hup := run_upto Try.underlying39 info_RE3 B l.length c i (by omega)
  have HX := Lib.hid (hx2' w _ k.row)
  have HU := Lib.hid (held_upTo k.row (show i ≤ l.length by omega))
  have hh := Blk.lt k.blk
  have hx1 : ∀ W : World, (Instr.sliceAt 39 (.slice B l.length c) (some (.int .i64 ((i : Int) + 1))) none none).run Try.prog W = .ok (.slice X (l.length - (i + 1)) (c - (i + 1))) W := fun W => by
    have e := hx1' W
    rw [show (((i + 1 : Nat) : Int)) = (i : Int) + 1 by omega] at e
    exact e
  clear k hx2' hs hx1'
  generalize l[i].id = x at *
  have hi0' : (0 : Int) ≤ i := by omega
  have hi1 : (i : Int) < l.length := by omega
  go_enter Try.func32, Try.ntmps32
  go_wp2_with fail
  refine HF.out.mono ?_
  rintro e w1 ⟨rfl, rfl⟩
  go_wp2_with (first
    | (at_builtin
       refine wpList_append_any _ rfl (.tmp 12) (.tmp 18) _ rfl w.heap.size 68 i0 _ 3 24 Try.underlying39 hi0 hz0 hz1 hz2 rfl (by omega) (.slice (some ⟨w.heap.size, 0, none⟩) 0 0) 0 [] rfl (own_empty (Blk.new w 68 #[]) (Nat.le_refl _)) w.heap.size _ i c _ rfl ((reads_of_held HU.out).alloc (Nat.le_refl _) _) (fun u hu => prq_one _ u (List.mem_of_mem_take hu)) (by simp only [maxLen]; omega) (by omega) (by simp) ?_
       intro v1 w1 hn1 hg1 hd1
       obtain ⟨A1, k1, rfl⟩ := slice_of_own' hn1
       rw [Nat.zero_add, List.nil_append] at hn1
       have b1 : Below w.heap.size w w1 := ((Below.refl _ _).alloc (Nat.le_refl _) _).grown hg1 (by simp) (fun k hk => by simp [Value.ownBlock] at hk; omega)
       have H1 := Lib.hid (And.intro hn1 b1)
       have hs1 := b1.size
       have d21 := (b1.cell (p := ⟨h, 2, none⟩) hh).trans d2
       clear hn1 hg1 hd1 b1)
    | (at_builtin
       refine wpList_append_any _ rfl (.tmp 21) (.tmp 28) _ rfl w.heap.size 68 i0 _ 3 24 Try.underlying39 hi0 hz0 hz1 hz2 rfl (by omega) (.slice A1 i k1) i _ rfl H1.out.1 w1.heap.size X (l.length - (i + 1)) (c - (i + 1)) _ rfl ((reads_of_held HX.out).below H1.out.2 |>.more hs1) (fun u hu => prq_one _ u (List.mem_of_mem_drop hu)) (by simp only [maxLen]; omega) (by omega) (by omega) ?_
       intro v3 w3 hn3 hg3 hd3
       obtain ⟨A3, k3, rfl⟩ := slice_of_own' hn3
       have b3 : Below w.heap.size w w3 := H1.out.2.grown hg3 hs1 (fun k hk => ownBlock_ge H1.out.1 hk)
       have H3 := Lib.hid (And.intro hn3 b3)
       have BR0 := Blk.below HK.out.blk b3 hh
       have cr := Blk.cell BR0 2
       have fr := Blk.frozen BR0 2
       simp at cr
       have HBR := Lib.hid BR0
       clear hn3 hg3 hd3 b3 BR0))
  go_ret
  have BF := HBR.out.set_ 2 (.slice A3 (i + (l.length - (i + 1))) k3)
  simp at BF
  have hil := del_length l i hi
  have hle : i + (l.length - (i + 1)) = (del l i).length := by rw [hil]; omega
  refine ⟨rfl, ⟨A3, k3, ⟨by rw [← hle]; exact BF, ?_, by rw [hil]; omega, HK.out.bas⟩⟩, (Only.of_below H3.out.2).setCell (.inl (by simp)) _⟩
  have hrow := (Held.of_own H3.out.1).setCell (p := ⟨h, 2, none⟩) (by exact HBR.out) (by decide) (.slice A3 (i + (l.length - (i + 1))) k3)
  rw [← hle, prq_del, ← prq_take, ← prq_drop]
  exact hrow
set_option maxHeartbeats 2000000 in
theorem rids_any : Calls Try.prog 36 #[.pointer (some ⟨h, 0, none⟩)] w (IDsIs w l) := by
  obtain ⟨i0, hi0, hz0, hz1, hz2⟩ := info_parts info_INT
  have HK := Lib.hid k
  have hlen := k.few
  have hcap := k.capb
  clear k
  go_enter Try.func36, Try.ntmps36
  go_wp2_with fail
  go_loopw [3, 4] (fun ov iv wr => ∃ (j c : Nat) (B : Option Addr), j ≤ l.length ∧ iv = .int .i64 j ∧ ov = .slice B j c ∧ wr.ownsRow w.heap.size 3 1 (.slice B j c) j (nums ((l.take j).map (·.id))) ∧ Below w.heap.size w wr) (fun _ i _ => l.length - (intOf i).toNat)
  case atStart => exact ⟨0, 0, none, by omega, rfl, rfl, own_nil _ _ _ _, Below.refl _ _⟩
  case round =>
    obtain ⟨j, c5, B5, hj, rfl, rfl, ho, hb⟩ := hrel
    have HO := Lib.hid (And.intro ho hb)
    have hbs := hb.size
    clear ho hb
    have KB := HK.out.below HO.out.2
    have ct := Blk.cell KB.blk 2
    simp at ct
    by_cases hlt : j < l.length
    · obtain ⟨b, off, hB, _, c0, c1, c2⟩ := KB.cells j hlt
      have hj0 : (0 : Int) ≤ j := by omega
      have hj1 : (j : Int) < l.length := by omega
      have HS := Lib.hid (map_take_snoc l j hlt)
      generalize l[j].id = y at *
      have HR := Lib.hid (reads_num wr y)
      clear KB c1 c2
      rw [hB] at ct
      clear hB
      go_wp2_with (first
        | (at_builtin
           refine wpList_append_any _ rfl (.tmp 14) (.tmp 23) _ rfl w.heap.size 3 i0 _ 1 8 Try.underlying34 hi0 hz0 hz1 hz2 rfl (by omega) (.slice B5 j c5) j _ rfl (HO.out.1.alloc _) (wr.heap.size + 1) (some ⟨wr.heap.size, 0, none⟩) 1 1 [.int .i64 y] rfl HR.out (by simp [Value.oneCell']) (by simp only [maxLen]; omega) (by omega) (by simp; omega) ?_
           intro v1 w1 hn1 hg1 hd1
           obtain ⟨B1, k1, rfl⟩ := slice_of_own' hn1
           rw [← HS.out] at hn1
           have b1 : Below w.heap.size w w1 := (HO.out.2.alloc hbs _).grown hg1 (by simp; omega) (fun k hk => ownBlock_ge HO.out.1 hk)
           have H1 := Lib.hid (And.intro hn1 b1)
           clear hn1 hg1 hd1 b1))
      go_roundw
      case rel => exact ⟨j + 1, k1, B1, by omega, by go_num, rfl, H1.out.1, H1.out.2⟩
      case measure => simp [intOf]; omega
    · obtain rfl : j = l.length := by omega
      clear KB
      go_wp2_with fail
      go_ret
      exact ⟨B5, c5, rfl, by have h := Held.of_own HO.out.1; rw [List.take_of_length_le (Nat.le_refl _)] at h; exact h, HO.out.2⟩
end
end Go.Proofs.Ytpbahmnlhckgbaa
