/- The walks of the answer's ledger: Grow, Open, Close. -/
import Derived.Test.YtpbahmnlhckgbaaRef8
import Derived.Deep.QuietTactic
import Derived.BigQuiet
import Derived.Deep.RegionWith
import Derived.Deep.RegionHeld3
import Derived.Deep.DeepCutAuto
import Derived.WalkLawsBesides
import Derived.WalkSmall
namespace Go.Proofs.Ytpbahmnlhckgbaa
open Go.RowKit
set_option linter.unusedVariables false
theorem r5grow_any (n b : Int) (w : World) (h1 : -2147483647 ≤ n) (h2 : n ≤ 2147483647) : Calls Try.prog 48 #[.int .i64 n, .int .i64 b] w fun e w' => e = .returned (.tuple #[.int .i64 (growC n b).1, .int .i64 (growC n b).2]) ∧ w = w' := by
  by_cases hb : b < 1 ∨ 2147483647 < b
  · have e : growC n b = (n, 2) := if_pos hb
    rw [e]
    exact rgrow_arg n b w hb
  · by_cases ho : 2147483647 < n + b
    · have e : growC n b = (n, 10) := by unfold growC; rw [if_neg hb, if_pos ho]
      rw [e]
      exact rgrow_over n b w h1 h2 (by omega) (by omega) ho
    · have e : growC n b = (n + b, 0) := by unfold growC; rw [if_neg hb, if_neg ho]
      rw [e]
      exact rgrow_yes n b w h1 h2 (by omega) (by omega) (by omega)
section
variable (base h c : Nat) (cn sp x : Int) (B : Option Addr) (l : List Ln) (w : World) (k : Ref base w h cn sp B c l)
include k
theorem rgr_conn (b : Int) (q1 : -2147483647 ≤ cn) (q2 : cn ≤ 2147483647) : Calls Try.prog 33 #[.pointer (some ⟨h, 0, none⟩), .int .i64 0, .int .i64 b] w fun e w' => e = .returned (.int .i64 (growC cn b).2) ∧ Ref base w' h (growC cn b).1 sp B c l ∧ Only [h] w w' := by
  have HG := Lib.hid (fun W => r5grow_any cn b W q1 q2)
  have HK := Lib.hid k
  have d0 := Blk.cell k.blk 0
  simp at d0
  have f0 := Blk.frozen k.blk 0
  have hh := Blk.lt k.blk
  clear k
  generalize hr : growC cn b = r at *
  clear hr
  obtain ⟨rn, rc⟩ := r
  simp only at *
  go_enter Try.func33, Try.ntmps33
  go_wp2_with fail
  refine (HG.out _).mono ?_
  rintro e w1 ⟨rfl, rfl⟩
  go_wp2_with fail
  go_ret
  have BF := HK.out.blk.set_ 0 (.int .i64 rn)
  simp at BF
  exact ⟨rfl, ⟨BF, HK.out.row.setCell (p := ⟨h, 0, none⟩) (by exact HK.out.blk) (by decide) _, HK.out.few, HK.out.bas⟩, (Only.refl [h] w).setCell (.inl (by simp)) _⟩
theorem rgr_no (b : Int) (hx0 : x ≠ 0) (hn : ∀ (j : Nat) (hj : j < l.length), l[j].id ≠ x) : Calls Try.prog 33 #[.pointer (some ⟨h, 0, none⟩), .int .i64 x, .int .i64 b] w fun e w' => e = .returned (.int .i64 7) ∧ w = w' := by
  have HF := Lib.hid (rfind_no base h c cn sp x B l w k hn)
  have hne : (x == 0) = false := by rw [beq_eq_false_iff_ne]; exact hx0
  clear k hn
  go_enter Try.func33, Try.ntmps33
  go_wp2_with fail
  refine HF.out.mono ?_
  rintro e w1 ⟨rfl, rfl⟩
  go_wp2_with fail
  go_ret
  exact ⟨rfl, rfl⟩
set_option maxHeartbeats 2000000 in
theorem rgr_at (b : Int) (i : Nat) (hi : i < l.length) (hs : Srt l) (hx0 : l[i].id ≠ 0) (n1 : -2147483647 ≤ l[i].n) (n2 : l[i].n ≤ 2147483647) :
    Calls Try.prog 33 #[.pointer (some ⟨h, 0, none⟩), .int .i64 l[i].id, .int .i64 b] w fun e w' => e = .returned (.int .i64 (growC l[i].n b).2) ∧ (∃ B' c', Ref base w' h cn sp B' c' (chg l i (growC l[i].n b).1 l[i].sp)) ∧ Only [h] w w' := by
  have HF := Lib.hid (rfind_at base h c cn sp B l w k i hi hs)
  have HG := Lib.hid (fun W => r5grow_any l[i].n b W n1 n2)
  have HS := Lib.hid (fun (V : World) (n s : Int) (hV : Held V 68 3 B l.length c (prq l)) => set_any B c i l[i].id n s l V hV k.few hi rfl)
  have hne : (l[i].id == 0) = false := by rw [beq_eq_false_iff_ne]; exact hx0
  have hcap := k.capb
  have hlen := k.few
  have K1 := Lib.hid k
  clear hs hx0
  have HLC := Lib.hid (fun n s => chg_length (l := l) (i := i) (n := n) (s := s))
  obtain ⟨bb, off, hB, hbl, c0, c1, c2⟩ := k.cells i hi
  have d0 := Blk.cell k.blk 0
  have d2 := Blk.cell k.blk 2
  simp at d0 d2
  have hbh := k.lt
  clear k
  generalize hr : growC l[i].n b = r at *
  clear hr
  obtain ⟨rn, rc⟩ := r
  simp only at *
  generalize l[i].id = x at *
  generalize l[i].n = n at *
  generalize l[i].sp = s at *
  have hi0' : (0 : Int) ≤ i := by omega
  have hi1 : (i : Int) < l.length := by omega
  subst hB
  go_enter Try.func33, Try.ntmps33
  go_wp2_with fail
  refine HF.out.mono ?_
  rintro e w1 ⟨rfl, rfl⟩
  go_wp2_with fail
  refine (HG.out _).mono ?_
  rintro e w1 ⟨rfl, rfl⟩
  go_wp2_with fail
  refine wp_region_ord (fun w' => w'.cell? ⟨h, 2, none⟩ = some (.slice (some ⟨bb, off, none⟩) l.length c) ∧ w'.cell? ⟨bb, off + i * 3 + 2, none⟩ = some (.int .i64 s)) 20 [(true, 0), (true, 1), (true, 2), (true, 3), (true, 4), (true, 5), (true, 6), (true, 7), (true, 8), (true, 9), (true, 10), (true, 11), (true, 12), (true, 13), (true, 14), (true, 15), (true, 16), (false, 17), (true, 18), (true, 19)] default (by kernel_rfl) (by kernel_rfl) (fun d _ _ _ _ h => by cases d <;> exact h) ?_ ?_
  · exact ⟨d2, c2⟩
  simp only [List.map_cons, List.map_nil, List.getD_cons_succ, List.getD_cons_zero]
  repeat
    (refine heldL_take ?_ ?_ ?_
     rotate_left
     · intro w' hw'
       try dsimp only at hw'
       go_simp
       try with_reducible rfl
     try simp only [Act.put, List.setIfInBounds_toArray, List.set_cons_zero, List.set_cons_succ])
  refine heldL_move (fun K hK => ?_)
  go_simp
  refine (HS.out _ _ _ (by exact K1.out.row.drewN 1)).mono ?_
  rintro e w3 ⟨B3, c3, rfl, h3, b3'⟩
  have b3 : Below w.heap.size w w3 := ⟨b3'.os, b3'.tape, b3'.output, b3'.size, b3'.block⟩
  have e2 := (b3.cell (p := ⟨h, 2, none⟩) hbh).trans d2
  have r2 := (b3.cell (p := ⟨bb, off + i * 3 + 2, none⟩) hbl).trans c2
  have BH := Blk.below K1.out.blk b3 hbh
  have f2 := Blk.frozen BH 2
  have H3 := Lib.hid (And.intro h3 (And.intro BH b3))
  refine hK.out _ _ ⟨e2, r2⟩ (fun hS => ?_)
  clear hK K hS h3 BH b3 b3'
  try simp only [Act.put, List.setIfInBounds_toArray, List.set_cons_zero, List.set_cons_succ]
  repeat
    (refine heldL_take ?_ ?_ ?_
     rotate_left
     · intro w' hw'
       try dsimp only at hw'
       go_simp
       try with_reducible rfl
     try simp only [Act.put, List.setIfInBounds_toArray, List.set_cons_zero, List.set_cons_succ])
  refine heldL_last (fun K hK => ?_)
  go_simp
  refine hK _ _ ?_
  clear hK K
  try simp only [Act.put, List.setIfInBounds_toArray, List.set_cons_zero, List.set_cons_succ]
  rw [HLC.out]
  have BH4 := Blk.set_ H3.out.2.1 2 (.slice B3 l.length c3)
  simp at BH4
  have h4 := H3.out.1.setCell (p := ⟨h, 2, none⟩) (by exact H3.out.2.1) (by decide) (.slice B3 l.length c3)
  have O4 := ((Only.refl [h] w).trans_ (Only.of_below H3.out.2.2)).setCell (p := ⟨h, 2, none⟩) (.inl (by simp)) (.slice B3 l.length c3)
  have H4 := Lib.hid (And.intro h4 (And.intro BH4 O4))
  generalize w3.setCell ⟨h, 2, none⟩ (.slice B3 l.length c3) = w4 at *
  clear BH4 h4 O4 e2 r2 f2 c0 c1 c2 d0 d2
  go_wp2_with fail
  go_ret
  exact ⟨rfl, ⟨B3, c3, ⟨by rw [HLC.out]; exact H4.out.2.1, H4.out.1, by rw [HLC.out]; exact hlen, K1.out.bas⟩⟩, H4.out.2.2⟩
theorem rop_exist (n : Int) (i : Nat) (hi : i < l.length) (hs : Srt l) (hx1 : 1 ≤ l[i].id) (hx2 : l[i].id ≤ 2147483647) (h0 : 0 ≤ n) (h1 : n ≤ 2147483647) : Calls Try.prog 31 #[.pointer (some ⟨h, 0, none⟩), .int .i64 l[i].id, .int .i64 n] w fun e w' => e = .returned (.int .i64 8) ∧ w = w' := by
  have HF := Lib.hid (rfind_at base h c cn sp B l w k i hi hs)
  have HR := Lib.hid (fun W => right_yes n W h0 h1)
  clear k hs
  generalize l[i].id = x at *
  have hi0' : (0 : Int) ≤ i := by omega
  go_enter Try.func31, Try.ntmps31
  go_wp2_with fail
  refine (HR.out _).mono ?_
  rintro e w1 ⟨rfl, rfl⟩
  go_wp2_with fail
  refine HF.out.mono ?_
  rintro e w1 ⟨rfl, rfl⟩
  go_wp2_with fail
  go_ret
  exact ⟨rfl, rfl⟩
theorem rop_full (n : Int) (hn : ∀ (j : Nat) (hj : j < l.length), l[j].id ≠ x) (hx1 : 1 ≤ x) (hx2 : x ≤ 2147483647) (h0 : 0 ≤ n) (h1 : n ≤ 2147483647) (hl : 64 ≤ l.length) : Calls Try.prog 31 #[.pointer (some ⟨h, 0, none⟩), .int .i64 x, .int .i64 n] w fun e w' => e = .returned (.int .i64 16) ∧ w = w' := by
  have HF := Lib.hid (rfind_no base h c cn sp x B l w k hn)
  have HR := Lib.hid (fun W => right_yes n W h0 h1)
  have d2 := Blk.cell k.blk 2
  simp at d2
  have hcap := k.capb
  clear k hn
  have hl2 : (64 : Int) ≤ l.length := by omega
  go_enter Try.func31, Try.ntmps31
  go_wp2_with fail
  refine (HR.out _).mono ?_
  rintro e w1 ⟨rfl, rfl⟩
  go_wp2_with fail
  refine HF.out.mono ?_
  rintro e w1 ⟨rfl, rfl⟩
  go_wp2_with fail
  go_ret
  exact ⟨rfl, rfl⟩
theorem rcl_no (hn : ∀ (j : Nat) (hj : j < l.length), l[j].id ≠ x) : Calls Try.prog 32 #[.pointer (some ⟨h, 0, none⟩), .int .i64 x] w fun e w' => e = .returned (.int .i64 7) ∧ w = w' := by
  have HF := Lib.hid (rfind_no base h c cn sp x B l w k hn)
  clear k hn
  go_enter Try.func32, Try.ntmps32
  go_wp2_with fail
  refine HF.out.mono ?_
  rintro e w1 ⟨rfl, rfl⟩
  go_wp2_with fail
  go_ret
  exact ⟨rfl, rfl⟩
end
theorem rop_arg (h : Nat) (x n : Int) (w : World) (hx : x < 1 ∨ 2147483647 < x) : Calls Try.prog 31 #[.pointer (some ⟨h, 0, none⟩), .int .i64 x, .int .i64 n] w fun e w' => e = .returned (.int .i64 2) ∧ w = w' := by
  rcases Int.lt_or_le x 1 with h1 | h1
  · clear hx
    go_enter Try.func31, Try.ntmps31
    go_wp2_with fail
    go_ret
    exact ⟨rfl, rfl⟩
  · have h2 : 2147483647 < x := by omega
    clear hx
    go_enter Try.func31, Try.ntmps31
    go_wp2_with fail
    go_ret
    exact ⟨rfl, rfl⟩
theorem rop_range (h : Nat) (x n : Int) (w : World) (h1 : 1 ≤ x) (h2 : x ≤ 2147483647) (hn : n < 0 ∨ 2147483647 < n) : Calls Try.prog 31 #[.pointer (some ⟨h, 0, none⟩), .int .i64 x, .int .i64 n] w fun e w' => e = .returned (.int .i64 3) ∧ w = w' := by
  have HR := Lib.hid (fun W => right_no n W hn)
  clear hn
  go_enter Try.func31, Try.ntmps31
  go_wp2_with fail
  refine (HR.out _).mono ?_
  rintro e w1 ⟨rfl, rfl⟩
  go_wp2_with fail
  go_ret
  exact ⟨rfl, rfl⟩
end Go.Proofs.Ytpbahmnlhckgbaa
