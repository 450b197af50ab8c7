/- The walks of the answer's ledger: Resize. -/
import Derived.Test.YtpbahmnlhckgbaaRef10
import Derived.Deep.QuietTactic
import Derived.BigQuiet
import Derived.Deep.RegionWith
import Derived.Deep.RegionHeld3
import Derived.Deep.DeepCutAuto
import Derived.WalkLawsBesides
import Derived.WalkSmall
namespace Go.Proofs.Ytpbahmnlhckgbaa
open Go.RowKit
set_option linter.unusedVariables false
theorem rz_take (l : List Ln) (d : Int) (j : Nat) (h : j < l.length) : prq (rz (l.take (j + 1)) d) = prq (rz (l.take j) d) ++ [.int .i64 l[j].id, .int .i64 (l[j].n + d), .int .i64 l[j].sp] := by
  rw [List.take_succ_eq_append_getElem h]
  unfold rz prq
  rw [List.map_append, List.flatMap_append]
  rfl
theorem rrs_arg (h : Nat) (a b : Int) (w : World) (hab : a < 0 ∨ 2147483647 < a ∨ b < 0 ∨ 2147483647 < b) : Calls Try.prog 34 #[.pointer (some ⟨h, 0, none⟩), .int .i64 a, .int .i64 b] w fun e w' => e = .returned (.int .i64 2) ∧ w = w' := by
  by_cases ha : a < 0 ∨ 2147483647 < a
  · have HR := Lib.hid (fun W => right_no a W ha)
    clear ha hab
    go_enter Try.func34, Try.ntmps34
    go_wp2_with fail
    refine (HR.out _).mono ?_
    rintro e w1 ⟨rfl, rfl⟩
    go_wp2_with fail
    go_ret
    exact ⟨rfl, rfl⟩
  · have HR := Lib.hid (fun W => right_yes a W (by omega) (by omega))
    have HR2 := Lib.hid (fun W => right_no b W (by omega))
    clear ha hab
    go_enter Try.func34, Try.ntmps34
    go_wp2_with fail
    refine (HR.out _).mono ?_
    rintro e w1 ⟨rfl, rfl⟩
    go_wp2_with fail
    refine (HR2.out _).mono ?_
    rintro e w1 ⟨rfl, rfl⟩
    go_wp2_with fail
    go_ret
    exact ⟨rfl, rfl⟩
def RrsIs (base : Nat) (w : World) (h : Nat) (cn sp : Int) (l : List Ln) (d : Int) (i0 : Nat) (e : Ending) (w' : World) : Prop :=
  if i0 < l.length then e = .returned (.int .i64 10) ∧ Below w.heap.size w w' else e = .returned (.int .i64 0) ∧ (∃ B' c', Ref base w' h cn sp B' c' (rz l d)) ∧ Only [h] w w'
section
variable (base h c : Nat) (cn sp x : Int) (B : Option Addr) (l : List Ln) (w : World) (k : Ref base w h cn sp B c l)
include k
set_option maxHeartbeats 4000000 in
/-- The loop: all windows fit up to where it stops. -/
theorem rrs_loop (a b : Int) (hab : Win2 a b) (i0 : Nat) (hi0 : i0 ≤ l.length) (hbefore : ∀ (j : Nat) (hj : j < l.length), j < i0 → Fits l[j].n (b - a)) (hbds : ∀ x ∈ l, -2147483647 ≤ x.n ∧ x.n ≤ 2147483647) (hat : ∀ (hi : i0 < l.length), ¬ Fits l[i0].n (b - a)) :
    Calls Try.prog 34 #[.pointer (some ⟨h, 0, none⟩), .int .i64 a, .int .i64 b] w (RrsIs base w h cn sp l (b - a) i0) := by
  obtain ⟨t0, hi0', hz0, hz1, hz2⟩ := info_parts info_RE
  have HR := Lib.hid (fun W => right_yes a W hab.1 hab.2.1)
  have HR2 := Lib.hid (fun W => right_yes b W hab.2.2.1 hab.2.2.2)
  have HG := Lib.hid (fun (j : Nat) (hj : j < l.length) (hji : j < i0) (W : World) => rresize_yes l[j].n a b W (hbds _ (List.getElem_mem hj)).1 (hbds _ (List.getElem_mem hj)).2 hab.1 hab.2.1 hab.2.2.1 hab.2.2.2 (hbefore j hj hji).1 (hbefore j hj hji).2)
  have HGO := Lib.hid (fun (j : Nat) (hj : j < l.length) (hji : j = i0) (W : World) => rresize_over l[j].n a b W (hbds _ (List.getElem_mem hj)).1 (hbds _ (List.getElem_mem hj)).2 hab.1 hab.2.1 hab.2.2.1 hab.2.2.2 (by subst hji; have := hat hj; unfold Fits at this; omega))
  have HK := Lib.hid k
  have hlen := k.few
  have hcap := k.capb
  clear k hab hbefore hbds hat
  go_enter Try.func34, Try.ntmps34
  go_wp2_with fail
  refine (HR.out _).mono ?_
  rintro e w1 ⟨rfl, rfl⟩
  go_wp2_with fail
  refine (HR2.out _).mono ?_
  rintro e w1 ⟨rfl, rfl⟩
  go_wp2_with fail
  go_loopw [7, 8] (fun ov iv wr => ∃ (j c : Nat) (B : Option Addr), j ≤ i0 ∧ iv = .int .i64 j ∧ ov = .slice B j c ∧ wr.ownsRow w.heap.size 68 3 (.slice B j c) j (prq (rz (l.take j) (b - a))) ∧ Below w.heap.size w wr) (fun _ i _ => l.length - (intOf i).toNat)
  case atStart => exact ⟨0, 0, none, by omega, rfl, rfl, own_nil _ _ _ _, Below.refl _ _⟩
  case round =>
    obtain ⟨j, c5, B5, hj, rfl, rfl, ho, hb⟩ := hrel
    have HO := Lib.hid (And.intro ho hb)
    have hbs := hb.size
    clear ho hb
    have KB := Lib.hid (HK.out.below HO.out.2)
    have ct := Blk.cell KB.out.blk 2
    simp at ct
    have hhl := Blk.lt KB.out.blk
    have hj0 : (0 : Int) ≤ j := by omega
    by_cases hji : j < i0
    · have hlt : j < l.length := by omega
      obtain ⟨bb, off, hB, hbl, c0, c1, c2⟩ := HK.out.cells j hlt
      rw [← HO.out.2.cell (p := ⟨bb, off + j * 3, none⟩) hbl] at c0
      rw [← HO.out.2.cell (p := ⟨bb, off + j * 3 + 1, none⟩) hbl] at c1
      rw [← HO.out.2.cell (p := ⟨bb, off + j * 3 + 2, none⟩) hbl] at c2
      have hbl2 : bb < wr.heap.size := Nat.lt_of_lt_of_le hbl hbs
      have hj1 : (j : Int) < l.length := by omega
      have HGJ := Lib.hid (HG.out j hlt hji)
      have HS := Lib.hid (rz_take l (b - a) j hlt)
      generalize l[j].id = x at *
      generalize l[j].n = n at *
      generalize l[j].sp = s at *
      rw [hB] at ct
      clear hB
      go_wp2_with fail
      refine (HGJ.out _).mono ?_
      rintro e w1 ⟨rfl, rfl⟩
      go_wp2_with fail
      refine wp_region_ord (fun w' => w'.cell? ⟨h, 2, none⟩ = some (.slice (some ⟨bb, off, none⟩) l.length c) ∧ w'.cell? ⟨bb, off + j * 3, none⟩ = some (.int .i64 x) ∧ w'.cell? ⟨bb, off + j * 3 + 2, none⟩ = some (.int .i64 s)) 21 [(true, 0), (true, 1), (true, 2), (true, 3), (true, 4), (true, 5), (true, 6), (true, 7), (true, 8), (true, 9), (true, 10), (true, 11), (true, 12), (true, 13), (true, 14), (true, 15), (true, 16), (true, 17), (true, 18), (false, 19), (false, 20)] default (by kernel_rfl) (by kernel_rfl) (fun d _ _ _ _ h => by cases d <;> exact h) ?_ ?_
      · exact ⟨ct, c0, c2⟩
      simp only [List.map_cons, List.map_nil, List.getD_cons_succ, List.getD_cons_zero]
      repeat
        (refine heldL_take ?_ ?_ ?_
         rotate_left
         · intro w' hw'
           try dsimp only at hw'
           go_simp
           try with_reducible rfl
         try simp only [Act.put, List.setIfInBounds_toArray, List.set_cons_zero, List.set_cons_succ])
      have q0 := (((Below.refl wr.heap.size wr).alloc (Nat.le_refl _) (.cells #[.int .i64 x, .int .i64 (n + (b - a)), .int .i64 s] 68)).cell (p := ⟨h, 2, none⟩) hhl).trans ct
      have q1 := (((Below.refl wr.heap.size wr).alloc (Nat.le_refl _) (.cells #[.int .i64 x, .int .i64 (n + (b - a)), .int .i64 s] 68)).cell (p := ⟨bb, off + j * 3, none⟩) hbl2).trans c0
      have q2 := (((Below.refl wr.heap.size wr).alloc (Nat.le_refl _) (.cells #[.int .i64 x, .int .i64 (n + (b - a)), .int .i64 s] 68)).cell (p := ⟨bb, off + j * 3 + 2, none⟩) hbl2).trans c2
      refine heldL_move (fun K hK => ?_)
      go_simp
      refine hK.out _ _ ⟨q0, q1, q2⟩ (fun hS => ?_)
      clear hK K hS
      try simp only [Act.put, List.setIfInBounds_toArray, List.set_cons_zero, List.set_cons_succ]
      refine heldL_move (fun K hK => ?_)
      refine wp_append_any _ (.tmp 45) (.tmp 64) _ rfl w.heap.size 68 t0 _ 3 24 Try.underlying39 hi0' hz0 hz1 hz2 rfl (by omega) (.slice B5 j c5) j _ rfl (by exact (own_below HO.out.1 (below_drewN (Below.refl _ _) 1) (Nat.le_refl _)).alloc _) (wr.heap.size + 1) (some ⟨wr.heap.size, 0, none⟩) 1 1 [.int .i64 x, .int .i64 (n + (b - a)), .int .i64 s] rfl (by exact reads_line (wr.drewN 1) x (n + (b - a)) s) (by simp [Value.oneCell']) (by simp only [maxLen]; omega) (by omega) (by simp; omega) ?_
      intro v1 w1 hn1 hg1 hd1
      obtain ⟨B1, k1, rfl⟩ := slice_of_own' hn1
      rw [← HS.out] at hn1
      have b1 : Below w.heap.size w w1 := ((below_drewN HO.out.2 1).alloc (by simp; omega) _).grown hg1 (by simp; omega) (fun k hk => ownBlock_ge HO.out.1 hk)
      have e0 := (b1.cell (p := ⟨bb, off + j * 3, none⟩) hbl).trans ((HO.out.2.cell (p := ⟨bb, off + j * 3, none⟩) hbl).symm.trans c0)
      have e2 := (b1.cell (p := ⟨bb, off + j * 3 + 2, none⟩) hbl).trans ((HO.out.2.cell (p := ⟨bb, off + j * 3 + 2, none⟩) hbl).symm.trans c2)
      have eh := (b1.cell (p := ⟨h, 2, none⟩) HK.out.lt).trans ((HO.out.2.cell (p := ⟨h, 2, none⟩) HK.out.lt).symm.trans ct)
      have H1 := Lib.hid (And.intro hn1 b1)
      refine hK.out _ _ ⟨eh, e0, e2⟩ (fun hS => ?_)
      clear hK K hS hn1 hg1 hd1 b1 e0 e2 eh
      try simp only [Act.put, List.setIfInBounds_toArray, List.set_cons_zero, List.set_cons_succ]
      refine heldL_last (fun K hK => ?_)
      go_simp
      refine hK _ _ ?_
      clear hK K
      try simp only [Act.put, List.setIfInBounds_toArray, List.set_cons_zero, List.set_cons_succ]
      clear q0 q1 q2 c0 c1 c2 ct
      go_wp2_with fail
      go_roundw
      case rel => exact ⟨j + 1, k1, B1, by omega, by go_num, rfl, H1.out.1, H1.out.2⟩
      case measure => simp [intOf]; omega
    · obtain rfl : j = i0 := by omega
      by_cases hlt : j < l.length
      · obtain ⟨bb, off, hB, hbl, c0, c1, c2⟩ := KB.out.cells j hlt
        have hj1 : (j : Int) < l.length := by omega
        have HGJ := Lib.hid (HGO.out j hlt rfl)
        generalize l[j].id = x at *
        generalize l[j].n = n at *
        generalize l[j].sp = s at *
        rw [hB] at ct
        clear hB
        go_wp2_with fail
        refine (HGJ.out _).mono ?_
        rintro e w1 ⟨rfl, rfl⟩
        go_wp2_with fail
        go_ret
        unfold RrsIs
        rw [if_pos hlt]
        exact ⟨rfl, HO.out.2⟩
      · have hjl : j = l.length := by omega
        have HJ := Lib.hid hjl
        have hje : (l.length : Int) ≤ j := by omega
        have fr := Blk.frozen KB.out.blk 2
        clear hjl
        go_wp2_with fail
        go_ret
        unfold RrsIs
        rw [if_neg hlt]
        have BF := KB.out.blk.set_ 2 (.slice B5 j c5)
        simp at BF
        have hrz : (rz l (b - a)).length = j := by rw [rz, List.length_map]; exact HJ.out.symm
        have hrow := (Held.of_own HO.out.1).setCell (p := ⟨h, 2, none⟩) (by exact KB.out.blk) (by decide) (.slice B5 j c5)
        rw [List.take_of_length_le (by rw [HJ.out]; exact Nat.le_refl _)] at hrow
        exact ⟨rfl, ⟨B5, c5, ⟨by rw [hrz]; exact BF, by rw [hrz]; exact hrow, by rw [hrz]; omega, HK.out.bas⟩⟩, (Only.of_below HO.out.2).setCell (.inl (by simp)) _⟩
end
end Go.Proofs.Ytpbahmnlhckgbaa
