/- The walk of the answer's Order. -/
import Derived.Test.YtifgbnjpiphidaaTreC
namespace Go.Proofs.Ytifgbnjpiphidaa
open Go.RowKit
set_option linter.unusedVariables false
set_option maxHeartbeats 4000000 in
theorem rorder_any (h c : Nat) (B : Option Addr) (l : List Nd) (w : World) (k : Rt w h B c l) (r : Int → Nat) (hu : Uq l) (hr : Rk l r) :
    Calls Try.prog 31 #[.pointer (some ⟨h, 0, none⟩)] w (IntsOwn w (ordL l r)) := by
  obtain ⟨i0, hi0, hz0, hz1, hz2⟩ := info_parts info_INT
  have HK := Lib.hid k
  have HU := Lib.hid (And.intro hu hr)
  have hcap := k.capb
  have hfew := k.few
  have c0' := Blk.cell k.blk 0
  simp at c0'
  have hhl := k.lt
  clear k hu hr
  go_enter Try.func31, Try.ntmps31
  go_wp2_with fail
  go_loopw [3, 4] (fun ov dv wr => ∃ (d mo co : Nat) (Ao : Option Addr), dv = .int .i64 d ∧ 1 ≤ d ∧ d ≤ l.length + 1 ∧ ov = .slice Ao mo co ∧ mo = (ordD l r (d - 1)).length ∧ wr.ownsRow w.heap.size 3 1 (.slice Ao mo co) mo (nums (ordD l r (d - 1))) ∧ Below w.heap.size w wr) (fun _ dv _ => l.length + 1 - (intOf dv).toNat)
  case atStart => exact ⟨1, 0, 0, none, rfl, Nat.le_refl _, by omega, rfl, rfl, own_nil _ _ _ _, Below.refl _ _⟩
  case round =>
    obtain ⟨d, mo, co, Ao, rfl, hd1, hd2, rfl, hmo, ho, hb⟩ := hrel
    have hmol : mo ≤ l.length := by rw [hmo]; exact ordD_length l r _
    have hbs := hb.size
    have c0 : wr.cell? ⟨h, 0, none⟩ = some (.slice B l.length c) := (hb.cell (p := ⟨h, 0, none⟩) hhl).trans c0'
    have HM := Lib.hid (And.intro hmo (And.intro ho hb))
    clear hmo ho hb
    have hd0 : (0 : Int) ≤ d := by omega
    by_cases hlt : d ≤ l.length
    · have hd3 : (d : Int) ≤ l.length := by omega
      go_wp2_with fail
      obtain ⟨wl, hwl⟩ : ∃ x, x = wr := ⟨_, rfl⟩
      subst hwl
      have HQ := Lib.hid (show ordD l r (d - 1) ++ levL l r d = ordD l r d by
        obtain ⟨e, he⟩ : ∃ e, d = e + 1 := ⟨d - 1, by omega⟩
        rw [he, Nat.add_sub_cancel, ordD_succ])
      go_loopw [5, 6] (fun ov iv wx => ∃ (j m c' : Nat) (A : Option Addr), iv = .int .i64 j ∧ j ≤ l.length ∧ ov = .slice A m c' ∧ m = (pickI (fun p => decide (dp l r p.id = d)) (l.take j)).length ∧ wx.ownsRow wl.heap.size 3 1 (.slice A m c') m (nums (pickI (fun p => decide (dp l r p.id = d)) (l.take j))) ∧ Below wl.heap.size wl wx) (fun _ iv _ => l.length - (intOf iv).toNat)
      case atStart => exact ⟨0, 0, 0, none, rfl, by omega, rfl, rfl, own_nil _ _ _ _, Below.refl _ _⟩
      case round =>
        obtain ⟨j, m, c', A, rfl, hj, rfl, hm, ho, hb⟩ := hrel
        have hmj : m ≤ j := by rw [hm]; exact Nat.le_trans (pick_le _ _) (by rw [List.length_take]; omega)
        have hbs2 := hb.size
        have c1 : wr.cell? ⟨h, 0, none⟩ = some (.slice B l.length c) := (hb.cell (p := ⟨h, 0, none⟩) (by show h < wl.heap.size; omega)).trans c0
        have HN := Lib.hid (And.intro hm (And.intro ho hb))
        clear hm ho hb
        have hj0 : (0 : Int) ≤ j := by omega
        have HKR := Lib.hid ((HK.out.below HM.out.2.2).below HN.out.2.2)
        by_cases hlt2 : j < l.length
        · have hj1 : (j : Int) < l.length := by omega
          obtain ⟨bq, off, hB, hbq, x0, _, _⟩ := HKR.out.cells j hlt2
          have HS : Hid (pickI (fun p => decide (dp l r p.id = d)) (l.take (j + 1)) = if dp l r l[j].id = d then pickI (fun p => decide (dp l r p.id = d)) (l.take j) ++ [l[j].id] else pickI (fun p => decide (dp l r p.id = d)) (l.take j)) := by
            show _ = _
            rw [List.take_succ_eq_append_getElem hlt2, pick_snoc]
            by_cases h : dp l r l[j].id = d <;> simp [h]
          generalize l[j].id = z at *
          have HD := Lib.hid (rdepth_any h c B l wr HKR.out r HU.out.1 HU.out.2 z)
          subst hB
          by_cases he : dp l r z = d
          · have HS2 := Lib.hid (show pickI (fun p => decide (dp l r p.id = d)) (l.take (j + 1)) = pickI (fun p => decide (dp l r p.id = d)) (l.take j) ++ [z] by rw [HS.out, if_pos he])
            rw [he] at HD
            clear he HS
            go_wp2_with fail
            refine HD.out.mono ?_
            rintro e w2 ⟨rfl, q, rfl⟩
            have c2 : (wr.drewN q).cell? ⟨h, 0, none⟩ = some (.slice (some ⟨bq, off, none⟩) l.length c) := c1
            have x2 : (wr.drewN q).cell? ⟨bq, off + j * 3, none⟩ = some (.int .i64 z) := x0
            have H2 : Hid ((wr.drewN q).ownsRow wl.heap.size 3 1 (.slice A m c') m (nums (pickI (fun p => decide (dp l r p.id = d)) (l.take j))) ∧ Below wl.heap.size wl (wr.drewN q)) := ⟨HN.out.2.1, below_drewN HN.out.2.2 q⟩
            have hbs3 : wl.heap.size ≤ (wr.drewN q).heap.size := hbs2
            clear c1 x0
            generalize wr.drewN q = w2 at *
            go_wp2_with (first
              | (at_builtin
                 refine wpList_append_any _ rfl (.tmp 37) (.tmp 46) _ rfl wl.heap.size 3 i0 _ 1 8 Try.underlying46 hi0 hz0 hz1 hz2 rfl (by omega) (.slice A m c') m _ rfl (H2.out.1.alloc _) (w2.heap.size + 1) (some ⟨w2.heap.size, 0, none⟩) 1 1 [.int .i64 z] rfl (reads_num w2 z) (by simp [Value.oneCell']) (by simp only [maxLen]; omega) (by omega) (by simp; omega) ?_
                 intro v3 w3 hn3 hg3 hd3
                 obtain ⟨A3, c3, rfl⟩ := slice_of_own' hn3
                 have b3 : Below wl.heap.size wl w3 := (H2.out.2.alloc hbs3 _).grown hg3 (by simp; omega) (fun k hk => ownBlock_ge H2.out.1 hk)
                 have e1 : nums (pickI (fun p => decide (dp l r p.id = d)) (l.take j)) ++ [.int .i64 z] = nums (pickI (fun p => decide (dp l r p.id = d)) (l.take (j + 1))) := by rw [HS2.out, nums_append]; rfl
                 rw [e1] at hn3
                 have hm3 : m + 1 = (pickI (fun p => decide (dp l r p.id = d)) (l.take (j + 1))).length := by rw [HS2.out, List.length_append, HN.out.1]; rfl
                 have H3 := Lib.hid (And.intro hm3 (And.intro hn3 b3))
                 clear hn3 hg3 hd3 b3 e1 hm3))
            go_roundw
            case rel => exact ⟨j + 1, m + 1, c3, A3, by go_num, by omega, rfl, H3.out⟩
            case measure => simp [intOf]; omega
          · have HS2 := Lib.hid (show pickI (fun p => decide (dp l r p.id = d)) (l.take (j + 1)) = pickI (fun p => decide (dp l r p.id = d)) (l.take j) by rw [HS.out, if_neg he])
            generalize dp l r z = D at *
            have heb : ((D : Int) == (d : Int)) = false := by simp; omega
            have heb2 : (D == d) = false := by simp [he]
            clear he HS
            go_wp2_with fail
            refine HD.out.mono ?_
            rintro e w2 ⟨rfl, q, rfl⟩
            go_wp2_with fail
            go_roundw
            case rel => exact ⟨j + 1, m, c', A, by go_num, by omega, rfl, by rw [HS2.out]; exact HN.out.1, by rw [HS2.out]; exact HN.out.2.1, below_drewN HN.out.2.2 q⟩
            case measure => simp [intOf]; omega
        · obtain rfl : l.length = j := by omega
          have e0 : l.take l.length = l := List.take_of_length_le (Nat.le_refl _)
          have hm := HN.out.1
          have ho := HN.out.2.1
          rw [e0] at hm ho
          have HS := Lib.hid (rsort_any A m c' _ wr (Held.of_own ho) hm.symm (by omega))
          have hks : sortI (pickI (fun p => decide (dp l r p.id = d)) l) = levL l r d := rfl
          rw [hks] at HS
          have hvl := lev_length l r d
          clear hm ho e0 hks
          go_wp2_with (first
            | (go_at_call 38
               refine HS.out.mono ?_
               rintro e w2 ⟨A2, c2, rfl, ho2, b2⟩
               have b12 : Below wl.heap.size wl w2 := HN.out.2.2.trans (b2.mono hbs2)
               have hoo := own_below HM.out.2.1 b12 (Nat.le_refl _)
               have H2 := Lib.hid (And.intro hoo (And.intro ho2 (HM.out.2.2.trans (b12.mono hbs))))
               have hs2 := b2.size
               have hcl := (Held.of_own ho2).2.1
               have hcl2 := (Held.of_own ho2).2.2.1
               clear ho2 b2 b12 hoo)
            | (at_builtin
               refine wpList_append_any _ rfl (.tmp 48) (.tmp 50) _ rfl w.heap.size 3 i0 _ 1 8 Try.underlying46 hi0 hz0 hz1 hz2 rfl (by omega) (.slice Ao mo co) mo _ rfl H2.out.1 w2.heap.size A2 (levL l r d).length c2 (nums (levL l r d)) rfl (reads_of_held (Held.of_own H2.out.2.1)) (nums_one _) (by simp only [maxLen]; omega) (by omega) (by omega) ?_
               intro v4 w4 hn4 hg4 hd4
               obtain ⟨A4, c4, rfl⟩ := slice_of_own' hn4
               have b4 : Below w.heap.size w w4 := H2.out.2.2.grown hg4 (by omega) (fun q hq => ownBlock_ge H2.out.1 hq)
               rw [← nums_append, HQ.out] at hn4
               have hm4 : mo + (levL l r d).length = (ordD l r d).length := by rw [← HQ.out, List.length_append, ← HM.out.1]
               have H4 := Lib.hid (And.intro hm4 (And.intro hn4 b4))
               clear hn4 hg4 hd4 b4 hm4))
          go_roundw
          case rel => exact ⟨d + 1, _, c4, A4, by go_num, by omega, by omega, rfl, by rw [Nat.add_sub_cancel]; exact H4.out.1, by rw [Nat.add_sub_cancel]; exact H4.out.2.1, H4.out.2.2⟩
          case measure => simp [intOf]; omega
    · have hd4 : (l.length : Int) < d := by omega
      have HE := Lib.hid (show d - 1 = l.length by omega)
      have hm := HM.out.1
      have ho := HM.out.2.1
      rw [HE.out] at hm ho
      have HF := Lib.hid (And.intro hm ho)
      clear hm ho
      go_wp2_with fail
      go_ret
      have hm := HF.out.1
      have ho := HF.out.2
      have e : (ordL l r).length = mo := hm.symm
      exact ⟨Ao, co, by rw [e]; rfl, by rw [e]; exact ho, HM.out.2.2⟩
end Go.Proofs.Ytifgbnjpiphidaa
