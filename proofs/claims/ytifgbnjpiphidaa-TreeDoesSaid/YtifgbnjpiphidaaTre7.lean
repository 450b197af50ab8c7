/- The walk of tree's Order. -/
import Derived.Test.YtifgbnjpiphidaaRows
import Derived.WalkKit
import Derived.ProofKit
import Derived.Handy
import Derived.Deep.QuietTactic
import Derived.BigQuiet
import Derived.Deep.RegionWith
import Derived.Deep.RegionHeld3
import Derived.Deep.AppendLies
import Derived.WalkLawsBesides
import Derived.WalkSmall
import Derived.Deep.Cut
import Derived.Deep.LoopGhost
import Derived.Test.YtifgbnjpiphidaaCut
import Derived.Test.YtifgbnjpiphidaaTreD
namespace Go.Proofs.Ytifgbnjpiphidaa
open Go.RowKit
set_option linter.unusedVariables false
theorem order_nil (w : World) : Calls Try.prog 17 #[.pointer none] w (IntsAre w []) := by
  go_enter Try.func17, Try.ntmps17
  go_wp2_with fail
  refine (kids_nil _ _).mono ?_
  rintro e w1 ⟨A, c, rfl, hh, hb⟩
  have H := Lib.hid hb
  clear hh hb
  rw [show ([] : List Int).length = 0 from rfl]
  go_wp2_with fail
  refine wp_loop_rounds 1 ?_
  rw [rounds_succ]
  go_wp2_with fail
  go_ret
  exact ⟨none, 0, rfl, Held.nil_ _ _ _, H.out⟩
theorem flat_le (l : List Nd) (a : List Int) : (a.flatMap (kidsL l)).length ≤ a.length * l.length := by
  induction a with
  | nil => simp
  | cons x r ih =>
    rw [List.flatMap_cons, List.length_append, List.length_cons, Nat.succ_mul]
    have := kids_length l x
    omega
set_option maxHeartbeats 4000000 in
theorem order_any (g b : Nat) (most : Int) (l : List Nd) (w : World) (k : Trs w g b most l) (r : Int → Nat) (ht : TreeOk l r) :
    Calls Try.prog 17 #[.pointer (some ⟨g, 0, none⟩)] w (IntsAre w (ordL l r)) := by
  obtain ⟨i0, hi0, hz0, hz1, hz2⟩ := info_parts info_INT
  have HK := Lib.hid k
  have HT := Lib.hid ht
  have hfew := k.few
  have HK0 := Lib.hid (kids_own g b most l w k 0)
  rw [lev_kids0 ht] at HK0
  clear k ht
  go_enter Try.func17, Try.ntmps17
  go_wp2_with fail
  refine HK0.out.mono ?_
  rintro e w1 ⟨A1, c1, rfl, ho1, b1⟩
  have H1 := Lib.hid (And.intro ho1 b1)
  clear ho1 b1 HK0
  go_wp2_with fail
  go_loopg [3, 4] (l.length + 2) (fun gg ov lv wr => ∃ (d mo co ml cl : Nat) (Ao Al : Option Addr), gg + d = l.length + 2 ∧ ov = .slice Ao mo co ∧ lv = .slice Al ml cl ∧ mo = (ordD l r d).length ∧ ml = (levL l r (d + 1)).length ∧
    wr.ownsRow w.heap.size 3 1 (.slice Ao mo co) mo (nums (ordD l r d)) ∧ wr.ownsRow w.heap.size 3 1 (.slice Al ml cl) ml (nums (levL l r (d + 1))) ∧ (∀ q, (Value.slice Ao mo co).ownBlock = some q → (Value.slice Al ml cl).ownBlock ≠ some q) ∧ Below w.heap.size w wr)
  case atStart => exact ⟨0, 0, 0, _, c1, none, A1, by omega, rfl, rfl, rfl, rfl, own_nil _ _ _ _, H1.out.1, fun q hq => by simp [Value.ownBlock] at hq, H1.out.2⟩
  case round =>
    obtain ⟨d, mo, co, ml, cl, Ao, Al, hgd, rfl, rfl, hmo, hml, hoo, hol, hne, hb⟩ := hrel
    have hle := ordD_length l r d
    have hle2 := lev_length l r (d + 1)
    rw [← hmo] at hle
    rw [← hml] at hle2
    have HO := Lib.hid (And.intro hoo (And.intro hol (And.intro hne (And.intro hb (And.intro hmo hml)))))
    have hbs := hb.size
    clear hoo hol hne hb hmo hml
    rcases Nat.eq_zero_or_pos ml with h0 | h0
    · subst h0
      have he : levL l r (d + 1) = [] := List.eq_nil_of_length_eq_zero HO.out.2.2.2.2.2.symm
      have hd := ordD_done HT.out he
      have HD := Lib.hid hd
      clear he hd
      go_wp2_with fail
      go_ret
      have e1 := HO.out.2.2.2.2.1
      have e2 := HO.out.1
      rw [HD.out] at e1 e2
      exact ⟨Ao, co, by rw [← e1]; rfl, by rw [← e1]; exact Held.of_own e2, HO.out.2.2.2.1⟩
    · have hdl : d + 1 ≤ l.length := by
        have h1 := HO.out.2.2.2.2.2
        obtain ⟨x, hx⟩ := List.exists_mem_of_length_pos (show 0 < (levL l r (d + 1)).length by omega)
        have h2 := ((mem_lev HT.out.uq).1 hx).2
        have h3 := dp_le HT.out x
        omega
      have hmp : (0 : Int) < ml := by omega
      have hcl := (Held.of_own HO.out.2.1).2.1
      have hcl2 := (Held.of_own HO.out.2.1).2.2.1
      go_wp2_with (first
        | (at_builtin
           refine wpList_append_any _ rfl (.tmp 13) (.tmp 14) _ rfl w.heap.size 3 i0 _ 1 8 Try.underlying46 hi0 hz0 hz1 hz2 rfl (by omega) (.slice Ao mo co) mo _ rfl HO.out.1 wr.heap.size Al ml cl (nums (levL l r (d + 1))) rfl (reads_of_held (Held.of_own HO.out.2.1)) (nums_one _) (by simp only [maxLen]; omega) (by omega) hbs ?_
           intro v4 w4 hn4 hg4 hd4
           obtain ⟨A4, c4, rfl⟩ := slice_of_own' hn4
           have hl4 := HO.out.2.1.kept hg4 (by
             cases hq : (Value.slice Al ml cl).ownBlock with
             | none => exact .inl rfl
             | some q =>
               refine .inr fun e => ?_
               exact HO.out.2.2.1 q e.symm hq)
           have b4 : Below w.heap.size w w4 := HO.out.2.2.2.1.grown hg4 hbs (fun q hq => ownBlock_ge HO.out.1 hq)
           rw [← nums_append, ← ordD_succ] at hn4
           have H4 := Lib.hid (And.intro hn4 (And.intro hl4 b4))
           clear hn4 hg4 hd4 hl4 b4))
      have hws4 := H4.out.2.2.size
      have hh4 := Held.of_own H4.out.2.1
      have HH4 := Lib.hid hh4
      have HML := Lib.hid HO.out.2.2.2.2.2
      have hHO := HO.out.2.2.2.2.1
      have HMO := Lib.hid (show mo + ml = (ordD l r (d + 1)).length by rw [ordD_succ, List.length_append, ← hHO, ← HML.out])
      clear hh4 hHO HO
      go_loopw [5, 18] (fun nv jv wx => ∃ (j mn cn : Nat) (An : Option Addr), j ≤ ml ∧ jv = .int .i64 j ∧ nv = .slice An mn cn ∧ mn = (((levL l r (d + 1)).take j).flatMap (kidsL l)).length ∧ wx.ownsRow w4.heap.size 3 1 (.slice An mn cn) mn (nums (((levL l r (d + 1)).take j).flatMap (kidsL l))) ∧ Below w4.heap.size w4 wx) (fun _ j _ => ml - (intOf j).toNat)
      case atStart => exact ⟨0, 0, 0, none, by omega, rfl, rfl, rfl, own_nil _ _ _ _, Below.refl _ _⟩
      case round =>
        obtain ⟨j, mn, cn, An, hj, rfl, rfl, hmn, hon, hb5⟩ := hrel
        have hfl := flat_le l ((levL l r (d + 1)).take j)
        rw [← hmn, List.length_take] at hfl
        have hfl2 : mn ≤ 256 * 256 := Nat.le_trans hfl (Nat.mul_le_mul (by omega) hfew)
        have H5 := Lib.hid (And.intro hon (And.intro hb5 hmn))
        have hs5 := hb5.size
        clear hon hb5 hmn hfl
        have hj0 : (0 : Int) ≤ j := by omega
        by_cases hlt : j < ml
        · have hjl : j < (levL l r (d + 1)).length := by rw [← HML.out]; exact hlt
          obtain ⟨ab, ao, rfl, hal, x0⟩ := (HH4.out.below H5.out.2.1).at_ (j := j) (u := .int .i64 (levL l r (d + 1))[j]) (by simp [nums, hjl])
          have hj1 : (j : Int) < ml := by omega
          have hts : (levL l r (d + 1)).take (j + 1) = (levL l r (d + 1)).take j ++ [(levL l r (d + 1))[j]] := List.take_succ_eq_append_getElem hjl
          have HTS := Lib.hid (show ((levL l r (d + 1)).take (j + 1)).flatMap (kidsL l) = ((levL l r (d + 1)).take j).flatMap (kidsL l) ++ kidsL l (levL l r (d + 1))[j] by rw [hts, List.flatMap_append]; simp)
          clear hts
          generalize (levL l r (d + 1))[j] = x at *
          have hkx := kids_length l x
          go_wp2_with (first
            | (go_at_call 20
               refine (kids_own g b most l wr (HK.out.below (H4.out.2.2.trans (H5.out.2.1.mono hws4))) x).mono ?_
               rintro e w6 ⟨A6, c6, rfl, ho6, b6⟩
               have hn6 := own_below H5.out.1 b6 (Nat.le_refl _)
               have H6 := Lib.hid (And.intro hn6 (And.intro ho6 (H5.out.2.1.trans (b6.mono hs5))))
               have hs6 := b6.size
               clear hn6 ho6 b6)
            | (at_builtin
               refine wpList_append_any _ rfl (.tmp 22) (.tmp 25) _ rfl w4.heap.size 3 i0 _ 1 8 Try.underlying46 hi0 hz0 hz1 hz2 rfl (by omega) (.slice An mn cn) mn _ rfl H6.out.1 w6.heap.size A6 (kidsL l x).length c6 (nums (kidsL l x)) rfl (reads_of_held (Held.of_own H6.out.2.1)) (nums_one _) (by simp only [maxLen]; omega) (by omega) (by omega) ?_
               intro v7 w7 hn7 hg7 hd7
               obtain ⟨A7, c7, rfl⟩ := slice_of_own' hn7
               have b7 : Below w4.heap.size w4 w7 := H6.out.2.2.grown hg7 (by omega) (fun q hq => ownBlock_ge H6.out.1 hq)
               rw [← nums_append, ← HTS.out] at hn7
               have hl7 : mn + (kidsL l x).length = (((levL l r (d + 1)).take (j + 1)).flatMap (kidsL l)).length := by rw [HTS.out, List.length_append, H5.out.2.2]
               have H7 := Lib.hid (And.intro hl7 (And.intro hn7 b7))
               clear hn7 hg7 hd7 b7 hl7))
          go_roundw
          case rel => exact ⟨j + 1, _, c7, A7, by omega, by go_num, rfl, H7.out⟩
          case measure => simp [intOf]; omega
        · obtain rfl : ml = j := by omega
          have e0 : (levL l r (d + 1)).take ml = levL l r (d + 1) := List.take_of_length_le (by rw [← HML.out]; exact Nat.le_refl _)
          have hon := H5.out.1
          have hmn := H5.out.2.2
          rw [e0] at hon hmn
          have HS := Lib.hid (sort_any w4.heap.size wr An mn cn _ hon hmn.symm (by omega) hs5)
          have hsl : mn = (levL l r (d + 1 + 1)).length := by
            rw [← lev_next HT.out (d + 1) (by omega), sortI_length]
            exact hmn
          have HSL := Lib.hid hsl
          clear hon hmn hsl e0
          go_wp2_with fail
          refine HS.out.mono ?_
          rintro e w8 ⟨rfl, ho8, b8⟩
          rw [lev_next HT.out (d + 1) (by omega)] at ho8
          have b48 : Below w4.heap.size w4 w8 := H5.out.2.1.trans b8
          have hoo := own_below H4.out.1 b48 (Nat.le_refl _)
          have hne8 : ∀ q, (Value.slice A4 (mo + ml) c4).ownBlock = some q → (Value.slice An mn cn).ownBlock ≠ some q := fun q h1 h2 => by
            have := own_lt H4.out.1 h1
            have := ownBlock_ge ho8 h2
            omega
          have H8 := Lib.hid (And.intro hoo (And.intro (own_base ho8 hws4) (And.intro hne8 (H4.out.2.2.trans (b48.mono hws4)))))
          clear hoo ho8 hne8 b48 b8
          go_wp2_with fail
          go_roundg (l.length + 1 - d)
          case measure => omega
          case rel => exact ⟨d + 1, mo + ml, c4, mn, cn, A4, An, by omega, rfl, rfl, HMO.out, HSL.out, H8.out⟩
end Go.Proofs.Ytifgbnjpiphidaa
