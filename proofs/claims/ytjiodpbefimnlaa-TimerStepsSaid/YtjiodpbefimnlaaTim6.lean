/- The walks of the answer's timers: Find, Stop, Due; the law's ids. -/
import Derived.Test.YtjiodpbefimnlaaRows
import Derived.WalkKit
import Derived.ProofKit
import Derived.Handy
import Derived.Test.YtjiodpbefimnlaaTim3
import Derived.Test.YtjiodpbefimnlaaPrs
import Derived.Deep.QuietTactic
import Derived.BigQuiet
import Derived.Deep.RegionWith
import Derived.Deep.RegionHeld3
import Derived.Deep.AppendLies
import Derived.WalkLawsBesides
import Derived.WalkSmall
namespace Go.Proofs.Ytjiodpbefimnlaa
open Go.RowKit
set_option linter.unusedVariables false
theorem info_TM : (Try.prog.info? 41).map (fun i => (i.zero, i.size, i.bytes)) = some (some (.agg #[.int .i64 0, .int .i64 0]), 2, 16) := by kernel_rfl
def FindIs (l : List (Int × Int)) (x r : Int) : Prop := (∃ (k : Nat) (hk : k < l.length), l[k].1 = x ∧ r = (k : Int)) ∨ (r = -1 ∧ ∀ (j : Nat) (hj : j < l.length), l[j].1 ≠ x)
def FindE (w : World) (l : List (Int × Int)) (x : Int) (e : Ending) (w' : World) : Prop := ∃ r, e = .returned (.int .i64 r) ∧ FindIs l x r ∧ w = w'
theorem find_any (A : Option Addr) (n c : Nat) (l : List (Int × Int)) (x : Int) (w : World) (hn : n = l.length) (h : Held w 41 2 A n c (prs l)) :
    Calls Try.prog 11 #[.slice A n c, .int .i64 x] w (FindE w l x) := by
  have hc := h.2.1
  have hc2 := h.2.2.1
  have HK := Lib.hid h
  have HN := Lib.hid hn
  clear h hn
  go_enter Try.func11, Try.ntmps11
  go_wp2_with fail
  go_loop [5] (fun iv => ∃ k : Nat, k ≤ n ∧ iv = .int .i64 k ∧ ∀ (j : Nat) (hj : j < l.length), j < k → l[j].1 ≠ x) (fun i => n - (intOf i).toNat)
  case atStart => exact ⟨0, by omega, rfl, fun j _ h => absurd h (by omega)⟩
  case round =>
    obtain ⟨k, hk, rfl, hno⟩ := hrel
    have HNO := Lib.hid hno
    clear hno
    by_cases hlt : k < n
    · have hkl : k < l.length := by rw [← HN.out]; exact hlt
      obtain ⟨b, off, rfl, hb, c0, _⟩ := held_prs HK.out hkl
      have hk0 : (0 : Int) ≤ k := by omega
      have hk1 : (k : Int) < n := by omega
      by_cases he : l[k].1 = x
      · have HE := Lib.hid he
        rw [he] at c0
        clear he
        go_wp2_with fail
        go_ret
        exact ⟨_, rfl, .inl ⟨k, hkl, HE.out, rfl⟩, rfl⟩
      · have HE := Lib.hid he
        generalize hy : l[k].1 = y at *
        have HY := Lib.hid hy
        have hyx : (y == x) = false := by simp [he]
        clear he hy
        go_wp2_with fail
        go_round
        case rel =>
          refine ⟨k + 1, by omega, by go_num, fun j hj hjk => ?_⟩
          rcases Nat.lt_or_ge j k with h | h
          · exact HNO.out j hj h
          · obtain rfl : j = k := by omega
            rw [HY.out]
            exact HE.out
        case measure => simp [intOf]; omega
    · obtain rfl : n = k := by omega
      go_wp2_with fail
      go_ret
      exact ⟨-1, rfl, .inr ⟨rfl, fun j hj => HNO.out j hj (by rw [HN.out]; exact hj)⟩, rfl⟩
def TmsAre (w : World) (l' : List (Int × Int)) (e : Ending) (w' : World) : Prop :=
  ∃ A' c', e = .returned (.slice A' l'.length c') ∧ Held w' 41 2 A' l'.length c' (prs l') ∧ Below w.heap.size w w'
theorem stopT_snoc (l : List (Int × Int)) (x : Int) (p : Int × Int) : stopT (l ++ [p]) x = if p.1 = x then stopT l x else stopT l x ++ [p] := by
  unfold stopT
  rw [List.filter_append]
  by_cases h : p.1 = x <;> simp [h]
theorem stopT_le (l : List (Int × Int)) (x : Int) : (stopT l x).length ≤ l.length := List.length_filter_le _ _
set_option maxHeartbeats 2000000 in
theorem rstop_any (A : Option Addr) (n c : Nat) (l : List (Int × Int)) (x : Int) (w : World) (hn : n = l.length) (hnb : n ≤ 5000) (h : Held w 41 2 A n c (prs l)) :
    Calls Try.prog 12 #[.slice A n c, .int .i64 x] w (TmsAre w (stopT l x)) := by
  obtain ⟨i0, hi0, hz0, hz1, hz2⟩ := info_parts info_TM
  have hc := h.2.1
  have hc2 := h.2.2.1
  have HN := Lib.hid hn
  have HK := Lib.hid h
  clear h hn
  go_enter Try.func12, Try.ntmps12
  go_wp2_with fail
  go_loopw [5, 6] (fun ov iv wr => ∃ (k m c' : Nat) (B : Option Addr), k ≤ n ∧ iv = .int .i64 k ∧ ov = .slice B m c' ∧ m = (stopT (l.take k) x).length ∧ wr.ownsRow w.heap.size 41 2 (.slice B m c') m (prs (stopT (l.take k) x)) ∧ Below w.heap.size w wr) (fun _ i _ => n - (intOf i).toNat)
  case atStart => exact ⟨0, 0, 0, none, by omega, rfl, rfl, rfl, own_nil _ _ _ _, Below.refl _ _⟩
  case round =>
    obtain ⟨k, m, c', B, hk, rfl, rfl, hm, ho, hb⟩ := hrel
    have HM := Lib.hid hm
    have HO := Lib.hid (And.intro ho hb)
    have hmb : m ≤ k := by rw [hm]; exact Nat.le_trans (stopT_le _ x) (by rw [List.length_take]; omega)
    have hbs := hb.size
    clear ho hb hm
    by_cases hlt : k < n
    · have hkl : k < l.length := by rw [← HN.out]; exact hlt
      obtain ⟨b, off, rfl, hbk, c0, c1⟩ := held_prs (HK.out.below HO.out.2) hkl
      have hk0 : (0 : Int) ≤ k := by omega
      have hk1 : (k : Int) < n := by omega
      have HS : Hid (stopT (l.take (k + 1)) x = if l[k].1 = x then stopT (l.take k) x else stopT (l.take k) x ++ [(l[k].1, l[k].2)]) := by
        show stopT (l.take (k + 1)) x = _
        rw [List.take_succ_eq_append_getElem hkl, stopT_snoc]
      generalize l[k].1 = y at *
      generalize l[k].2 = z at *
      by_cases he : y = x
      · have HS2 := Lib.hid (show stopT (l.take (k + 1)) x = stopT (l.take k) x by rw [HS.out, if_pos he])
        subst he
        go_wp2_with fail
        go_roundw
        case rel => exact ⟨k + 1, m, c', B, by omega, by go_num, rfl, by rw [HS2.out]; exact HM.out, by rw [HS2.out]; exact HO.out.1, HO.out.2⟩
        case measure => simp [intOf]; omega
      · have HS2 := Lib.hid (show stopT (l.take (k + 1)) x = stopT (l.take k) x ++ [(y, z)] by rw [HS.out, if_neg he])
        have hyx : (y != x) = true := by simp [he]
        have HR := Lib.hid (reads_pair wr 41 y z)
        clear he
        go_wp2_with (first
          | (at_builtin
             refine wpList_append_any _ rfl (.tmp 20) (.tmp 25) _ rfl w.heap.size 41 i0 _ 2 16 Try.underlying26 hi0 hz0 hz1 hz2 rfl (by omega) (.slice B m c') m _ rfl (HO.out.1.alloc _) (wr.heap.size + 1) (some ⟨wr.heap.size, 0, none⟩) 1 1 [.int .i64 y, .int .i64 z] rfl HR.out (by simp [Value.oneCell']) (by simp only [maxLen]; omega) (by omega) (by simp; omega) ?_
             intro v1 w1 hn1 hg1 hd1
             obtain ⟨B1, k1, rfl⟩ := slice_of_own' hn1
             have b1 : Below w.heap.size w w1 := (HO.out.2.alloc hbs _).grown hg1 (by simp; omega) (fun k hk => ownBlock_ge HO.out.1 hk)
             have H1 := Lib.hid (And.intro hn1 b1)
             clear hn1 hg1 hd1 b1))
        go_roundw
        case rel => exact ⟨k + 1, m + 1, k1, B1, by omega, by go_num, rfl, by rw [HS2.out, List.length_append, ← HM.out]; rfl, by rw [HS2.out, prs_snoc]; exact H1.out.1, H1.out.2⟩
        case measure => simp [intOf]; omega
    · obtain rfl : n = k := by omega
      go_wp2_with fail
      have e0 : l.take n = l := List.take_of_length_le (by rw [HN.out]; exact Nat.le_refl _)
      have hm := HM.out
      have ho := HO.out.1
      rw [e0] at hm ho
      go_ret
      exact ⟨B, c', by rw [← hm]; rfl, by rw [← hm]; exact Held.of_own ho, HO.out.2⟩
theorem due_snoc (l : List (Int × Int)) (now : Int) (k : Nat) (hk : k < l.length) (h : ∀ (j : Nat) (hj : j < l.length), j < k → l[j].2 ≤ now) : (l[k].2 ≤ now → ∀ (j : Nat) (hj : j < l.length), j < k + 1 → l[j].2 ≤ now) ∧ (¬ l[k].2 ≤ now → (dueT l now).length = k) := by
  refine ⟨fun he j hj hjk => ?_, fun he => ?_⟩
  · rcases Nat.lt_or_ge j k with h1 | h1
    · exact h j hj h1
    · obtain rfl : j = k := by omega
      exact he
  · unfold dueT
    have e : l = l.take k ++ l[k] :: l.drop (k + 1) := by rw [← List.drop_eq_getElem_cons hk, List.take_append_drop]
    have ht : ∀ p ∈ l.take k, decide (p.2 ≤ now) = true := fun p hp => by
      obtain ⟨j, hj, rfl⟩ := List.mem_iff_getElem.1 hp
      rw [List.length_take] at hj
      rw [List.getElem_take]
      exact decide_eq_true (h j (by omega) (by omega))
    generalize hq : l[k] = q at *
    rw [e, List.takeWhile_append_of_pos ht, List.takeWhile_cons, if_neg (by simpa using he), List.append_nil, List.length_take]
    omega
theorem due_end (l : List (Int × Int)) (now : Int) (h : ∀ (j : Nat) (hj : j < l.length), j < l.length → l[j].2 ≤ now) : (dueT l now).length = l.length := by
  unfold dueT
  have ht : ∀ p ∈ l, decide (p.2 ≤ now) = true := fun p hp => by
    obtain ⟨j, hj, rfl⟩ := List.mem_iff_getElem.1 hp
    exact decide_eq_true (h j hj hj)
  have := List.takeWhile_append_of_pos (l₂ := ([] : List (Int × Int))) ht
  rw [List.append_nil, List.takeWhile_nil, List.append_nil] at this
  rw [this]
theorem rdue_any (A : Option Addr) (n c : Nat) (l : List (Int × Int)) (now : Int) (w : World) (hn : n = l.length) (h : Held w 41 2 A n c (prs l)) :
    Calls Try.prog 13 #[.slice A n c, .int .i64 now] w fun e w' => e = .returned (.int .i64 (dueT l now).length) ∧ w = w' := by
  have hc := h.2.1
  have hc2 := h.2.2.1
  have HK := Lib.hid h
  have HN := Lib.hid hn
  clear h hn
  go_enter Try.func13, Try.ntmps13
  go_wp2_with fail
  go_loop [5] (fun iv => ∃ k : Nat, k ≤ n ∧ iv = .int .i64 k ∧ ∀ (j : Nat) (hj : j < l.length), j < k → l[j].2 ≤ now) (fun i => n - (intOf i).toNat)
  case atStart => exact ⟨0, by omega, rfl, fun j _ h => absurd h (by omega)⟩
  case round =>
    obtain ⟨k, hk, rfl, hno⟩ := hrel
    have HNO := Lib.hid hno
    clear hno
    by_cases hlt : k < n
    · have hkl : k < l.length := by rw [← HN.out]; exact hlt
      obtain ⟨b, off, rfl, hb, _, c0⟩ := held_prs HK.out hkl
      have HS := Lib.hid (due_snoc l now k hkl HNO.out)
      have hk0 : (0 : Int) ≤ k := by omega
      have hk1 : (k : Int) < n := by omega
      by_cases he : l[k].2 ≤ now
      · have HE := Lib.hid (HS.out.1 he)
        generalize l[k].2 = y at *
        go_wp2_with fail
        go_round
        case rel => exact ⟨k + 1, by omega, by go_num, HE.out⟩
        case measure => simp [intOf]; omega
      · have HE := Lib.hid (HS.out.2 he)
        have he' : now < l[k].2 := by omega
        clear he
        generalize l[k].2 = y at *
        go_wp2_with fail
        go_ret
        exact ⟨by rw [HE.out]; rfl, rfl⟩
    · obtain rfl : n = k := by omega
      have HE := Lib.hid (due_end l now (fun j hj _ => HNO.out j hj (by rw [HN.out]; exact hj)))
      go_wp2_with fail
      go_ret
      exact ⟨by rw [HE.out, ← HN.out]; rfl, rfl⟩
set_option maxHeartbeats 1000000 in
theorem ids_any (A : Option Addr) (n c : Nat) (l : List (Int × Int)) (w : World) (hn : n = l.length) (hnb : n ≤ 5000) (h : Held w 41 2 A n c (prs l)) :
    Calls Try.prog 16 #[.slice A n c] w (IntsAre w (ids l)) := by
  obtain ⟨i0, hi0, hz0, hz1, hz2⟩ := info_parts info_INT
  have hc := h.2.1
  have hc2 := h.2.2.1
  have HN := Lib.hid hn
  have HK := Lib.hid h
  clear h hn
  go_enter Try.func16, Try.ntmps16
  go_wp2_with fail
  go_loopw [3, 4] (fun ov iv wr => ∃ (k c' : Nat) (B : Option Addr), k ≤ n ∧ iv = .int .i64 k ∧ ov = .slice B k c' ∧ wr.ownsRow w.heap.size 3 1 (.slice B k c') k (nums (ids (l.take k))) ∧ Below w.heap.size w wr) (fun _ i _ => n - (intOf i).toNat)
  case atStart => exact ⟨0, 0, none, by omega, rfl, rfl, own_nil _ _ _ _, Below.refl _ _⟩
  case round =>
    obtain ⟨k, c', B, hk, rfl, rfl, ho, hb⟩ := hrel
    have HO := Lib.hid (And.intro ho hb)
    have hbs := hb.size
    clear ho hb
    by_cases hlt : k < n
    · have hkl : k < l.length := by rw [← HN.out]; exact hlt
      obtain ⟨b, off, rfl, hbk, c0, c1⟩ := held_prs (HK.out.below HO.out.2) hkl
      have hk0 : (0 : Int) ≤ k := by omega
      have hk1 : (k : Int) < n := by omega
      have HS : Hid (nums (ids (l.take (k + 1))) = nums (ids (l.take k)) ++ [.int .i64 l[k].1]) := by
        show nums (ids (l.take (k + 1))) = _
        rw [List.take_succ_eq_append_getElem hkl]
        unfold ids
        rw [List.map_append, nums_append]
        rfl
      generalize l[k].1 = y at *
      have HR := Lib.hid (reads_num wr y)
      go_wp2_with (first
        | (at_builtin
           refine wpList_append_any _ rfl (.tmp 11) (.tmp 17) _ rfl w.heap.size 3 i0 _ 1 8 Try.underlying34 hi0 hz0 hz1 hz2 rfl (by omega) (.slice B k c') k _ rfl (HO.out.1.alloc _) (wr.heap.size + 1) (some ⟨wr.heap.size, 0, none⟩) 1 1 [.int .i64 y] rfl HR.out (by simp [Value.oneCell']) (by simp only [maxLen]; omega) (by omega) (by simp; omega) ?_
           intro v1 w1 hn1 hg1 hd1
           obtain ⟨B1, k1, rfl⟩ := slice_of_own' hn1
           have b1 : Below w.heap.size w w1 := (HO.out.2.alloc hbs _).grown hg1 (by simp; omega) (fun k hk => ownBlock_ge HO.out.1 hk)
           have H1 := Lib.hid (And.intro hn1 b1)
           clear hn1 hg1 hd1 b1))
      go_roundw
      case rel => exact ⟨k + 1, k1, B1, by omega, by go_num, rfl, by rw [HS.out]; exact H1.out.1, H1.out.2⟩
      case measure => simp [intOf]; omega
    · obtain rfl : n = k := by omega
      have e0 := Lib.hid (show l.take n = l from List.take_of_length_le (by rw [HN.out]; exact Nat.le_refl _))
      have hil := Lib.hid (show (ids l).length = n by rw [HN.out]; simp [ids])
      go_wp2_with fail
      go_ret
      have ho := HO.out.1
      rw [e0.out] at ho
      exact ⟨B, c', by rw [hil.out]; rfl, by rw [hil.out]; exact Held.of_own ho, HO.out.2⟩
/-- The tick that an act says. -/
def tickI (now n : Int) (bh : Bool) : Int := if bh then now + n.tmod 1000 else n
theorem tick_any (now k x n : Int) (bh : Bool) (w : World) (h0 : 0 ≤ now) (h1 : now ≤ 1099511627776) :
    Calls Try.prog 9 #[.int .i64 now, .agg #[.int .i64 k, .int .i64 x, .int .i64 n, .bool bh]] w fun e w' => e = .returned (.int .i64 (tickI now n bh)) ∧ Below w.heap.size w w' := by
  have m1 : -1000 < n.tmod 1000 := Int.lt_tmod_of_pos n (by decide)
  have m2 : n.tmod 1000 < 1000 := Int.tmod_lt_of_pos n (by decide)
  have hw : IntKind.i64.wrap (now + n.tmod 1000) = now + n.tmod 1000 := by rw [IntKind.wrap_i64]; omega
  cases bh
  · go_enter Try.func9, Try.ntmps9
    go_wp2_with fail
    go_ret
    exact ⟨rfl, (Below.refl _ _).alloc (Nat.le_refl _) _⟩
  · go_enter Try.func9, Try.ntmps9
    go_wp2_with fail
    go_ret
    exact ⟨rfl, (Below.refl _ _).alloc (Nat.le_refl _) _⟩
end Go.Proofs.Ytjiodpbefimnlaa
