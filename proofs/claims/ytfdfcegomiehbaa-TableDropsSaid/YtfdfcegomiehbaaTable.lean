/- The walks of package table, first part: what is there, find, what only reads. -/
import Derived.Test.YtfdfcegomiehbaaRows
import Derived.WalkKit
import Derived.ProofKit
import Derived.Handy
import Derived.Test.YtfdfcegomiehbaaMem
import Derived.Test.YtfdfcegomiehbaaLift
import Derived.Test.YtfdfcegomiehbaaApp
import Derived.Test.YtfdfcegomiehbaaReads
import Derived.Test.YtfdfcegomiehbaaOrd
import Derived.Test.YtfdfcegomiehbaaRow
import Derived.Test.YtfdfcegomiehbaaIns
import Derived.Deep.QuietTactic
import Derived.BigQuiet
import Derived.Deep.RegionWith
import Derived.Deep.RegionHeld3
import Derived.Deep.AppendLies
import Derived.WalkLawsBesides
import Derived.WalkSmall
namespace Go.Proofs.Ytfdfcegomiehbaa
open Go.RowKit
set_option linter.unusedVariables false

/-- The cells of pairs. -/
def prs (l : List (Int × Int)) : List Value := l.flatMap fun p => [.int .i64 p.1, .int .i64 p.2]
theorem prs_length (l : List (Int × Int)) : (prs l).length = l.length * 2 := by
  unfold prs
  induction l with
  | nil => rfl
  | cons p r ih => simp only [List.flatMap_cons, List.length_append, List.length_cons, List.length_nil, ih]; omega
theorem prs_one (l : List (Int × Int)) : ∀ u ∈ prs l, u.oneCell' = true := by
  intro u hu
  simp only [prs, List.mem_flatMap] at hu
  obtain ⟨p, _, hp⟩ := hu
  simp at hp
  rcases hp with rfl | rfl <;> rfl
theorem prs_append (a b : List (Int × Int)) : prs (a ++ b) = prs a ++ prs b := by simp [prs]
theorem prs_take (l : List (Int × Int)) (i : Nat) : (prs l).take (i * 2) = prs (l.take i) := by
  rcases Nat.lt_or_ge l.length i with h | h
  · rw [List.take_of_length_le (by rw [prs_length]; omega), List.take_of_length_le (by omega)]
  · have e : prs l = prs (l.take i) ++ prs (l.drop i) := by rw [← prs_append, List.take_append_drop]
    rw [e]
    exact take_app (by rw [prs_length, List.length_take]; omega)
theorem prs_drop (l : List (Int × Int)) (i : Nat) (h : i ≤ l.length) : (prs l).drop (i * 2) = prs (l.drop i) := by
  have e : prs l = prs (l.take i) ++ prs (l.drop i) := by rw [← prs_append, List.take_append_drop]
  have hl : (prs (l.take i)).length = i * 2 := by rw [prs_length, List.length_take]; omega
  rw [e, List.drop_append_of_le_length (by omega), List.drop_eq_nil_of_le (by omega), List.nil_append]
theorem prs_at (l : List (Int × Int)) (i : Nat) (h : i < l.length) : (prs l)[i * 2]? = some (.int .i64 l[i].1) ∧ (prs l)[i * 2 + 1]? = some (.int .i64 l[i].2) := by
  have e := prs_drop l i (by omega)
  rw [List.drop_eq_getElem_cons h] at e
  have h0 := congrArg (fun x => x[0]?) e
  have h1 := congrArg (fun x => x[1]?) e
  simp only [List.getElem?_drop, Nat.add_zero] at h0 h1
  exact ⟨h0, h1⟩
/-- Rising numbers. -/
def Srt (l : List (Int × Int)) : Prop := ∀ (i j : Nat) (hi : i < l.length) (hj : j < l.length), i < j → l[i].1 < l[j].1
/-- A table: its block g; its row a block of its own, from base on. -/
structure TabAt (base : Nat) (w : World) (g : Nat) (most : Int) (A : Option Addr) (cap : Nat) (l : List (Int × Int)) : Prop where
  blk : Blk w g 54 #[.int .i64 most, .slice A l.length cap]
  own : w.ownsRow base 58 2 (.slice A l.length cap) l.length (prs l)
  srt : Srt l
  few : l.length ≤ 1024
  bas : base ≤ g
section
variable {base : Nat} {w w' : World} {g cap : Nat} {most : Int} {A : Option Addr} {l : List (Int × Int)}
theorem TabAt.lt (k : TabAt base w g most A cap l) : g < w.heap.size := Blk.lt k.blk
theorem TabAt.below (k : TabAt base w g most A cap l) (hb : Below w.heap.size w w') : TabAt base w' g most A cap l := ⟨Blk.below k.blk hb (Blk.lt k.blk), own_below k.own hb (Nat.le_refl _), k.srt, k.few, k.bas⟩
theorem TabAt.drewN (k : TabAt base w g most A cap l) (n : Nat) : TabAt base (w.drewN n) g most A cap l := k.below (below_drewN (Below.refl _ _) n)
theorem TabAt.alloc (k : TabAt base w g most A cap l) (o : Obj) : TabAt base (w.alloc o) g most A cap l := k.below ((Below.refl _ _).alloc (Nat.le_refl _) o)
theorem TabAt.ne (k : TabAt base w g most A cap l) : (Value.slice A l.length cap).ownBlock ≠ some g := own_blk_ne k.own k.blk (by decide)
theorem TabAt.capb (k : TabAt base w g most A cap l) : l.length ≤ cap ∧ cap ≤ 9223372036854775807 := by
  rcases k.own.2 with ⟨hx, h0⟩ | ⟨g, c, cur, hx, _, _, h1, h2, _⟩
  · injection hx with h1 h2 h3; omega
  · injection hx with _ _ h3; subst h3; exact ⟨h1, by unfold maxLen at h2; omega⟩
/-- Element i's cells. -/
theorem TabAt.cells (k : TabAt base w g most A cap l) (i : Nat) (hi : i < l.length) : ∃ gb, A = some ⟨gb, 0, none⟩ ∧ gb < w.heap.size ∧ w.cell? ⟨gb, i * 2, none⟩ = some (.int .i64 l[i].1) ∧ w.cell? ⟨gb, i * 2 + 1, none⟩ = some (.int .i64 l[i].2) := by
  have hh := Held.of_own k.own
  obtain ⟨e0, e1⟩ := prs_at l i hi
  obtain ⟨b, off, hA, hb, h0⟩ := hh.at_ e0
  obtain ⟨b', off', hA', hb', h1⟩ := hh.at_ e1
  rcases k.own.2 with ⟨hx, _⟩ | ⟨gb, c, cur, hx, _⟩
  · injection hx with h1; rw [h1] at hA; cases hA
  · injection hx with hx1
    rw [hx1] at hA hA'
    injection hA with hA
    injection hA with hA1 hA2
    injection hA' with hA'
    injection hA' with hA1' hA2'
    subst hA1 hA2 hA1' hA2'
    rw [Nat.zero_add] at h0 h1
    exact ⟨gb, hx1, hb, h0, h1⟩
end

theorem len_any (base g cap : Nat) (most : Int) (A : Option Addr) (l : List (Int × Int)) (w : World) (k : TabAt base w g most A cap l) :
    Calls Try.prog 9 #[.pointer (some ⟨g, 0, none⟩)] w fun e w' => e = .returned (.int .i64 l.length) ∧ w = w' := by
  have c1 := Blk.cell k.blk 1
  simp at c1
  clear k
  go_enter Try.func9, Try.ntmps9
  go_wp2_with fail
  go_ret
  exact ⟨rfl, rfl⟩
theorem len_nil (w : World) : Calls Try.prog 9 #[.pointer none] w fun e w' => e = .returned (.int .i64 0) ∧ w = w' := by
  go_enter Try.func9, Try.ntmps9
  go_wp2_with fail
  go_ret
  exact ⟨rfl, rfl⟩
theorem new_ok (m : Int) (w : World) (h0 : 1 ≤ m) (h1 : m ≤ 1024) : Calls Try.prog 6 #[.int .i64 m] w fun e w' => e = .returned (.tuple #[.pointer (some ⟨w.heap.size, 0, none⟩), .int .i64 0]) ∧ (∀ base, base ≤ w.heap.size → TabAt base w' w.heap.size m none 0 []) ∧ Below w.heap.size w w' := by
  go_enter Try.func6, Try.ntmps6
  go_wp2_with fail
  go_ret2
  exact ⟨rfl, fun base hb => ⟨Blk.new _ _ _, own_nil _ _ _ _, fun i j hi => absurd hi (by simp), by simp, hb⟩, (Below.refl _ _).alloc (Nat.le_refl _) _⟩
theorem new_no (m : Int) (w : World) (h : m < 1 ∨ 1024 < m) : Calls Try.prog 6 #[.int .i64 m] w fun e w' => e = .returned (.tuple #[.pointer none, .int .i64 2]) ∧ w = w' := by
  rcases Int.lt_or_le m 1 with h1 | h1
  · clear h
    go_enter Try.func6, Try.ntmps6
    go_wp2_with fail
    go_ret2
    exact ⟨rfl, rfl⟩
  · have h2 : 1024 < m := by omega
    clear h
    go_enter Try.func6, Try.ntmps6
    go_wp2_with fail
    go_ret2
    exact ⟨rfl, rfl⟩

theorem below_any (base g cap bx bi : Nat) (most x : Int) (A : Option Addr) (l : List (Int × Int)) (i : Nat) (hi : i < l.length) (w : World) (k : TabAt base w g most A cap l) (hx : Blk w bx 23 #[.pointer (some ⟨g, 0, none⟩)]) (hy : Blk w bi 3 #[.int .i64 x]) :
    Calls Try.prog 27 #[.int .i64 i, .pointer (some ⟨bx, 0, none⟩), .pointer (some ⟨bi, 0, none⟩)] w fun e w' => e = .returned (.bool (decide (l[i].1 < x))) ∧ ∃ n, w' = w.drewN n := by
  obtain ⟨gb, hA, _, c0, _⟩ := k.cells i hi
  have hcap := k.capb
  have c1 := Blk.cell k.blk 1
  have cx := Blk.cell hx 0
  have cy := Blk.cell hy 0
  simp at c1 cx cy
  rw [hA] at c1
  have hi0 : (0 : Int) ≤ i := by omega
  have hi1 : (i : Int) < l.length := by omega
  have hlen := k.few
  generalize l[i].1 = y at *
  clear k hx hy hA
  go_enter Try.func27, Try.ntmps27
  go_wp2_with fail
  go_quiet (fail)
  go_wp2_with fail
  go_ret
  exact ⟨rfl, _, rfl⟩

/-- The place of the first number that is not below x. -/
def Place (l : List (Int × Int)) (x : Int) (k : Nat) : Prop := k ≤ l.length ∧ (∀ (j : Nat) (hj : j < l.length), j < k → l[j].1 < x) ∧ (∀ (j : Nat) (hj : j < l.length), k ≤ j → x ≤ l[j].1)
def Found (l : List (Int × Int)) (x : Int) (k : Nat) (b : Bool) : Prop := Place l x k ∧ (b = true ↔ ∃ h : k < l.length, l[k].1 = x)
def FindIs (w : World) (l : List (Int × Int)) (x : Int) (e : Ending) (w' : World) : Prop := ∃ k b, e = .returned (.tuple #[.int .i64 (k : Nat), .bool b]) ∧ Found l x k b ∧ Below w.heap.size w w'
set_option maxHeartbeats 2000000 in
theorem find_any (base g cap : Nat) (most x : Int) (A : Option Addr) (l : List (Int × Int)) (w : World) (k : TabAt base w g most A cap l) :
    Calls Try.prog 24 #[.pointer (some ⟨g, 0, none⟩), .int .i64 x] w (FindIs w l x) := by
  have hlen := k.few
  have hsrt := Lib.hid k.srt
  have xx := Blk.alloc (Blk.new w 23 #[.pointer (some ⟨g, 0, none⟩)]) (.cells #[.int .i64 x] 3)
  have xy := Blk.new (w.alloc (.cells #[.pointer (some ⟨g, 0, none⟩)] 23)) 3 #[.int .i64 x]
  simp only [World.size_alloc] at xy
  have ka := (k.alloc (.cells #[.pointer (some ⟨g, 0, none⟩)] 23)).alloc (.cells #[.int .i64 x] 3)
  have B0 : Below w.heap.size w ((w.alloc (.cells #[.pointer (some ⟨g, 0, none⟩)] 23)).alloc (.cells #[.int .i64 x] 3)) := ((Below.refl _ _).alloc (Nat.le_refl _) _).alloc (by simp) _
  have HL := Lib.hid (len_any base g cap most A l _ ka)
  have HK := Lib.hid (And.intro ka (And.intro xx (And.intro xy B0)))
  clear k xx xy ka B0
  go_enter Try.func24, Try.ntmps24
  go_wp2_with fail
  refine HL.out.mono ?_
  rintro e w1 ⟨rfl, rfl⟩
  generalize (w.alloc (.cells #[.pointer (some ⟨g, 0, none⟩)] 23)).alloc (.cells #[.int .i64 x] 3) = W at *
  go_wp2_with fail
  go_loopw [6, 7] (fun lo hi wr => ∃ (a b : Nat), a ≤ b ∧ b ≤ l.length ∧ lo = .int .i64 a ∧ hi = .int .i64 b ∧ (∀ (j : Nat) (hj : j < l.length), j < a → l[j].1 < x) ∧ (∀ (j : Nat) (hj : j < l.length), b ≤ j → x ≤ l[j].1) ∧ ∃ q, wr = W.drewN q) (fun lo hi _ => (intOf hi).toNat - (intOf lo).toNat)
  case atStart => exact ⟨0, l.length, by omega, by omega, rfl, rfl, fun j _ h => absurd h (by omega), fun j h h2 => absurd h (by omega), 0, rfl⟩
  case round =>
    obtain ⟨a, b, hab, hbl, rfl, rfl, hlo, hhi, q, rfl⟩ := hrel
    have HB := Lib.hid (And.intro hlo hhi)
    clear hlo hhi
    by_cases hlt : a < b
    · have hm0 := Lib.hid (show (a : Int) + ((b - a : Nat) : Int) / 2 = ((a + (b - a) / 2 : Nat) : Int) by omega)
      have hm1 := Lib.hid (show (a : Int) + ((b : Int) - a) / 2 = ((a + (b - a) / 2 : Nat) : Int) by omega)
      have hma : a ≤ a + (b - a) / 2 := by omega
      have hmb : a + (b - a) / 2 < b := by omega
      have hml : a + (b - a) / 2 < l.length := by omega
      have HC := Lib.hid (below_any base g cap _ _ most x A l (a + (b - a) / 2) hml (W.drewN q) (HK.out.1.drewN q) (HK.out.2.1.drewN q) (HK.out.2.2.1.drewN q))
      go_wp2_with fail
      first | rw [hm0.out] | rw [hm1.out]
      refine HC.out.mono ?_
      rintro e w2 ⟨rfl, q2, rfl⟩
      generalize hmid : a + (b - a) / 2 = m at *
      have HM := Lib.hid hmid
      clear hm0 hm1 hmid
      by_cases hd : l[m].1 < x
      · have HD := Lib.hid hd
        have hdt : decide (l[m].1 < x) = true := by simp [hd]
        rw [hdt]
        clear hdt hd
        go_wp2_with fail
        go_roundw
        case rel =>
          refine ⟨m + 1, b, by omega, hbl, by go_num, rfl, fun j hj hjm => ?_, HB.out.2, q + q2, by simp [World.drewN_drewN]⟩
          rcases Nat.lt_or_ge j m with h | h
          · exact Int.lt_trans (hsrt.out j m hj hml h) HD.out
          · obtain rfl : j = m := by omega
            exact HD.out
        case measure => simp [intOf]; omega
      · have HD := Lib.hid hd
        have hdt : decide (l[m].1 < x) = false := by simp; omega
        rw [hdt]
        clear hdt hd
        go_wp2_with fail
        go_roundw
        case rel =>
          refine ⟨a, m, hma, by omega, rfl, by go_num, HB.out.1, fun j hj hjm => ?_, q + q2, by simp [World.drewN_drewN]⟩
          rcases Nat.lt_or_ge m j with h | h
          · have := hsrt.out m j hml hj h
            have := HD.out
            omega
          · obtain rfl : j = m := by omega
            have := HD.out
            omega
        case measure => simp [intOf]; omega
    · obtain rfl : a = b := by omega
      have HP : Hid (Place l x a) := ⟨hbl, HB.out.1, HB.out.2⟩
      have HK9 := Lib.hid (And.intro (HK.out.1.drewN q) (And.intro (HK.out.2.1.drewN q) (And.intro (HK.out.2.2.1.drewN q) (below_drewN HK.out.2.2.2 q))))
      generalize W.drewN q = W9 at *
      have HL2 := Lib.hid (fun n => len_any base g cap most A l (W9.drewN n) (HK9.out.1.drewN n))
      have cx := Blk.cell HK9.out.2.1 0
      have cy := Blk.cell HK9.out.2.2.1 0
      have c1 := Blk.cell HK9.out.1.blk 1
      simp at cx cy c1
      have hcap := HK.out.1.capb
      by_cases hal : a < l.length
      · obtain ⟨gb, hA, _, c0, _⟩ := HK9.out.1.cells a hal
        rw [hA] at c1
        have hi0 : (0 : Int) ≤ a := by omega
        have hi1 : (a : Int) < l.length := by omega
        by_cases he : l[a].1 = x
        · have HE := Lib.hid he
          rw [he] at c0
          clear he hA
          go_wp2_with fail
          go_quiet ((go_at_call 9; exact quiet_left (HL2.out _)))
          go_wp2_with fail
          go_ret2
          exact ⟨a, true, rfl, ⟨HP.out, by simp; exact ⟨hal, HE.out⟩⟩, below_drewN HK9.out.2.2.2 _⟩
        · have HE := Lib.hid he
          generalize hy : l[a].1 = y at *
          have HY := Lib.hid hy
          have hyx : (y == x) = false := by simp [he]
          clear he hA hy
          go_wp2_with fail
          go_quiet ((go_at_call 9; exact quiet_left (HL2.out _)))
          go_wp2_with fail
          go_ret2
          exact ⟨a, false, rfl, ⟨HP.out, by simp; intro _; rw [HY.out]; exact HE.out⟩, below_drewN HK9.out.2.2.2 _⟩
      · have hal2 : a = l.length := by omega
        subst hal2
        clear hal
        go_wp2_with fail
        go_quiet ((go_at_call 9; exact quiet_left (HL2.out _)))
        go_wp2_with fail
        go_ret2
        exact ⟨l.length, false, rfl, ⟨HP.out, by simp⟩, below_drewN HK9.out.2.2.2 _⟩
theorem find_nil (x : Int) (w : World) : Calls Try.prog 24 #[.pointer none, .int .i64 x] w fun e w' => e = .returned (.tuple #[.int .i64 0, .bool false]) ∧ Below w.heap.size w w' := by
  have xx := Blk.alloc (Blk.new w 23 #[.pointer none]) (.cells #[.int .i64 x] 3)
  have B0 : Below w.heap.size w ((w.alloc (.cells #[.pointer none] 23)).alloc (.cells #[.int .i64 x] 3)) := ((Below.refl _ _).alloc (Nat.le_refl _) _).alloc (by simp) _
  have HK := Lib.hid (And.intro xx B0)
  clear xx B0
  go_enter Try.func24, Try.ntmps24
  go_wp2_with fail
  refine (len_nil _).mono ?_
  rintro e w1 ⟨rfl, rfl⟩
  generalize (w.alloc (.cells #[.pointer none] 23)).alloc (.cells #[.int .i64 x] 3) = W at *
  go_wp2_with fail
  go_loopw [6, 7] (fun lo hi wr => lo = .int .i64 0 ∧ hi = .int .i64 0 ∧ wr = W) (fun lo hi _ => (intOf hi).toNat - (intOf lo).toNat)
  case atStart => exact ⟨rfl, rfl, rfl⟩
  case round =>
    obtain ⟨rfl, rfl, rfl⟩ := hrel
    have cx := Blk.cell HK.out.1 0
    simp at cx
    go_wp2_with fail
    go_quiet ((go_at_call 9; exact quiet_left (len_nil _)))
    go_wp2_with fail
    go_ret2
    exact ⟨rfl, below_drewN HK.out.2 _⟩

/-- What find tells of a rising list. -/
theorem Found.no {l : List (Int × Int)} {x : Int} {k : Nat} (h : Found l x k false) (hs : Srt l) : ∀ (j : Nat) (hj : j < l.length), l[j].1 ≠ x := by
  intro j hj he
  obtain ⟨⟨h1, h2, h3⟩, h4⟩ := h
  have h5 : ¬ ∃ h : k < l.length, l[k].1 = x := fun hh => by have := h4.2 hh; cases this
  rcases Nat.lt_or_ge j k with h | h
  · have := h2 j hj h; omega
  · have hk : k < l.length := by omega
    have h6 := h3 k hk (Nat.le_refl _)
    rcases Nat.lt_or_ge k j with h7 | h7
    · have := hs k j hk hj h7; omega
    · obtain rfl : k = j := by omega
      exact h5 ⟨hk, he⟩
theorem Found.yes {l : List (Int × Int)} {x : Int} {k : Nat} (h : Found l x k true) : ∃ h : k < l.length, l[k].1 = x := h.2.1 rfl
def GetIs (w : World) (l : List (Int × Int)) (x : Int) (e : Ending) (w' : World) : Prop :=
  ∃ v b, e = .returned (.tuple #[.int .i64 v, .bool b]) ∧ ((b = true ∧ ∃ (k : Nat) (hk : k < l.length), l[k].1 = x ∧ l[k].2 = v) ∨ (b = false ∧ v = 0 ∧ ∀ (j : Nat) (hj : j < l.length), l[j].1 ≠ x)) ∧ Below w.heap.size w w'
set_option maxHeartbeats 1000000 in
theorem get_any (base g cap : Nat) (most x : Int) (A : Option Addr) (l : List (Int × Int)) (w : World) (k : TabAt base w g most A cap l) :
    Calls Try.prog 16 #[.pointer (some ⟨g, 0, none⟩), .int .i64 x] w (GetIs w l x) := by
  have HF := Lib.hid (find_any base g cap most x A l w k)
  have HK := Lib.hid k
  have hlen := k.few
  clear k
  go_enter Try.func16, Try.ntmps16
  go_wp2_with fail
  refine HF.out.mono ?_
  rintro e w1 ⟨k, b, rfl, hf, b1⟩
  have HK1 := Lib.hid (HK.out.below b1)
  have HB := Lib.hid b1
  have hcap := HK.out.capb
  clear b1
  cases b with
  | false =>
    have HN := Lib.hid (hf.no HK.out.srt)
    clear hf
    go_wp2_with fail
    go_ret2
    exact ⟨0, false, rfl, .inr ⟨rfl, rfl, HN.out⟩, HB.out⟩
  | true =>
    obtain ⟨hk, hx⟩ := hf.yes
    have HX := Lib.hid hx
    obtain ⟨gb, hA, _, _, c1⟩ := HK1.out.cells k hk
    have ct := Blk.cell HK1.out.blk 1
    simp at ct
    rw [hA] at ct
    have hk0 : (0 : Int) ≤ k := by omega
    have hk1 : (k : Int) < l.length := by omega
    generalize hv : l[k].2 = v at *
    have HV := Lib.hid hv
    clear hf hx hA hv
    go_wp2_with fail
    go_ret2
    exact ⟨v, true, rfl, .inl ⟨rfl, k, hk, HX.out, HV.out⟩, HB.out⟩
theorem get_nil (x : Int) (w : World) : Calls Try.prog 16 #[.pointer none, .int .i64 x] w fun e w' => e = .returned (.tuple #[.int .i64 0, .bool false]) ∧ Below w.heap.size w w' := by
  go_enter Try.func16, Try.ntmps16
  go_wp2_with fail
  refine (find_nil x w).mono ?_
  rintro e w1 ⟨rfl, b1⟩
  have HB := Lib.hid b1
  clear b1
  go_wp2_with fail
  go_ret2
  exact ⟨rfl, HB.out⟩
/-- At a place. -/
def AtIs (w : World) (l : List (Int × Int)) (i : Int) (e : Ending) (w' : World) : Prop :=
  ∃ x v b, e = .returned (.tuple #[.int .i64 x, .int .i64 v, .bool b]) ∧ ((b = true ∧ ∃ (k : Nat) (hk : k < l.length), i = (k : Int) ∧ l[k].1 = x ∧ l[k].2 = v) ∨ (b = false ∧ x = 0 ∧ v = 0 ∧ (i < 0 ∨ (l.length : Int) ≤ i))) ∧ ∃ q, w' = w.drewN q
set_option maxHeartbeats 1000000 in
theorem at_any (base g cap : Nat) (most i : Int) (A : Option Addr) (l : List (Int × Int)) (w : World) (k : TabAt base w g most A cap l) :
    Calls Try.prog 18 #[.pointer (some ⟨g, 0, none⟩), .int .i64 i] w (AtIs w l i) := by
  have HL := Lib.hid (len_any base g cap most A l w k)
  have HK := Lib.hid k
  have hlen := k.few
  have hcap := k.capb
  clear k
  by_cases h0 : i < 0
  · go_enter Try.func18, Try.ntmps18
    go_wp2_with fail
    go_ret3
    exact ⟨0, 0, false, rfl, .inr ⟨rfl, rfl, rfl, .inl h0⟩, 0, rfl⟩
  · by_cases h1 : (l.length : Int) ≤ i
    · go_enter Try.func18, Try.ntmps18
      go_wp2_with fail
      refine HL.out.mono ?_
      rintro e w1 ⟨rfl, rfl⟩
      go_wp2_with fail
      go_ret3
      exact ⟨0, 0, false, rfl, .inr ⟨rfl, rfl, rfl, .inr h1⟩, 0, rfl⟩
    · obtain ⟨k, rfl⟩ : ∃ k : Nat, i = (k : Int) := ⟨i.toNat, by omega⟩
      have hk : k < l.length := by omega
      obtain ⟨gb, hA, _, c0, c1⟩ := HK.out.cells k hk
      have ct := Blk.cell HK.out.blk 1
      simp at ct
      rw [hA] at ct
      have hk0 : (0 : Int) ≤ k := by omega
      have hk1 : (k : Int) < l.length := by omega
      generalize hv : l[k].2 = v at *
      generalize hx : l[k].1 = x at *
      have HV := Lib.hid (And.intro hx hv)
      clear hA hv hx h0 h1
      go_enter Try.func18, Try.ntmps18
      go_wp2_with fail
      refine HL.out.mono ?_
      rintro e w1 ⟨rfl, rfl⟩
      go_wp2_with fail
      go_quiet (fail)
      go_wp2_with fail
      go_ret3
      exact ⟨x, v, true, rfl, .inl ⟨rfl, k, hk, rfl, HV.out.1, HV.out.2⟩, _, rfl⟩
theorem at_nil (i : Int) (w : World) : Calls Try.prog 18 #[.pointer none, .int .i64 i] w fun e w' => e = .returned (.tuple #[.int .i64 0, .int .i64 0, .bool false]) ∧ w = w' := by
  by_cases h0 : i < 0
  · go_enter Try.func18, Try.ntmps18
    go_wp2_with fail
    go_ret3
    exact ⟨rfl, rfl⟩
  · have h1 : (0 : Int) ≤ i := by omega
    go_enter Try.func18, Try.ntmps18
    go_wp2_with fail
    refine (len_nil _).mono ?_
    rintro e w1 ⟨rfl, rfl⟩
    go_wp2_with fail
    go_ret3
    exact ⟨rfl, rfl⟩
end Go.Proofs.Ytfdfcegomiehbaa
