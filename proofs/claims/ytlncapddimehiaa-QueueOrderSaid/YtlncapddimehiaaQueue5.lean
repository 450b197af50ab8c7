/- The walks of package queue: Texts, awake, do. -/
import Derived.Test.YtlncapddimehiaaRows
import Derived.WalkKit
import Derived.ProofKit
import Derived.Handy
import Derived.Test.YtlncapddimehiaaMem
import Derived.Test.YtlncapddimehiaaLift
import Derived.Test.YtlncapddimehiaaApp
import Derived.Test.YtlncapddimehiaaReads
import Derived.Test.YtlncapddimehiaaOrd
import Derived.Test.YtlncapddimehiaaQueue
import Derived.Test.YtlncapddimehiaaQueue2
import Derived.Test.YtlncapddimehiaaQueue3
import Derived.Test.YtlncapddimehiaaQueue4
import Derived.Deep.QuietTactic
import Derived.BigQuiet
import Derived.Deep.RegionWith
import Derived.Deep.RegionHeld3
import Derived.Deep.AppendLies
import Derived.WalkLawsBesides
import Derived.WalkSmall
namespace Go.Proofs.Ytlncapddimehiaa
open Go.RowKit
set_option linter.unusedVariables false




theorem texts_any (A A' : Option Addr) (k k' : Nat) (L : List ByteArray) (w : World) (h : Held w 9 1 A L.length k (strs L)) (h' : Held w 9 1 A' L.length k' (strs L)) (hL : L.length ≤ 1000) :
    Calls Try.prog 11 #[.slice A L.length k, .slice A' L.length k'] w fun e w' => e = .returned (.bool true) ∧ ∃ q, w' = w.drewN q := by
  have H := Lib.hid h
  have H' := Lib.hid h'
  have hk := h.2.1
  have hk' := h'.2.1
  clear h h'
  generalize hn : L.length = n at *
  go_enter Try.func11, Try.ntmps11
  go_wp2_with fail
  go_loopw [5] (fun iv wr => ∃ m q : Nat, m ≤ n ∧ iv = .int .i64 m ∧ wr = w.drewN q) (fun i _ => n - (intOf i).toNat)
  case atStart => exact ⟨0, 0, by omega, rfl, rfl⟩
  case round =>
    obtain ⟨m, q, hm, rfl, rfl⟩ := hrel
    by_cases hlt : m < n
    · have hg : (strs L)[m]? = some (.string (L[m]'(by omega))) := by simp [strs]
      obtain ⟨b, off, rfl, hb, x1⟩ := H.out.at_ hg
      obtain ⟨b', off', rfl, hb', x2⟩ := H'.out.at_ hg
      generalize L[m]'(by omega) = s at *
      clear hg
      go_wp2_with fail
      go_quiet (fail)
      go_wp2_with fail
      go_roundw
      case rel => exact ⟨m + 1, _, by omega, by go_num, rfl⟩
      case measure => simp [intOf]; omega
    · obtain rfl : n = m := by omega
      go_wp2_with fail
      go_ret
      exact ⟨rfl, _, rfl⟩

theorem awake_any (w : World) : Calls Try.prog 7 #[] w fun e w' => e = .returned (.bool true) ∧ Below w.heap.size w w' := by
  go_enter Try.func7, Try.ntmps7
  go_wp2_with fail
  refine (new_ok 2 2 w (by omega) (by omega) (by omega) (by omega)).mono ?_
  rintro e w1 ⟨rfl, k1, b1⟩
  go_wp2_with fail
  refine (put_kept _ 2 2 [] 0 0 0 ⟨#[97]⟩ w1 k1 (by simp) (by omega) (by omega) (by omega)).mono ?_
  rintro e w2 ⟨rfl, k2, o2⟩
  have B2 := bonly b1 o2 (by simp)
  clear k1 o2 b1
  go_wp2_with fail
  refine (put_kept _ 2 2 _ _ 0 0 ⟨#[98]⟩ w2 k2 (by simp) (by omega) (by omega) (by omega)).mono ?_
  rintro e w3 ⟨rfl, k3, o3⟩
  have B3 := bonly B2 o3 (by simp)
  clear k2 o3 B2
  go_wp2_with fail
  refine (put_pushed _ 2 ⟨#[97]⟩ [⟨#[98]⟩] _ 0 0 ⟨#[99]⟩ w3 k3 (by simp) (by omega) (by simp) (by omega) (by omega) (by omega) (by omega)).mono ?_
  rintro e w4 ⟨rfl, k4, o4⟩
  have B4 := bonly B3 o4 (by simp)
  clear k3 o4 B3
  go_wp2_with fail
  refine (take_any _ 2 2 ⟨#[98]⟩ [⟨#[99]⟩] _ 0 _ w4 k4 (by simp) (by omega) (by omega)).mono ?_
  rintro e w5 ⟨rfl, k5, o5⟩
  have B5 := bonly B4 o5 (by simp)
  have HL := Lib.hid (len_any _ 2 2 [⟨#[99]⟩] _ _ _ w5 k5)
  clear k4 o5 B4 k5
  go_wp2_with fail
  refine HL.out.mono ?_
  rintro e w6 ⟨rfl, rfl⟩
  go_wp2_with fail
  go_ret
  exact ⟨rfl, B5⟩

/-- The two side by side. -/
structure QInv (cap st : Int) (L : List ByteArray) (a b c : Int) (N : Int) : Prop where
  cap0 : 0 ≤ cap
  cap1 : cap ≤ 64
  st0 : 0 ≤ st
  st1 : st ≤ 2
  len : (L.length : Int) ≤ cap
  b0 : 0 ≤ b
  c0 : 0 ≤ c
  sum : a = b + c + L.length
  aN : a ≤ N
structure Both (w : World) (g h : Nat) (cap st : Int) (L : List ByteArray) (a b c : Int) : Prop where
  q : QAt 50 w g cap st L a b c
  r : QAt 40 w h cap st L a b c
def Did (w : World) (g h : Nat) (cap st N : Int) (e : Ending) (w' : World) : Prop :=
  e = .returned (.bool true) ∧ (∃ L a b c, Both w' g h cap st L a b c ∧ QInv cap st L a b c (N + 1)) ∧ Only [g, h] w w'
theorem Both.ne {w : World} {g h : Nat} {cap st : Int} {L : List ByteArray} {a b c : Int} (k : Both w g h cap st L a b c) : g ≠ h := by
  obtain ⟨cs, h1⟩ := k.q.blk
  obtain ⟨cs', h2⟩ := k.r.blk
  exact Blk.ne_ h1 h2 (by decide)

set_option maxHeartbeats 4000000 in
theorem do_take (g h : Nat) (cap st : Int) (L : List ByteArray) (a b c N kd : Int) (s : ByteArray) (w : World) (k : Both w g h cap st L a b c) (I : QInv cap st L a b c N) (hN : N ≤ 1000) (hk : kd = 4 ∨ kd = 5) :
    Calls Try.prog 13 #[.pointer (some ⟨g, 0, none⟩), .pointer (some ⟨h, 0, none⟩), .agg #[.int .i64 kd, .string s]] w (Did w g h cap st N) := by
  have hne := k.ne
  have hqa := k.q.alloc (.cells #[.int .i64 kd, .string s] 30)
  have hra := k.r.alloc (.cells #[.int .i64 kd, .string s] 30)
  have OA : Only [g, h] w (w.alloc (.cells #[.int .i64 kd, .string s] 30)) := (Only.refl _ w).alloc _
  obtain ⟨i1, i2, i3, i4, i5, i6, i7, i8, i9⟩ := I
  cases L with
  | nil =>
    have HA := Lib.hid (And.intro hqa (And.intro hra OA))
    have HI := Lib.hid (show QInv cap st [] a b c (N + 1) from ⟨i1, i2, i3, i4, i5, i6, i7, i8, by omega⟩)
    clear hqa hra OA k i8 i5
    rcases hk with rfl | rfl
    all_goals
      (go_enter Try.func13, Try.ntmps13
       go_wp2_with fail
       refine (take_none g cap st a b c _ HA.out.1).mono ?_
       rintro e w1 ⟨rfl, rfl⟩
       go_wp2_with fail
       refine (rtake_none h cap st a b c _ HA.out.2.1).mono ?_
       rintro e w1 ⟨rfl, rfl⟩
       go_wp2_with fail
       go_ret
       exact ⟨rfl, ⟨_, _, _, _, ⟨HA.out.1, HA.out.2.1⟩, HI.out⟩, HA.out.2.2⟩)
  | cons s0 L =>
    have HA := Lib.hid (And.intro hqa (And.intro hra OA))
    simp only [List.length_cons] at i5 i8
    have HI := Lib.hid (show QInv cap st L a (b + 1) c (N + 1) from ⟨i1, i2, i3, i4, by omega, by omega, i7, by omega, by omega⟩)
    have hl : L.length ≤ 63 := by omega
    have hbb : b ≤ 1000 := by omega
    clear hqa hra OA k i8 i5
    rcases hk with rfl | rfl
    all_goals
      (go_enter Try.func13, Try.ntmps13
       go_wp2_with fail
       refine (take_any g cap st s0 L a b c _ HA.out.1 (by omega) i6 (by omega)).mono ?_
       rintro e w1 ⟨rfl, k1, o1⟩
       have r1 := HA.out.2.1.other o1 (Ne.symm hne) HA.out.1 (by decide)
       have O1 := HA.out.2.2.trans (T := [g]) o1 (fun i hi => .inl (by simp at hi; simp [hi]))
       have H1 := Lib.hid (And.intro k1 (And.intro r1 O1))
       clear k1 o1 r1 O1
       go_wp2_with fail
       refine (rtake_any h cap st s0 L a b c _ H1.out.2.1 i6 (by omega)).mono ?_
       rintro e w2 ⟨rfl, r2, o2⟩
       have k2 := H1.out.1.other o2 hne H1.out.2.1 (by decide)
       have O2 := H1.out.2.2.trans (T := [h]) o2 (fun i hi => .inl (by simp at hi; simp [hi]))
       have H2 := Lib.hid (And.intro k2 (And.intro r2 O2))
       clear k2 o2 r2 O2
       go_wp2_with fail
       go_ret
       exact ⟨rfl, ⟨_, _, _, _, ⟨H2.out.1, H2.out.2.1⟩, HI.out⟩, H2.out.2.2⟩)

set_option maxHeartbeats 4000000 in
theorem do_first (g h : Nat) (cap st : Int) (L : List ByteArray) (a b c N : Int) (s : ByteArray) (w : World) (k : Both w g h cap st L a b c) (I : QInv cap st L a b c N) (hN : N ≤ 1000) :
    Calls Try.prog 13 #[.pointer (some ⟨g, 0, none⟩), .pointer (some ⟨h, 0, none⟩), .agg #[.int .i64 6, .string s]] w (Did w g h cap st N) := by
  have hqa := k.q.alloc (.cells #[.int .i64 6, .string s] 30)
  have hra := k.r.alloc (.cells #[.int .i64 6, .string s] 30)
  have OA : Only [g, h] w (w.alloc (.cells #[.int .i64 6, .string s] 30)) := (Only.refl _ w).alloc _
  have HI := Lib.hid (show QInv cap st L a b c (N + 1) from ⟨I.cap0, I.cap1, I.st0, I.st1, I.len, I.b0, I.c0, I.sum, by have := I.aN; omega⟩)
  have HA := Lib.hid (And.intro hqa (And.intro hra OA))
  have hl : L.length ≤ 64 := by have := I.len; have := I.cap1; omega
  obtain ⟨A, n, h1, h2⟩ := hra
  have c2 := Blk.cell h1 2
  simp at c2
  cases L with
  | nil =>
    clear hqa OA k I h1 h2
    go_enter Try.func13, Try.ntmps13
    go_wp2_with fail
    refine (first_none g cap st a b c _ HA.out.1).mono ?_
    rintro e w1 ⟨rfl, rfl⟩
    go_wp2_with fail
    go_ret
    exact ⟨rfl, ⟨_, _, _, _, ⟨HA.out.1, HA.out.2.1⟩, HI.out⟩, HA.out.2.2⟩
  | cons s0 L =>
    obtain ⟨bb, off, rfl, hbl, x0⟩ := h2.at_ (j := 0) (u := .string s0) rfl
    have hcap := h2.2.1
    rw [Nat.add_zero] at x0
    simp at hcap
    clear hqa OA k I h1 h2
    go_enter Try.func13, Try.ntmps13
    go_wp2_with fail
    refine (first_any g cap st s0 L a b c _ HA.out.1).mono ?_
    rintro e w1 ⟨rfl, rfl⟩
    go_wp2_with fail
    try (go_quiet (fail); go_wp2_with fail)
    go_ret
    first
      | exact ⟨rfl, ⟨_, _, _, _, ⟨HA.out.1, HA.out.2.1⟩, HI.out⟩, HA.out.2.2⟩
      | exact ⟨rfl, ⟨_, _, _, _, ⟨HA.out.1.drewN _, HA.out.2.1.drewN _⟩, HI.out⟩, HA.out.2.2.drewN _⟩

set_option maxHeartbeats 4000000 in
theorem do_clear (g h : Nat) (cap st : Int) (L : List ByteArray) (a b c N : Int) (s : ByteArray) (w : World) (k : Both w g h cap st L a b c) (I : QInv cap st L a b c N) (hN : N ≤ 1000) (hs : s.size ≤ 300) :
    Calls Try.prog 13 #[.pointer (some ⟨g, 0, none⟩), .pointer (some ⟨h, 0, none⟩), .agg #[.int .i64 7, .string s]] w (Did w g h cap st N) := by
  have hne := k.ne
  have hqa := k.q.alloc (.cells #[.int .i64 7, .string s] 30)
  have hra := k.r.alloc (.cells #[.int .i64 7, .string s] 30)
  have OA : Only [g, h] w (w.alloc (.cells #[.int .i64 7, .string s] 30)) := (Only.refl _ w).alloc _
  have HI := Lib.hid (show QInv cap st L a b c (N + 1) from ⟨I.cap0, I.cap1, I.st0, I.st1, I.len, I.b0, I.c0, I.sum, by have := I.aN; omega⟩)
  have HI2 := Lib.hid (show QInv cap st [] a b (c + L.length) (N + 1) from ⟨I.cap0, I.cap1, I.st0, I.st1, by have := I.cap0; simpa using this, I.b0, by have := I.c0; omega, by have := I.sum; simp; omega, by have := I.aN; omega⟩)
  have HA := Lib.hid (And.intro hqa (And.intro hra OA))
  have hl : L.length ≤ 64 := by have := I.len; have := I.cap1; omega
  have hc0 := I.c0
  have hc1 : c ≤ 1000 := by have := I.sum; have := I.aN; have := I.b0; omega
  clear hqa hra OA k I
  by_cases hm : ((s.size : Int) % 4) = 0
  · go_enter Try.func13, Try.ntmps13
    go_wp2_with fail
    refine (clear_any g cap st L a b c _ HA.out.1 hl hc0 (by omega)).mono ?_
    rintro e w1 ⟨rfl, k1, o1⟩
    have r1 := HA.out.2.1.other o1 (Ne.symm hne) HA.out.1 (by decide)
    have O1 := HA.out.2.2.trans (T := [g]) o1 (fun i hi => .inl (by simp at hi; simp [hi]))
    have H1 := Lib.hid (And.intro k1 (And.intro r1 O1))
    clear k1 o1 r1 O1
    go_wp2_with fail
    refine (rclear_any h cap st L a b c _ H1.out.2.1 hl hc0 (by omega)).mono ?_
    rintro e w2 ⟨rfl, r2, o2⟩
    have k2 := H1.out.1.other o2 hne H1.out.2.1 (by decide)
    have O2 := H1.out.2.2.trans (T := [h]) o2 (fun i hi => .inl (by simp at hi; simp [hi]))
    have H2 := Lib.hid (And.intro k2 (And.intro r2 O2))
    clear k2 o2 r2 O2
    go_wp2_with fail
    go_ret
    exact ⟨rfl, ⟨_, _, _, _, ⟨H2.out.1, H2.out.2.1⟩, HI2.out⟩, H2.out.2.2⟩
  · have em : (((s.size : Int) % 4) == 0) = false := by simp [hm]
    go_enter Try.func13, Try.ntmps13
    go_wp2_with fail
    go_ret
    exact ⟨rfl, ⟨_, _, _, _, ⟨HA.out.1, HA.out.2.1⟩, HI.out⟩, HA.out.2.2⟩

/-- Put, on both: the answer is one. -/
theorem put_both (g h : Nat) (cap st : Int) (L : List ByteArray) (a b c N : Int) (s : ByteArray) (w : World) (k : Both w g h cap st L a b c) (I : QInv cap st L a b c N) (hN : N ≤ 1000) :
    ∃ (v : Int) (L' : List ByteArray) (a' c' : Int), QInv cap st L' a' b c' (N + 1) ∧ (v = 0 ∨ v = 1 ∨ v = 2 ∨ v = 3) ∧
      (∀ W, QAt 50 W g cap st L a b c → Calls Try.prog 9 #[.pointer (some ⟨g, 0, none⟩), .string s] W (Turned 50 (.int .i64 v) W g cap st L' a' b c')) ∧
      (∀ W, QAt 40 W h cap st L a b c → Calls Try.prog 23 #[.pointer (some ⟨h, 0, none⟩), .string s] W (Turned 40 (.int .i64 v) W h cap st L' a' b c')) := by
  obtain ⟨i1, i2, i3, i4, i5, i6, i7, i8, i9⟩ := I
  by_cases h1 : (L.length : Int) < cap
  · refine ⟨1, L ++ [s], a + 1, c, ⟨i1, i2, i3, i4, by simp; omega, i6, i7, by simp; omega, by omega⟩, by omega, fun W kW => put_kept g cap st L a b c s W kW h1 i2 (by omega) (by omega), fun W kW => rput_kept h cap st L a b c s W kW h1 i2 (by omega) (by omega)⟩
  · by_cases h2 : st = 0
    · subst h2
      exact ⟨0, L, a, c, ⟨i1, i2, i3, i4, i5, i6, i7, i8, by omega⟩, by omega, fun W kW => put_refused g cap L a b c s W kW (by omega), fun W kW => rput_refused h cap L a b c s W kW (by omega) (by omega)⟩
    · by_cases h3 : st = 1 ∨ (st = 2 ∧ cap = 0)
      · exact ⟨2, L, a + 1, c + 1, ⟨i1, i2, i3, i4, i5, i6, by omega, by omega, by omega⟩, by omega, fun W kW => put_dropped g cap st L a b c s W kW (by omega) h3 (by omega) (by omega) i7 (by omega), fun W kW => rput_dropped h cap st L a b c s W kW (by omega) (by omega) h3 (by omega) (by omega) i7 (by omega)⟩
      · obtain rfl : st = 2 := by omega
        cases L with
        | nil => exfalso; apply h3; simp at h1; omega
        | cons s0 L =>
          simp only [List.length_cons] at i5 i8 h1
          exact ⟨3, L ++ [s], a + 1, c + 1, ⟨i1, i2, i3, i4, by simp; omega, i6, by omega, by simp; omega, by omega⟩, by omega, fun W kW => put_pushed g cap s0 L a b c s W kW (by simp; omega) (by omega) (by omega) (by omega) (by omega) i7 (by omega), fun W kW => rput_pushed h cap s0 L a b c s W kW (by simp; omega) (by omega) (by omega) (by omega) (by omega) i7 (by omega)⟩

set_option maxHeartbeats 4000000 in
theorem do_put (g h : Nat) (cap st : Int) (L : List ByteArray) (a b c N kd : Int) (s : ByteArray) (w : World) (k : Both w g h cap st L a b c) (I : QInv cap st L a b c N) (hN : N ≤ 1000) (h4 : ¬ kd = 4) (h5 : ¬ kd = 5) (h6 : ¬ kd = 6) (h7 : ¬ kd = 7) :
    Calls Try.prog 13 #[.pointer (some ⟨g, 0, none⟩), .pointer (some ⟨h, 0, none⟩), .agg #[.int .i64 kd, .string s]] w (Did w g h cap st N) := by
  obtain ⟨v, L', a', c', hI, hv, hP, hR⟩ := put_both g h cap st L a b c N s w k I hN
  have hne := k.ne
  have hqa := k.q.alloc (.cells #[.int .i64 kd, .string s] 30)
  have hra := k.r.alloc (.cells #[.int .i64 kd, .string s] 30)
  have OA : Only [g, h] w (w.alloc (.cells #[.int .i64 kd, .string s] 30)) := (Only.refl _ w).alloc _
  have HA := Lib.hid (And.intro hqa (And.intro hra OA))
  have HP := Lib.hid hP
  have HR := Lib.hid hR
  have HI := Lib.hid hI
  have e4 : (kd == 4) = false := by simp [h4]
  have e5 : (kd == 5) = false := by simp [h5]
  have e6 : (kd == 6) = false := by simp [h6]
  have e7 : (kd == 7) = false := by simp [h7]
  have hgl := k.q.lt
  have hhl := k.r.lt
  have x0 := Blk.new w 30 #[.int .i64 kd, .string s]
  have X0 := Lib.hid x0
  have z0 : (w.alloc (.cells #[.int .i64 kd, .string s] 30)).cell? ⟨w.heap.size, 1, none⟩ = some (.string s) := (Blk.cell x0 1).trans rfl
  have hng : ¬ w.heap.size = g := by omega
  have hnh : ¬ w.heap.size = h := by omega
  clear hP hR hI hqa hra OA k I hv h4 h5 h6 h7 x0
  go_enter Try.func13, Try.ntmps13
  go_wp2_with fail
  generalize hW : w.alloc (.cells #[.int .i64 kd, .string s] 30) = W at *
  refine wp_region_ord (fun w' => w'.cell? ⟨w.heap.size, 1, none⟩ = some (.string s)) 9 [(true, 0), (true, 1), (true, 2), (true, 4), (true, 5), (true, 6), (false, 3), (false, 7), (true, 8)] default (by kernel_rfl) (by kernel_rfl) (fun d _ _ _ _ h => by cases d <;> exact h) ?_ ?_
  · exact z0
  simp only [List.map_cons, List.map_nil, List.getD_cons_succ, List.getD_cons_zero]
  repeat
    (refine heldL_take ?_ ?_ ?_
     rotate_left
     · intro w' hw'
       try dsimp only at hw'
       go_simp
       try with_reducible rfl
     try simp only [Act.put, List.setIfInBounds_toArray, List.set_cons_zero, List.set_cons_succ])
  refine heldL_move (fun K hK => ?_)
  go_simp
  refine (HP.out W.drew (HA.out.1.drewN 1)).mono ?_
  rintro e w1 ⟨rfl, k1, o1⟩
  have o1' : Only [g] W w1 := ⟨o1.os, o1.tape, o1.output, o1.size, o1.block⟩
  have r1 := HA.out.2.1.other o1' (Ne.symm hne) HA.out.1 (by decide)
  have O1 := HA.out.2.2.trans (T := [g]) o1' (fun i hi => .inl (by simp at hi; simp [hi]))
  have x1 := X0.out.only o1' (by simpa using hng)
  have z1 := Blk.cell x1 1
  simp at z1
  have H1 := Lib.hid (And.intro k1 (And.intro r1 (And.intro O1 x1)))
  clear k1 o1 r1 O1 o1' x1
  refine hK.out _ _ ?_ (fun hS => ?_)
  · exact z1
  clear hK K
  try simp only [Act.put, List.setIfInBounds_toArray, List.set_cons_zero, List.set_cons_succ]
  refine heldL_move (fun K hK => ?_)
  go_simp
  refine (HR.out _ H1.out.2.1).mono ?_
  rintro e w2 ⟨rfl, r2, o2⟩
  have k2 := H1.out.1.other o2 hne H1.out.2.1 (by decide)
  have O2 := H1.out.2.2.1.trans (T := [h]) o2 (fun i hi => .inl (by simp at hi; simp [hi]))
  have x2 := H1.out.2.2.2.only o2 (by simpa using hnh)
  have z2 := Blk.cell x2 1
  simp at z2
  have H2 := Lib.hid (And.intro k2 (And.intro r2 O2))
  clear k2 o2 r2 O2 x2
  refine hK.out _ _ ?_ (fun hS2 => ?_)
  · exact z2
  clear hK K
  try simp only [Act.put, List.setIfInBounds_toArray, List.set_cons_zero, List.set_cons_succ]
  repeat
    (refine heldL_take ?_ ?_ ?_
     rotate_left
     · intro w' hw'
       try dsimp only at hw'
       go_simp
       try with_reducible rfl
     try simp only [Act.put, List.setIfInBounds_toArray, List.set_cons_zero, List.set_cons_succ])
  refine heldL_last (fun K hK => ?_)
  go_simp
  refine hK _ _ ?_
  clear hK K
  try simp only [Act.put, List.setIfInBounds_toArray, List.set_cons_zero, List.set_cons_succ]
  go_wp2_with fail
  go_ret
  exact ⟨rfl, ⟨_, _, _, _, ⟨H2.out.1, H2.out.2.1⟩, HI.out⟩, H2.out.2.2⟩

theorem do_any (g h : Nat) (cap st : Int) (L : List ByteArray) (a b c N kd : Int) (s : ByteArray) (w : World) (k : Both w g h cap st L a b c) (I : QInv cap st L a b c N) (hN : N ≤ 1000) (hs : s.size ≤ 300) :
    Calls Try.prog 13 #[.pointer (some ⟨g, 0, none⟩), .pointer (some ⟨h, 0, none⟩), .agg #[.int .i64 kd, .string s]] w (Did w g h cap st N) := by
  by_cases h4 : kd = 4
  · exact do_take g h cap st L a b c N kd s w k I hN (.inl h4)
  by_cases h5 : kd = 5
  · exact do_take g h cap st L a b c N kd s w k I hN (.inr h5)
  by_cases h6 : kd = 6
  · subst h6; exact do_first g h cap st L a b c N s w k I hN
  by_cases h7 : kd = 7
  · subst h7; exact do_clear g h cap st L a b c N s w k I hN hs
  exact do_put g h cap st L a b c N kd s w k I hN h4 h5 h6 h7
end Go.Proofs.Ytlncapddimehiaa
