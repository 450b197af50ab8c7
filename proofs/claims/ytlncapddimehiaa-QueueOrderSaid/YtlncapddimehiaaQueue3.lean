/- The walks of package queue: Put, Items, Copy; the answer's own. -/
import Derived.Test.YtlncapddimehiaaRows
import Derived.WalkKit
import Derived.ProofKit
import Derived.Handy
import Derived.Test.YtlncapddimehiaaMem
import Derived.Test.YtlncapddimehiaaLift
import Derived.Test.YtlncapddimehiaaApp
import Derived.Test.YtlncapddimehiaaReads
import Derived.Test.YtlncapddimehiaaOrd
import Derived.Test.YtlncapddimehiaaQueue
import Derived.Test.YtlncapddimehiaaQueue2
import Derived.Deep.QuietTactic
import Derived.BigQuiet
import Derived.Deep.RegionWith
import Derived.Deep.RegionHeld3
import Derived.Deep.AppendLies
import Derived.WalkLawsBesides
import Derived.WalkSmall
namespace Go.Proofs.Ytlncapddimehiaa
open Go.RowKit
set_option linter.unusedVariables false



theorem fullp (cap : Int) (n : Nat) (h : cap ≤ n) : decide (cap ≤ (n : Int)) = true := by simp [h]
set_option maxHeartbeats 4000000 in
theorem put_kept (g : Nat) (cap st : Int) (L : List ByteArray) (a b c : Int) (s : ByteArray) (w : World) (k : QAt 50 w g cap st L a b c) (h : (L.length : Int) < cap) (hcap : cap ≤ 64) (ha : 0 ≤ a) (ha' : a ≤ 100000) :
    Calls Try.prog 9 #[.pointer (some ⟨g, 0, none⟩), .string s] w (Turned 50 (.int .i64 1) w g cap st (L ++ [s]) (a + 1) b c) := by
  have kk := (k.alloc (.cells #[.pointer (some ⟨g, 0, none⟩)] 23)).alloc (.cells #[.string s] 9)
  have hF := full_any g cap st L a b c _ kk
  rw [show decide (cap ≤ (L.length : Int)) = false by simp; omega] at hF
  have HF := Lib.hid hF
  have q0 := Blk.alloc (Blk.new w 23 #[.pointer (some ⟨g, 0, none⟩)]) (.cells #[.string s] 9)
  have s0 := Blk.new (w.alloc (.cells #[.pointer (some ⟨g, 0, none⟩)] 23)) 9 #[.string s]
  simp only [World.size_alloc] at s0
  have HK := Lib.hid kk
  have Q0 := Lib.hid q0
  have S0 := Lib.hid s0
  clear kk hF q0 s0 k
  go_enter Try.func9, Try.ntmps9
  go_wp2_with fail
  refine HF.out.mono ?_
  rintro e w1 ⟨rfl, q, rfl⟩
  have cq := Blk.cell (Q0.out.drewN q) 0
  simp at cq
  go_wp2_with fail
  refine (keep_any 1 g _ _ cap st L a b c s _ (Q0.out.drewN q) (S0.out.drewN q) (HK.out.drewN q) (by omega) ha (by omega)).mono ?_
  rintro e w2 ⟨rfl, k2, o2⟩
  have O2 : Only [g] w w2 := ((((Only.refl [g] w).alloc _).alloc _).drewN q).trans_ o2
  have HF2 := Lib.hid (And.intro k2 O2)
  clear k2 o2 O2
  go_wp2_with fail
  go_ret
  exact ⟨rfl, HF2.out.1, HF2.out.2⟩

set_option maxHeartbeats 4000000 in
theorem put_refused (g : Nat) (cap : Int) (L : List ByteArray) (a b c : Int) (s : ByteArray) (w : World) (k : QAt 50 w g cap 0 L a b c) (h : cap ≤ (L.length : Int)) :
    Calls Try.prog 9 #[.pointer (some ⟨g, 0, none⟩), .string s] w (Turned 50 (.int .i64 0) w g cap 0 L a b c) := by
  have kk := (k.alloc (.cells #[.pointer (some ⟨g, 0, none⟩)] 23)).alloc (.cells #[.string s] 9)
  have hF := full_any g cap 0 L a b c _ kk
  rw [fullp cap L.length h] at hF
  have HF := Lib.hid hF
  have q0 := Blk.alloc (Blk.new w 23 #[.pointer (some ⟨g, 0, none⟩)]) (.cells #[.string s] 9)
  have HK := Lib.hid kk
  have Q0 := Lib.hid q0
  clear kk hF q0 k
  go_enter Try.func9, Try.ntmps9
  go_wp2_with fail
  refine HF.out.mono ?_
  rintro e w1 ⟨rfl, q, rfl⟩
  have cq := Blk.cell (Q0.out.drewN q) 0
  have hk := HK.out
  obtain ⟨A, n, h1, h2⟩ := hk
  have c1 := Blk.cell (h1.drewN q) 1
  simp at cq c1
  clear h1 h2
  go_wp2_with fail
  go_ret
  exact ⟨rfl, HK.out.drewN q, (((Only.refl [g] w).alloc _).alloc _).drewN q⟩

set_option maxHeartbeats 4000000 in
theorem put_dropped (g : Nat) (cap st : Int) (L : List ByteArray) (a b c : Int) (s : ByteArray) (w : World) (k : QAt 50 w g cap st L a b c) (h : cap ≤ (L.length : Int)) (hst : st = 1 ∨ (st = 2 ∧ cap = 0))
    (ha : 0 ≤ a) (ha' : a ≤ 100000) (hc : 0 ≤ c) (hc' : c ≤ 100000) :
    Calls Try.prog 9 #[.pointer (some ⟨g, 0, none⟩), .string s] w (Turned 50 (.int .i64 2) w g cap st L (a + 1) b (c + 1)) := by
  have kk := (k.alloc (.cells #[.pointer (some ⟨g, 0, none⟩)] 23)).alloc (.cells #[.string s] 9)
  have hF := full_any g cap st L a b c _ kk
  rw [fullp cap L.length h] at hF
  have HF := Lib.hid hF
  have q0 := Blk.alloc (Blk.new w 23 #[.pointer (some ⟨g, 0, none⟩)]) (.cells #[.string s] 9)
  have HK := Lib.hid kk
  have Q0 := Lib.hid q0
  clear kk hF q0
  have fin : ∀ (q : Nat) (W : World), W = (((((w.alloc (.cells #[.pointer (some ⟨g, 0, none⟩)] 23)).alloc (.cells #[.string s] 9)).drewN q).setCell ⟨g, 3, none⟩ (.int .i64 (a + 1))).setCell ⟨g, 5, none⟩ (.int .i64 (c + 1))) → QAt 50 W g cap st L (a + 1) b (c + 1) ∧ Only [g] w W := by
    rintro q W rfl
    obtain ⟨A, n, h1, h2⟩ := HK.out
    have d1 := Blk.set_ (Blk.set_ (h1.drewN q) 3 (.int .i64 (a + 1))) 5 (.int .i64 (c + 1))
    simp at d1
    exact ⟨⟨A, n, by simpa using d1, ((h2.drewN q).setCell (p := ⟨g, 3, none⟩) (by exact h1) (by decide) _).setCell (p := ⟨g, 5, none⟩) (by exact Blk.set_ (h1.drewN q) 3 _) (by decide) _⟩,
      (((((Only.refl [g] w).alloc _).alloc _).drewN q).setCell (.inl (by simp)) _).setCell (.inl (by simp)) _⟩
  have HFIN := Lib.hid fin
  have hgl := k.lt
  have hg1 : g < w.heap.size + 1 := by omega
  have hg2 : g < w.heap.size + 1 + 1 := by omega
  have hgne : w.heap.size ≠ g := by omega
  clear fin k
  rcases hst with rfl | ⟨rfl, rfl⟩
  all_goals
    (go_enter Try.func9, Try.ntmps9
     go_wp2_with fail
     refine HF.out.mono ?_
     rintro e w1 ⟨rfl, q, rfl⟩
     have cq := Blk.cell (Q0.out.drewN q) 0
     have hk := HK.out
     obtain ⟨A, n, h1, h2⟩ := hk
     have c0 := Blk.cell (h1.drewN q) 0
     have c1 := Blk.cell (h1.drewN q) 1
     have c3 := Blk.cell (h1.drewN q) 3
     have c5 := Blk.cell (h1.drewN q) 5
     have f3 := Blk.frozen (h1.drewN q) 3
     have f5 := Blk.frozen (h1.drewN q) 5
     simp at cq c0 c1 c3 c5
     clear h1 h2
     go_wp2_with fail
     try (go_quiet (fail); go_wp2_with fail)
     go_ret
     refine ⟨rfl, ?_⟩
     first | exact HFIN.out _ _ rfl | (exact HFIN.out (q + 1) _ rfl))

set_option maxHeartbeats 4000000 in
theorem put_pushed (g : Nat) (cap : Int) (s0 : ByteArray) (L : List ByteArray) (a b c : Int) (s : ByteArray) (w : World) (k : QAt 50 w g cap 2 (s0 :: L) a b c) (h : cap ≤ ((s0 :: L).length : Int)) (hcap : 0 < cap) (hL : L.length ≤ 63)
    (ha : 0 ≤ a) (ha' : a ≤ 100000) (hc : 0 ≤ c) (hc' : c ≤ 100000) :
    Calls Try.prog 9 #[.pointer (some ⟨g, 0, none⟩), .string s] w (Turned 50 (.int .i64 3) w g cap 2 (L ++ [s]) (a + 1) b (c + 1)) := by
  have kk := (k.alloc (.cells #[.pointer (some ⟨g, 0, none⟩)] 23)).alloc (.cells #[.string s] 9)
  have hF := full_any g cap 2 (s0 :: L) a b c _ kk
  rw [fullp cap (s0 :: L).length h] at hF
  have HF := Lib.hid hF
  have q0 := Blk.alloc (Blk.new w 23 #[.pointer (some ⟨g, 0, none⟩)]) (.cells #[.string s] 9)
  have s0' := Blk.new (w.alloc (.cells #[.pointer (some ⟨g, 0, none⟩)] 23)) 9 #[.string s]
  simp only [World.size_alloc] at s0'
  have HK := Lib.hid kk
  have Q0 := Lib.hid q0
  have S0 := Lib.hid s0'
  have hgl := k.lt
  have hgne : w.heap.size ≠ g := by omega
  have hgne2 : w.heap.size + 1 ≠ g := by omega
  have hcz : (cap == 0) = false := by simp; omega
  clear kk hF q0 s0' k
  go_enter Try.func9, Try.ntmps9
  go_wp2_with fail
  refine HF.out.mono ?_
  rintro e w1 ⟨rfl, q, rfl⟩
  have cq := Blk.cell (Q0.out.drewN q) 0
  have hk := HK.out
  obtain ⟨A, n, h1, h2⟩ := hk
  have c0 := Blk.cell (h1.drewN q) 0
  have c1 := Blk.cell (h1.drewN q) 1
  simp at cq c0 c1
  clear h1 h2
  go_wp2_with fail
  generalize hW : World.drewN _ _ = W at *
  have HKW : QAt 50 W g cap 2 (s0 :: L) a b c := by rw [← hW]; exact HK.out
  have Q0W : Blk W w.heap.size 23 #[.pointer (some ⟨g, 0, none⟩)] := by rw [← hW]; exact Q0.out
  have S0W : Blk W (w.heap.size + 1) 9 #[.string s] := by rw [← hW]; exact S0.out
  have O0 : Only [g] w W := by rw [← hW]; first | exact (((Only.refl [g] w).alloc _).alloc _).drewN _ | exact ((((Only.refl [g] w).alloc _).alloc _).drewN _).drewN _
  refine (shift_any g cap 2 s0 L a b c W HKW (by omega)).mono ?_
  rintro e w2 ⟨rfl, k2, o2⟩
  have q2 := Q0W.only o2 (by simpa using hgne)
  have s2 := S0W.only o2 (by simpa using hgne2)
  have O2 := O0.trans_ o2
  have k2' := k2
  obtain ⟨A2, n2, h21, h22⟩ := k2
  have c5 := Blk.cell h21 5
  have f5 := Blk.frozen h21 5
  have cq2 := Blk.cell q2 0
  simp at c5 cq2
  have k3 : QAt 50 (w2.setCell ⟨g, 5, none⟩ (.int .i64 (c + 1))) g cap 2 L a b (c + 1) := by
    have d1 := Blk.set_ h21 5 (.int .i64 (c + 1))
    simp at d1
    exact ⟨A2, n2, by simpa using d1, h22.setCell (p := ⟨g, 5, none⟩) (by exact h21) (by decide) _⟩
  have q3 := q2.far (p := ⟨g, 5, none⟩) hgne (.int .i64 (c + 1))
  have s3 := s2.far (p := ⟨g, 5, none⟩) hgne2 (.int .i64 (c + 1))
  have O3 := O2.setCell (p := ⟨g, 5, none⟩) (.inl (by simp)) (.int .i64 (c + 1))
  have HP := Lib.hid (keep_any 3 g _ _ cap 2 L a b (c + 1) s _ q3 s3 k3 (by omega) ha (by omega))
  have HO3 := Lib.hid O3
  clear h21 h22 k2' k3 q3 s3 O3 O2 O0 q2 s2 HKW Q0W S0W o2
  go_wp2_with fail
  refine HP.out.mono ?_
  rintro e w4 ⟨rfl, k4, o4⟩
  have HF2 := Lib.hid (And.intro k4 (HO3.out.trans_ o4))
  clear k4 o4
  go_wp2_with fail
  go_ret
  exact ⟨rfl, HF2.out.1, HF2.out.2⟩
theorem put_nil (s : ByteArray) (w : World) :
    Calls Try.prog 9 #[.pointer none, .string s] w fun e w' => e = .returned (.int .i64 0) ∧ Below w.heap.size w w' := by
  go_enter Try.func9, Try.ntmps9
  go_wp2_with fail
  go_ret
  exact ⟨rfl, ((Below.refl _ _).alloc (Nat.le_refl _) _).alloc (by simp) _⟩

def ItemsIs (w : World) (L : List ByteArray) (e : Ending) (w' : World) : Prop :=
  ∃ A k, e = .returned (.slice A L.length k) ∧ Held w' 9 1 A L.length k (strs L) ∧ Below w.heap.size w w'
set_option maxHeartbeats 1000000 in
theorem items_any (g : Nat) (cap st : Int) (L : List ByteArray) (a b c : Int) (w : World) (k : QAt 50 w g cap st L a b c) (hL : L.length ≤ 64) :
    Calls Try.prog 12 #[.pointer (some ⟨g, 0, none⟩)] w (ItemsIs w L) := by
  obtain ⟨i0, hi0, hz0, hz1, hz2⟩ := info_parts info_S
  obtain ⟨A, n, h1, h2⟩ := k
  have c2 := Blk.cell h1 2
  simp at c2
  have HR := Lib.hid (at_reads h2)
  clear h1 h2
  go_enter Try.func12, Try.ntmps12
  go_wp2_with (first
    | (at_builtin
       refine wpList_append_any _ rfl (.const (.slice none 0 0)) (.tmp 8) _ rfl w.heap.size 9 i0 _ 1 16 Try.underlying28 hi0 hz0 hz1 hz2 rfl (by omega) (.slice none 0 0) 0 [] rfl (own_nil _ _ _ _) w.heap.size A L.length n (strs L) rfl HR.out (strs_one _) (by simp only [maxLen]; omega) (by omega) (Nat.le_refl _) ?_
       intro v1 w1 hn1 hg1 hd1
       obtain ⟨A1, k1, rfl⟩ := slice_of_own' hn1))
  go_ret
  rw [Nat.zero_add] at *
  exact ⟨A1, k1, rfl, by simpa using Held.of_own hn1, (Below.refl w.heap.size w).grown hg1 (Nat.le_refl _) (by simp [Value.ownBlock])⟩
theorem items_nil (w : World) : Calls Try.prog 12 #[.pointer none] w fun e w' => e = .returned (.slice none 0 0) ∧ w = w' := by
  go_enter Try.func12, Try.ntmps12
  go_wp2_with fail
  go_ret
  exact ⟨rfl, rfl⟩
theorem copy_nil (w : World) : Calls Try.prog 16 #[.pointer none] w fun e w' => e = .returned (.pointer none) ∧ w = w' := by
  go_enter Try.func16, Try.ntmps16
  go_wp2_with fail
  go_ret
  exact ⟨rfl, rfl⟩
def CopyIs (w : World) (cap st : Int) (L : List ByteArray) (a b c : Int) (e : Ending) (w' : World) : Prop :=
  e = .returned (.pointer (some ⟨w.heap.size, 0, none⟩)) ∧ QAt 50 w' w.heap.size cap st L a b c ∧ Below w.heap.size w w'
set_option maxHeartbeats 1000000 in
theorem copy_any (g : Nat) (cap st : Int) (L : List ByteArray) (a b c : Int) (w : World) (k : QAt 50 w g cap st L a b c) (hL : L.length ≤ 64) :
    Calls Try.prog 16 #[.pointer (some ⟨g, 0, none⟩)] w (CopyIs w cap st L a b c) := by
  have HK := Lib.hid k
  obtain ⟨A, n, h1, h2⟩ := k
  have c0 := Blk.cell h1 0
  have c1 := Blk.cell h1 1
  have c2 := Blk.cell h1 2
  have c3 := Blk.cell h1 3
  have c4 := Blk.cell h1 4
  have c5 := Blk.cell h1 5
  simp at c0 c1 c2 c3 c4 c5
  clear h1 h2
  go_enter Try.func16, Try.ntmps16
  go_wp2_with fail
  have k1 := HK.out.alloc (.cells #[.int .i64 cap, .int .i64 st, .slice A L.length n, .int .i64 a, .int .i64 b, .int .i64 c] 50)
  have d1 := Blk.new w 50 #[.int .i64 cap, .int .i64 st, .slice A L.length n, .int .i64 a, .int .i64 b, .int .i64 c]
  refine (items_any g cap st L a b c _ k1 hL).mono ?_
  rintro e w2 ⟨A2, n2, rfl, h2, b2⟩
  have d2 := Blk.below d1 b2 (by simp)
  have f2 := Blk.frozen d2 2
  have B2 := ((Below.refl w.heap.size w).alloc (Nat.le_refl _) (.cells #[.int .i64 cap, .int .i64 st, .slice A L.length n, .int .i64 a, .int .i64 b, .int .i64 c] 50)).trans (b2.mono (by simp))
  have z2 := Blk.cell d2 2
  simp at z2
  have D2 := Lib.hid d2
  have H2 := Lib.hid h2
  have HB := Lib.hid B2
  clear k1 d1 b2 d2 h2 B2
  go_wp2_with fail
  go_ret
  have e2 := Blk.set_ D2.out 2 (.slice A2 L.length n2)
  simp at e2
  exact ⟨rfl, ⟨A2, n2, e2, H2.out.setCell (p := ⟨w.heap.size, 2, none⟩) (by exact D2.out) (by decide) _⟩, HB.out.setCell (p := ⟨w.heap.size, 2, none⟩) (by simp) _⟩

/-! The answer's own. -/
theorem rtake_any (g : Nat) (cap st : Int) (s : ByteArray) (L : List ByteArray) (a b c : Int) (w : World) (k : QAt 40 w g cap st (s :: L) a b c) (hb : 0 ≤ b) (hb' : b ≤ 1000000) :
    Calls Try.prog 21 #[.pointer (some ⟨g, 0, none⟩)] w (Turned 40 (.tuple #[.string s, .bool true]) w g cap st L a (b + 1) c) := by
  obtain ⟨A, n, h1, h2⟩ := k
  obtain ⟨bb, off, rfl, hbl, x0⟩ := h2.at_ (j := 0) (u := .string s) rfl
  have c2 := Blk.cell h1 2
  have c4 := Blk.cell h1 4
  have f2 := Blk.frozen h1 2
  have f4 := Blk.frozen h1 4
  have hcap := h2.2.1
  have hcap2 := h2.2.2.1
  simp at c2 c4 hcap
  rw [Nat.add_zero] at x0
  have ht := Held.tail_ (x := [.string s]) (rest := strs L) h2 rfl
  by_cases hn : n = 1
  · subst hn
    obtain rfl : L = [] := List.eq_nil_of_length_eq_zero (by omega)
    rw [if_pos rfl] at ht
    have d1 := Blk.set_ (Blk.set_ h1 2 (.slice (some ⟨bb, off, none⟩) 0 0)) 4 (.int .i64 (b + 1))
    have n1 := (ht.setCell (p := ⟨g, 2, none⟩) (by exact h1) (by decide) (.slice (some ⟨bb, off, none⟩) 0 0)).setCell (p := ⟨g, 4, none⟩) (by exact Blk.set_ h1 2 _) (by decide) (.int .i64 (b + 1))
    simp at d1
    have HF := Lib.hid (And.intro d1 n1)
    clear d1 n1 ht h1 h2
    go_enter Try.func21, Try.ntmps21
    go_wp2_with fail
    go_ret2
    exact ⟨rfl, ⟨_, _, HF.out.1, HF.out.2⟩, ((Only.refl [g] w).setCell (.inl (by simp)) _).setCell (.inl (by simp)) _⟩
  · rw [if_neg hn] at ht
    have d1 := Blk.set_ (Blk.set_ h1 2 (.slice (some ⟨bb, off + 1, none⟩) L.length (n - 1))) 4 (.int .i64 (b + 1))
    have n1 := (ht.setCell (p := ⟨g, 2, none⟩) (by exact h1) (by decide) (.slice (some ⟨bb, off + 1, none⟩) L.length (n - 1))).setCell (p := ⟨g, 4, none⟩) (by exact Blk.set_ h1 2 _) (by decide) (.int .i64 (b + 1))
    simp at d1
    have HF := Lib.hid (And.intro d1 n1)
    clear d1 n1 ht h1 h2
    go_enter Try.func21, Try.ntmps21
    go_wp2_with fail
    go_ret2
    exact ⟨rfl, ⟨_, _, HF.out.1, HF.out.2⟩, ((Only.refl [g] w).setCell (.inl (by simp)) _).setCell (.inl (by simp)) _⟩
theorem rtake_none (g : Nat) (cap st a b c : Int) (w : World) (k : QAt 40 w g cap st [] a b c) :
    Calls Try.prog 21 #[.pointer (some ⟨g, 0, none⟩)] w fun e w' => e = .returned (.tuple #[.string ByteArray.empty, .bool false]) ∧ w = w' := by
  obtain ⟨A, n, h1, h2⟩ := k
  have c2 := Blk.cell h1 2
  simp at c2
  clear h1 h2
  go_enter Try.func21, Try.ntmps21
  go_wp2_with fail
  go_ret2
  exact ⟨rfl, rfl⟩
theorem rclear_any (g : Nat) (cap st : Int) (L : List ByteArray) (a b c : Int) (w : World) (k : QAt 40 w g cap st L a b c) (hL : L.length ≤ 64) (hc : 0 ≤ c) (hc' : c ≤ 1000000) :
    Calls Try.prog 22 #[.pointer (some ⟨g, 0, none⟩)] w (Turned 40 (.int .i64 L.length) w g cap st [] a b (c + L.length)) := by
  obtain ⟨A, n, h1, h2⟩ := k
  have c5 := Blk.cell h1 5
  have f5 := Blk.frozen h1 5
  have f2 := Blk.frozen h1 2
  have c2 := Blk.cell h1 2
  simp at c5 c2
  have d1 := Blk.set_ (Blk.set_ h1 5 (.int .i64 (c + L.length))) 2 (.slice none 0 0)
  have O1 := ((Only.refl [g] w).setCell (p := ⟨g, 5, none⟩) (.inl (by simp)) (.int .i64 (c + L.length))).setCell (p := ⟨g, 2, none⟩) (.inl (by simp)) (.slice none 0 0)
  simp at d1
  have HF := Lib.hid (And.intro d1 O1)
  clear h1 h2 d1 O1
  go_enter Try.func22, Try.ntmps22
  go_wp2_with fail
  go_ret
  exact ⟨rfl, ⟨none, 0, by simpa using HF.out.1, Held.nil_ _ _ _⟩, HF.out.2⟩
end Go.Proofs.Ytlncapddimehiaa
