/- The walks of package queue: the answer's Put; Texts, awake. -/
import Derived.Test.YtlncapddimehiaaRows
import Derived.WalkKit
import Derived.ProofKit
import Derived.Handy
import Derived.Test.YtlncapddimehiaaMem
import Derived.Test.YtlncapddimehiaaLift
import Derived.Test.YtlncapddimehiaaApp
import Derived.Test.YtlncapddimehiaaReads
import Derived.Test.YtlncapddimehiaaOrd
import Derived.Test.YtlncapddimehiaaQueue
import Derived.Test.YtlncapddimehiaaQueue2
import Derived.Test.YtlncapddimehiaaQueue3
import Derived.Deep.QuietTactic
import Derived.BigQuiet
import Derived.Deep.RegionWith
import Derived.Deep.RegionHeld3
import Derived.Deep.AppendLies
import Derived.WalkLawsBesides
import Derived.WalkSmall
namespace Go.Proofs.Ytlncapddimehiaa
open Go.RowKit
set_option linter.unusedVariables false




set_option maxHeartbeats 4000000 in
theorem rput_kept (g : Nat) (cap st : Int) (L : List ByteArray) (a b c : Int) (s : ByteArray) (w : World) (k : QAt 40 w g cap st L a b c) (h : (L.length : Int) < cap) (hcap : cap ≤ 64) (ha : 0 ≤ a) (ha' : a ≤ 100000) :
    Calls Try.prog 23 #[.pointer (some ⟨g, 0, none⟩), .string s] w (Turned 40 (.int .i64 1) w g cap st (L ++ [s]) (a + 1) b c) := by
  obtain ⟨i0, hi0, hz0, hz1, hz2⟩ := info_parts info_S
  obtain ⟨A, n, h1, h2⟩ := k
  have c0 := Blk.cell h1 0
  have c2 := Blk.cell h1 2
  simp at c0 c2
  have HH := Lib.hid (And.intro h1 h2)
  clear h1 h2
  go_enter Try.func23, Try.ntmps23
  go_wp2_with fail
  go_quiet (fail)
  clear c0 c2
  have hqo : Only [g] w (w.drewN nq) := (Only.refl _ w).drewN nq
  have HH := Lib.hid (And.intro (HH.out.1.drewN nq) (HH.out.2.drewN nq))
  generalize w.drewN nq = wq at *
  have c0 := Blk.cell HH.out.1 0
  have c1 := Blk.cell HH.out.1 1
  have c2 := Blk.cell HH.out.1 2
  have c3 := Blk.cell HH.out.1 3
  have c5 := Blk.cell HH.out.1 5
  have f3 := Blk.frozen HH.out.1 3
  have f5 := Blk.frozen HH.out.1 5
  simp at c0 c1 c2 c3 c5
  have hlt := Blk.lt HH.out.1
  have H1 := Lib.hid HH.out.1
  have hr := at_reads (HH.out.2.alloc (.cells #[] 9))
  simp only [World.size_alloc] at hr
  have HR := Lib.hid hr
  clear hr c3 c5 f3 f5
  go_wp2_with (first
      | (at_builtin
         refine wpList_append_any _ rfl (.tmp 16) (.tmp 20) _ rfl wq.heap.size 9 i0 _ 1 16 Try.underlying28 hi0 hz0 hz1 hz2 rfl (by omega) (.slice (some ⟨wq.heap.size, 0, none⟩) 0 0) 0 [] rfl (own_empty (Blk.new wq _ _) (Nat.le_refl _)) (wq.heap.size + 1) A L.length n (strs L) rfl HR.out (strs_one _) (by simp only [maxLen]; omega) (by omega) (by simp) ?_
         intro v1 w1 hn1 hg1 hd1
         obtain ⟨A1, k1, rfl⟩ := slice_of_own' hn1
         rw [Nat.zero_add] at *
         rw [List.nil_append] at hn1
         have B1 : Below wq.heap.size wq w1 := ((Below.refl wq.heap.size wq).alloc (Nat.le_refl _) _).grown hg1 (by simp) (fun k hk => by simp [Value.ownBlock] at hk; omega)
         have hsz1 : wq.heap.size ≤ w1.heap.size := B1.size
         clear hg1 hd1)
      | (at_builtin
         refine wpList_append_any _ rfl (.tmp 21) (.tmp 23) _ rfl wq.heap.size 9 i0 _ 1 16 Try.underlying28 hi0 hz0 hz1 hz2 rfl (by omega) (.slice A1 L.length k1) L.length (strs L) rfl (hn1.alloc _) (w1.heap.size + 1) (some ⟨w1.heap.size, 0, none⟩) 1 1 [.string s] rfl ⟨rfl, fun _ => ⟨_, rfl, by simp, fun j u hu => World.news_of_block (cs := #[.string s]) (t := 9) (fr := (0, 0)) (heap_alloc_new w1 _) j u hu⟩⟩ (by intro u hu; simp at hu; subst hu; rfl) (by simp only [maxLen]; omega) (by omega) (by simp; omega) ?_
         intro v2 w2 hn2 hg2 hd2
         obtain ⟨A2, k2, rfl⟩ := slice_of_own' hn2
         have own1 := hn1.alloc (.cells #[.string s] 9)
         have B2 : Below wq.heap.size wq w2 := (B1.alloc hsz1 _).grown hg2 (by simp; omega) (fun k hk => ownBlock_ge own1 hk)
         have d2 := Blk.below H1.out B2 hlt
         have hN := Held.of_own hn2
         have f2 := Blk.frozen d2 2
         have f3 := Blk.frozen d2 3
         have f5 := Blk.frozen d2 5
         have z2 := Blk.cell d2 2
         have z3 := Blk.cell d2 3
         have z5 := Blk.cell d2 5
         simp at z2 z3 z5
         have HN := Lib.hid hN
         have D2 := Lib.hid d2
         have HB2 := Lib.hid B2
         clear own1 hN d2 B1 B2 hn1 hn2 hg2 hd2))
  go_ret
  have e1 := Blk.set_ (Blk.set_ D2.out 2 (.slice A2 (L.length + 1) k2)) 3 (.int .i64 (a + 1))
  have n1 := (HN.out.setCell (p := ⟨g, 2, none⟩) (by exact D2.out) (by decide) (.slice A2 (L.length + 1) k2)).setCell (p := ⟨g, 3, none⟩) (by exact Blk.set_ D2.out 2 _) (by decide) (.int .i64 (a + 1))
  simp at e1
  exact ⟨rfl, ⟨A2, k2, by simpa using e1, by simpa [strs] using n1⟩, hqo.trans_ (((Only.of_below HB2.out).setCell (.inl (by simp)) _).setCell (.inl (by simp)) _)⟩

set_option maxHeartbeats 4000000 in
theorem rput_refused (g : Nat) (cap : Int) (L : List ByteArray) (a b c : Int) (s : ByteArray) (w : World) (k : QAt 40 w g cap 0 L a b c) (h : cap ≤ (L.length : Int)) (hL : L.length ≤ 64) :
    Calls Try.prog 23 #[.pointer (some ⟨g, 0, none⟩), .string s] w (Turned 40 (.int .i64 0) w g cap 0 L a b c) := by
  obtain ⟨i0, hi0, hz0, hz1, hz2⟩ := info_parts info_S
  obtain ⟨A, n, h1, h2⟩ := k
  have c0 := Blk.cell h1 0
  have c2 := Blk.cell h1 2
  simp at c0 c2
  have HH := Lib.hid (And.intro h1 h2)
  clear h1 h2
  go_enter Try.func23, Try.ntmps23
  go_wp2_with fail
  go_quiet (fail)
  clear c0 c2
  have hqo : Only [g] w (w.drewN nq) := (Only.refl _ w).drewN nq
  have HH := Lib.hid (And.intro (HH.out.1.drewN nq) (HH.out.2.drewN nq))
  generalize w.drewN nq = wq at *
  have c0 := Blk.cell HH.out.1 0
  have c1 := Blk.cell HH.out.1 1
  have c2 := Blk.cell HH.out.1 2
  have c3 := Blk.cell HH.out.1 3
  have c5 := Blk.cell HH.out.1 5
  have f3 := Blk.frozen HH.out.1 3
  have f5 := Blk.frozen HH.out.1 5
  simp at c0 c1 c2 c3 c5
  have FIN := Lib.hid (And.intro (show QAt 40 wq g cap 0 L a b c from ⟨A, n, HH.out.1, HH.out.2⟩) hqo)
  go_wp2_with fail
  go_ret
  exact ⟨rfl, FIN.out.1, FIN.out.2⟩

set_option maxHeartbeats 4000000 in
theorem rput_dropped (g : Nat) (cap st : Int) (L : List ByteArray) (a b c : Int) (s : ByteArray) (w : World) (k : QAt 40 w g cap st L a b c) (h : cap ≤ (L.length : Int)) (hL : L.length ≤ 64) (hst : st = 1 ∨ (st = 2 ∧ cap = 0)) (ha : 0 ≤ a) (ha' : a ≤ 100000) (hc : 0 ≤ c) (hc' : c ≤ 100000) :
    Calls Try.prog 23 #[.pointer (some ⟨g, 0, none⟩), .string s] w (Turned 40 (.int .i64 2) w g cap st L (a + 1) b (c + 1)) := by
  obtain ⟨i0, hi0, hz0, hz1, hz2⟩ := info_parts info_S
  obtain ⟨A, n, h1, h2⟩ := k
  have c0 := Blk.cell h1 0
  have c2 := Blk.cell h1 2
  simp at c0 c2
  have HH := Lib.hid (And.intro h1 h2)
  clear h1 h2
  rcases hst with rfl | ⟨rfl, rfl⟩
  all_goals
    (go_enter Try.func23, Try.ntmps23
     go_wp2_with fail
     go_quiet (fail)
     clear c0 c2
     have hqo : Only [g] w (w.drewN nq) := (Only.refl _ w).drewN nq
     have HH := Lib.hid (And.intro (HH.out.1.drewN nq) (HH.out.2.drewN nq))
     generalize w.drewN nq = wq at *
     have c0 := Blk.cell HH.out.1 0
     have c1 := Blk.cell HH.out.1 1
     have c2 := Blk.cell HH.out.1 2
     have c3 := Blk.cell HH.out.1 3
     have c5 := Blk.cell HH.out.1 5
     have f3 := Blk.frozen HH.out.1 3
     have f5 := Blk.frozen HH.out.1 5
     simp at c0 c1 c2 c3 c5
     have e1 := Blk.set_ (Blk.set_ HH.out.1 3 (.int .i64 (a + 1))) 5 (.int .i64 (c + 1))
     have n1 := (HH.out.2.setCell (p := ⟨g, 3, none⟩) (by exact HH.out.1) (by decide) (.int .i64 (a + 1))).setCell (p := ⟨g, 5, none⟩) (by exact Blk.set_ HH.out.1 3 _) (by decide) (.int .i64 (c + 1))
     simp at e1
     have FIN := Lib.hid (And.intro e1 n1)
     clear e1 n1
     go_wp2_with fail
     go_ret
     exact ⟨rfl, ⟨A, n, FIN.out.1, FIN.out.2⟩, hqo.trans_ (((Only.refl [g] wq).setCell (.inl (by simp)) _).setCell (.inl (by simp)) _)⟩)

set_option maxHeartbeats 4000000 in
theorem rput_pushed (g : Nat) (cap : Int) (s0 : ByteArray) (L : List ByteArray) (a b c : Int) (s : ByteArray) (w : World) (k : QAt 40 w g cap 2 (s0 :: L) a b c) (h : cap ≤ ((s0 :: L).length : Int)) (hcap : 0 < cap) (hL : L.length ≤ 63) (ha : 0 ≤ a) (ha' : a ≤ 100000) (hc : 0 ≤ c) (hc' : c ≤ 100000) :
    Calls Try.prog 23 #[.pointer (some ⟨g, 0, none⟩), .string s] w (Turned 40 (.int .i64 3) w g cap 2 (L ++ [s]) (a + 1) b (c + 1)) := by
  obtain ⟨i0, hi0, hz0, hz1, hz2⟩ := info_parts info_S
  obtain ⟨A, n, h1, h2⟩ := k
  have c0 := Blk.cell h1 0
  have c2 := Blk.cell h1 2
  simp at c0 c2
  have HH := Lib.hid (And.intro h1 h2)
  have hcz : (cap == 0) = false := by simp; omega
  obtain ⟨bb, off, rfl, hbl, x0⟩ := h2.at_ (j := 0) (u := .string s0) rfl
  have hcp := h2.2.1
  have hcp2 := h2.2.2.1
  simp at hcp h
  clear h1 h2 x0
  by_cases hn : n = 1
  · subst hn
    obtain rfl : L = [] := List.eq_nil_of_length_eq_zero (by omega)
    go_enter Try.func23, Try.ntmps23
    go_wp2_with fail
    go_quiet (fail)
    clear c0 c2
    have hqo : Only [g] w (w.drewN nq) := (Only.refl _ w).drewN nq
    have HH := Lib.hid (And.intro (HH.out.1.drewN nq) (HH.out.2.drewN nq))
    generalize w.drewN nq = wq at *
    have c0 := Blk.cell HH.out.1 0
    have c1 := Blk.cell HH.out.1 1
    have c2 := Blk.cell HH.out.1 2
    have c3 := Blk.cell HH.out.1 3
    have c5 := Blk.cell HH.out.1 5
    have f2 := Blk.frozen HH.out.1 2
    have f3 := Blk.frozen HH.out.1 3
    have f5 := Blk.frozen HH.out.1 5
    simp at c0 c1 c2 c3 c5
    have hlt := Blk.lt HH.out.1
    have hlt1 : g < wq.heap.size + 1 := by omega
    have e5 := Blk.set_ (Blk.set_ HH.out.1 3 (.int .i64 (a + 1))) 5 (.int .i64 (c + 1))
    have n5 := (HH.out.2.setCell (p := ⟨g, 3, none⟩) (by exact HH.out.1) (by decide) (.int .i64 (a + 1))).setCell (p := ⟨g, 5, none⟩) (by exact Blk.set_ HH.out.1 3 _) (by decide) (.int .i64 (c + 1))
    have ht := Held.tail_ (x := [.string s0]) (rest := strs []) n5 rfl
    have o5 := hqo.trans_ (((Only.refl [g] wq).setCell (p := ⟨g, 3, none⟩) (.inl (by simp)) (.int .i64 (a + 1))).setCell (p := ⟨g, 5, none⟩) (.inl (by simp)) (.int .i64 (c + 1)))
    simp at e5
    rw [if_pos rfl] at ht
    have hr := at_reads (ht.alloc (.cells #[] 9))
    simp only [World.size_alloc, World.size_setCell] at hr
    have hsz5 : ((wq.setCell ⟨g, 3, none⟩ (.int .i64 (a + 1))).setCell ⟨g, 5, none⟩ (.int .i64 (c + 1))).heap.size = wq.heap.size := by simp [World.setCell]
    have hnew : Blk (((wq.setCell ⟨g, 3, none⟩ (.int .i64 (a + 1))).setCell ⟨g, 5, none⟩ (.int .i64 (c + 1))).alloc (.cells #[] 9)) wq.heap.size 9 #[] := by have := Blk.new ((wq.setCell ⟨g, 3, none⟩ (.int .i64 (a + 1))).setCell ⟨g, 5, none⟩ (.int .i64 (c + 1))) 9 #[]; rw [hsz5] at this; exact this
    have HNEW := Lib.hid hnew
    have HR := Lib.hid hr
    clear hsz5 hnew
    have HE5 := Lib.hid (And.intro e5 o5)
    clear e5 n5 o5 hqo ht hr
    go_wp2_with (first
          | (at_builtin
             refine wpList_append_any _ rfl (.tmp 69) (.tmp 74) _ rfl wq.heap.size 9 i0 _ 1 16 Try.underlying28 hi0 hz0 hz1 hz2 rfl (by omega) (.slice (some ⟨wq.heap.size, 0, none⟩) 0 0) 0 [] rfl (own_empty HNEW.out (Nat.le_refl _)) (wq.heap.size + 1) (some ⟨bb, off, none⟩) 0 0 (strs []) rfl HR.out (strs_one _) (by simp only [maxLen]; omega) (by omega) (by simp [World.setCell]) ?_
             intro v1 w1 hn1 hg1 hd1
             obtain ⟨A1, k1, rfl⟩ := slice_of_own' hn1
             rw [Nat.zero_add] at *
             rw [List.nil_append] at hn1
             have B1 : Below wq.heap.size ((wq.setCell ⟨g, 3, none⟩ (.int .i64 (a + 1))).setCell ⟨g, 5, none⟩ (.int .i64 (c + 1))) w1 := ((Below.refl wq.heap.size ((wq.setCell ⟨g, 3, none⟩ (.int .i64 (a + 1))).setCell ⟨g, 5, none⟩ (.int .i64 (c + 1)))).alloc (by simp [World.setCell]) _).grown hg1 (by simp [World.setCell]) (fun k hk => by simp [Value.ownBlock] at hk; omega)
             have hsz1 : wq.heap.size ≤ w1.heap.size := by have := B1.size; simpa [World.setCell] using this
             clear hg1 hd1)
          | (at_builtin
             refine wpList_append_any _ rfl (.tmp 75) (.tmp 77) _ rfl wq.heap.size 9 i0 _ 1 16 Try.underlying28 hi0 hz0 hz1 hz2 rfl (by omega) (.slice A1 0 k1) 0 (strs []) rfl (hn1.alloc _) (w1.heap.size + 1) (some ⟨w1.heap.size, 0, none⟩) 1 1 [.string s] rfl ⟨rfl, fun _ => ⟨_, rfl, by simp, fun j u hu => World.news_of_block (cs := #[.string s]) (t := 9) (fr := (0, 0)) (heap_alloc_new w1 _) j u hu⟩⟩ (by intro u hu; simp at hu; subst hu; rfl) (by simp only [maxLen]; omega) (by omega) (by simp; omega) ?_
             intro v2 w2 hn2 hg2 hd2
             obtain ⟨A2, k2, rfl⟩ := slice_of_own' hn2
             have own1 := hn1.alloc (.cells #[.string s] 9)
             have B2 : Below wq.heap.size ((wq.setCell ⟨g, 3, none⟩ (.int .i64 (a + 1))).setCell ⟨g, 5, none⟩ (.int .i64 (c + 1))) w2 := (B1.alloc hsz1 _).grown hg2 (by simp; omega) (fun k hk => ownBlock_ge own1 hk)
             have d2 := Blk.below HE5.out.1 B2 hlt
             have hN := Held.of_own hn2
             have f2 := Blk.frozen d2 2
             have f3 := Blk.frozen d2 3
             have f5 := Blk.frozen d2 5
             have z2 := Blk.cell d2 2
             have z3 := Blk.cell d2 3
             have z5 := Blk.cell d2 5
             simp at z2 z3 z5
             have HN := Lib.hid hN
             have D2 := Lib.hid d2
             have HB2 := Lib.hid B2
             clear own1 hN d2 B1 B2 hn1 hn2 hg2 hd2))
    go_ret
    have e1 := Blk.set_ D2.out 2 (.slice A2 (0 + 1) k2)
    have n1 := HN.out.setCell (p := ⟨g, 2, none⟩) (by exact D2.out) (by decide) (.slice A2 (0 + 1) k2)
    simp at e1
    have hsz : ((wq.setCell ⟨g, 3, none⟩ (.int .i64 (a + 1))).setCell ⟨g, 5, none⟩ (.int .i64 (c + 1))).heap.size = wq.heap.size := by simp [World.setCell]
    exact ⟨rfl, ⟨A2, k2, by simpa using e1, by simpa [strs] using n1⟩, HE5.out.2.trans_ ((Only.of_below (by rw [hsz]; exact HB2.out)).setCell (.inl (by simp)) _)⟩
  · go_enter Try.func23, Try.ntmps23
    go_wp2_with fail
    go_quiet (fail)
    clear c0 c2
    have hqo : Only [g] w (w.drewN nq) := (Only.refl _ w).drewN nq
    have HH := Lib.hid (And.intro (HH.out.1.drewN nq) (HH.out.2.drewN nq))
    generalize w.drewN nq = wq at *
    have c0 := Blk.cell HH.out.1 0
    have c1 := Blk.cell HH.out.1 1
    have c2 := Blk.cell HH.out.1 2
    have c3 := Blk.cell HH.out.1 3
    have c5 := Blk.cell HH.out.1 5
    have f2 := Blk.frozen HH.out.1 2
    have f3 := Blk.frozen HH.out.1 3
    have f5 := Blk.frozen HH.out.1 5
    simp at c0 c1 c2 c3 c5
    have hlt := Blk.lt HH.out.1
    have hlt1 : g < wq.heap.size + 1 := by omega
    have e5 := Blk.set_ (Blk.set_ HH.out.1 3 (.int .i64 (a + 1))) 5 (.int .i64 (c + 1))
    have n5 := (HH.out.2.setCell (p := ⟨g, 3, none⟩) (by exact HH.out.1) (by decide) (.int .i64 (a + 1))).setCell (p := ⟨g, 5, none⟩) (by exact Blk.set_ HH.out.1 3 _) (by decide) (.int .i64 (c + 1))
    have ht := Held.tail_ (x := [.string s0]) (rest := strs L) n5 rfl
    have o5 := hqo.trans_ (((Only.refl [g] wq).setCell (p := ⟨g, 3, none⟩) (.inl (by simp)) (.int .i64 (a + 1))).setCell (p := ⟨g, 5, none⟩) (.inl (by simp)) (.int .i64 (c + 1)))
    simp at e5
    rw [if_neg hn] at ht
    have hr := at_reads (ht.alloc (.cells #[] 9))
    simp only [World.size_alloc, World.size_setCell] at hr
    have hsz5 : ((wq.setCell ⟨g, 3, none⟩ (.int .i64 (a + 1))).setCell ⟨g, 5, none⟩ (.int .i64 (c + 1))).heap.size = wq.heap.size := by simp [World.setCell]
    have hnew : Blk (((wq.setCell ⟨g, 3, none⟩ (.int .i64 (a + 1))).setCell ⟨g, 5, none⟩ (.int .i64 (c + 1))).alloc (.cells #[] 9)) wq.heap.size 9 #[] := by have := Blk.new ((wq.setCell ⟨g, 3, none⟩ (.int .i64 (a + 1))).setCell ⟨g, 5, none⟩ (.int .i64 (c + 1))) 9 #[]; rw [hsz5] at this; exact this
    have HNEW := Lib.hid hnew
    have HR := Lib.hid hr
    clear hsz5 hnew
    have HE5 := Lib.hid (And.intro e5 o5)
    clear e5 n5 o5 hqo ht hr
    go_wp2_with (first
          | (at_builtin
             refine wpList_append_any _ rfl (.tmp 69) (.tmp 74) _ rfl wq.heap.size 9 i0 _ 1 16 Try.underlying28 hi0 hz0 hz1 hz2 rfl (by omega) (.slice (some ⟨wq.heap.size, 0, none⟩) 0 0) 0 [] rfl (own_empty HNEW.out (Nat.le_refl _)) (wq.heap.size + 1) (some ⟨bb, off + 1, none⟩) L.length (n - 1) (strs L) rfl HR.out (strs_one _) (by simp only [maxLen]; omega) (by omega) (by simp [World.setCell]) ?_
             intro v1 w1 hn1 hg1 hd1
             obtain ⟨A1, k1, rfl⟩ := slice_of_own' hn1
             rw [Nat.zero_add] at *
             rw [List.nil_append] at hn1
             have B1 : Below wq.heap.size ((wq.setCell ⟨g, 3, none⟩ (.int .i64 (a + 1))).setCell ⟨g, 5, none⟩ (.int .i64 (c + 1))) w1 := ((Below.refl wq.heap.size ((wq.setCell ⟨g, 3, none⟩ (.int .i64 (a + 1))).setCell ⟨g, 5, none⟩ (.int .i64 (c + 1)))).alloc (by simp [World.setCell]) _).grown hg1 (by simp [World.setCell]) (fun k hk => by simp [Value.ownBlock] at hk; omega)
             have hsz1 : wq.heap.size ≤ w1.heap.size := by have := B1.size; simpa [World.setCell] using this
             clear hg1 hd1)
          | (at_builtin
             refine wpList_append_any _ rfl (.tmp 75) (.tmp 77) _ rfl wq.heap.size 9 i0 _ 1 16 Try.underlying28 hi0 hz0 hz1 hz2 rfl (by omega) (.slice A1 L.length k1) L.length (strs L) rfl (hn1.alloc _) (w1.heap.size + 1) (some ⟨w1.heap.size, 0, none⟩) 1 1 [.string s] rfl ⟨rfl, fun _ => ⟨_, rfl, by simp, fun j u hu => World.news_of_block (cs := #[.string s]) (t := 9) (fr := (0, 0)) (heap_alloc_new w1 _) j u hu⟩⟩ (by intro u hu; simp at hu; subst hu; rfl) (by simp only [maxLen]; omega) (by omega) (by simp; omega) ?_
             intro v2 w2 hn2 hg2 hd2
             obtain ⟨A2, k2, rfl⟩ := slice_of_own' hn2
             have own1 := hn1.alloc (.cells #[.string s] 9)
             have B2 : Below wq.heap.size ((wq.setCell ⟨g, 3, none⟩ (.int .i64 (a + 1))).setCell ⟨g, 5, none⟩ (.int .i64 (c + 1))) w2 := (B1.alloc hsz1 _).grown hg2 (by simp; omega) (fun k hk => ownBlock_ge own1 hk)
             have d2 := Blk.below HE5.out.1 B2 hlt
             have hN := Held.of_own hn2
             have f2 := Blk.frozen d2 2
             have f3 := Blk.frozen d2 3
             have f5 := Blk.frozen d2 5
             have z2 := Blk.cell d2 2
             have z3 := Blk.cell d2 3
             have z5 := Blk.cell d2 5
             simp at z2 z3 z5
             have HN := Lib.hid hN
             have D2 := Lib.hid d2
             have HB2 := Lib.hid B2
             clear own1 hN d2 B1 B2 hn1 hn2 hg2 hd2))
    go_ret
    have e1 := Blk.set_ D2.out 2 (.slice A2 (L.length + 1) k2)
    have n1 := HN.out.setCell (p := ⟨g, 2, none⟩) (by exact D2.out) (by decide) (.slice A2 (L.length + 1) k2)
    simp at e1
    have hsz : ((wq.setCell ⟨g, 3, none⟩ (.int .i64 (a + 1))).setCell ⟨g, 5, none⟩ (.int .i64 (c + 1))).heap.size = wq.heap.size := by simp [World.setCell]
    exact ⟨rfl, ⟨A2, k2, by simpa using e1, by simpa [strs] using n1⟩, HE5.out.2.trans_ ((Only.of_below (by rw [hsz]; exact HB2.out)).setCell (.inl (by simp)) _)⟩
end Go.Proofs.Ytlncapddimehiaa
