/- The walks of package queue: what turns it. -/
import Derived.Test.YtlncapddimehiaaRows
import Derived.WalkKit
import Derived.ProofKit
import Derived.Handy
import Derived.Test.YtlncapddimehiaaMem
import Derived.Test.YtlncapddimehiaaLift
import Derived.Test.YtlncapddimehiaaApp
import Derived.Test.YtlncapddimehiaaReads
import Derived.Test.YtlncapddimehiaaOrd
import Derived.Test.YtlncapddimehiaaQueue
import Derived.Deep.QuietTactic
import Derived.BigQuiet
import Derived.Deep.RegionWith
import Derived.Deep.RegionHeld3
import Derived.Deep.AppendLies
import Derived.WalkLawsBesides
import Derived.WalkSmall
namespace Go.Proofs.Ytlncapddimehiaa
open Go.RowKit
set_option linter.unusedVariables false


/-- What a call of a queue leaves. -/
def Turned (t : TypeId) (v : Value) (w : World) (g : Nat) (cap st : Int) (L : List ByteArray) (a b c : Int) (e : Ending) (w' : World) : Prop :=
  e = .returned v ∧ QAt t w' g cap st L a b c ∧ Only [g] w w'

set_option maxHeartbeats 4000000 in
theorem keep_any (v : Int) (g bq bs : Nat) (cap st : Int) (L : List ByteArray) (a b c : Int) (s : ByteArray) (w : World) (hq : Blk w bq 23 #[.pointer (some ⟨g, 0, none⟩)]) (hs : Blk w bs 9 #[.string s]) (k : QAt 50 w g cap st L a b c)
    (hL : L.length ≤ 64) (ha : 0 ≤ a) (ha' : a ≤ 1000000) :
    Calls Try.prog 20 #[.int .i64 v, .pointer (some ⟨bq, 0, none⟩), .pointer (some ⟨bs, 0, none⟩)] w (Turned 50 (.int .i64 v) w g cap st (L ++ [s]) (a + 1) b c) := by
  obtain ⟨i0, hi0, hz0, hz1, hz2⟩ := info_parts info_S
  obtain ⟨A, n, h1, h2⟩ := k
  have hgq : bq ≠ g := Blk.ne_ hq h1 (by decide)
  have hgs : bs ≠ g := Blk.ne_ hs h1 (by decide)
  have c3 := Blk.cell h1 3
  have f3 := Blk.frozen h1 3
  have cq := Blk.cell hq 0
  simp at c3 cq
  have k1 := Blk.set_ h1 3 (.int .i64 (a + 1))
  have k2 := h2.setCell (p := ⟨g, 3, none⟩) (by exact h1) (by decide) (.int .i64 (a + 1))
  have q1 := hq.far (p := ⟨g, 3, none⟩) hgq (.int .i64 (a + 1))
  have s1 := hs.far (p := ⟨g, 3, none⟩) hgs (.int .i64 (a + 1))
  have O1 : Only [g] w (w.setCell ⟨g, 3, none⟩ (.int .i64 (a + 1))) := (Only.refl _ w).setCell (by simp) _
  have hlt := Blk.lt k1
  have hltq := Blk.lt q1
  have hlts := Blk.lt s1
  simp at k1
  have hcap := h2.2.1
  have hcap2 := h2.2.2.1
  go_enter Try.func20, Try.ntmps20
  go_wp2_with fail
  clear c3 f3 cq h1 hq hs h2
  generalize w.setCell ⟨g, 3, none⟩ (.int .i64 (a + 1)) = w1 at *
  have c2 := Blk.cell k1 2
  have cq := Blk.cell q1 0
  have cs := Blk.cell s1 0
  have f2 := Blk.frozen k1 2
  simp at c2 cq cs
  have e1 : g < w1.heap.size + 1 := by omega
  have e2 : bq < w1.heap.size + 1 := by omega
  have e3 : bs < w1.heap.size + 1 := by omega
  refine wp_region_ord (fun w' => w'.cell? ⟨g, 2, none⟩ = some (.slice A L.length n) ∧ w'.cell? ⟨bq, 0, none⟩ = some (.pointer (some ⟨g, 0, none⟩)) ∧ w'.cell? ⟨bs, 0, none⟩ = some (.string s)) 21
    [(true, 0), (true, 1), (true, 2), (true, 3), (true, 4), (true, 5), (true, 6), (true, 7), (true, 8), (true, 9), (true, 10), (true, 11), (true, 12), (true, 13), (true, 14), (true, 15), (true, 16), (false, 17), (false, 18), (true, 19), (true, 20)]
    default (by kernel_rfl) (by kernel_rfl) (fun d _ _ _ _ h => by cases d <;> exact h) ?_ ?_
  · exact ⟨c2, cq, cs⟩
  simp only [List.map_cons, List.map_nil, List.getD_cons_succ, List.getD_cons_zero]
  repeat
    (refine heldL_take ?_ ?_ ?_
     rotate_left
     · intro w' hw'
       try dsimp only at hw'
       go_simp
       try with_reducible rfl
     try simp only [Act.put, List.setIfInBounds_toArray, List.set_cons_zero, List.set_cons_succ])
  refine heldL_move (fun K hK => ?_)
  go_simp
  refine hK.out _ _ ?_ (fun hS => ?_)
  · refine ⟨?_, ?_, ?_⟩ <;> go_keep
  clear hK K
  try simp only [Act.put, List.setIfInBounds_toArray, List.set_cons_zero, List.set_cons_succ]
  have h1a := Blk.alloc (by exact k1 : Blk w1.drew g 50 _) (.cells #[.string s] 9)
  have h2a := (by exact k2 : Held w1.drew 9 1 A L.length n (strs L)).alloc (.cells #[.string s] 9)
  have q1a := Blk.alloc (by exact q1 : Blk w1.drew bq 23 _) (.cells #[.string s] 9)
  have s1a := Blk.alloc (by exact s1 : Blk w1.drew bs 9 _) (.cells #[.string s] 9)
  refine heldL_move (fun K hK => ?_)
  refine wp_append_fresh _ (.tmp 27) (.tmp 29) _ (by rfl) 9 i0 _ 1 16 Try.underlying28 hi0 hz0 hz1 hz2 rfl (by omega) A L.length L.length (strs L) (by rfl) (strs_length L) (fun hh => ⟨(k2.2.2.2.1 hh).1, (k2.2.2.2.1 hh).1⟩) (by exact h2a.cells_) ⟨w1.heap.size, 0, none⟩ 1 1 [.string s] (by rfl) rfl (World.news_of_block (cs := #[.string s]) (t := 9) (fr := (0, 0)) (heap_alloc_new w1 _)) (by omega) (by omega) (by simp only [maxLen]; omega) (by omega) ?_
  intro k4 w4 hown4 hg4
  have d4 := Blk.grown (by exact h1a) hg4 (by simp)
  have q4 := Blk.grown (by exact q1a) hg4 (by simp)
  have s4 := Blk.grown (by exact s1a) hg4 (by simp)
  have c4 := Blk.cell d4 2
  have f4 := Blk.frozen d4 2
  have cq4 := Blk.cell q4 0
  have cs4 := Blk.cell s4 0
  simp at c4 cq4 cs4
  refine hK.out _ _ ?_ (fun hS' => ?_)
  · exact ⟨c4, cq4, cs4⟩
  clear hK K
  try simp only [Act.put, List.setIfInBounds_toArray, List.set_cons_zero, List.set_cons_succ]
  repeat
    (refine heldL_take ?_ ?_ ?_
     rotate_left
     · intro w' hw'
       try dsimp only at hw'
       go_simp
       try with_reducible rfl
     try simp only [Act.put, List.setIfInBounds_toArray, List.set_cons_zero, List.set_cons_succ])
  refine heldL_last (fun K hK => ?_)
  go_simp
  refine hK _ _ ?_
  clear hK K
  try simp only [Act.put, List.setIfInBounds_toArray, List.set_cons_zero, List.set_cons_succ]
  have O4 : Only [g] w w4 := ((O1.drew).alloc _).grown hg4 (by simp)
  have d5 := Blk.set_ d4 2 (.slice (some ⟨w1.heap.size + 1, 0, none⟩) (L.length + 1) k4)
  have n5 := (Held.of_own (by exact hown4)).setCell (p := ⟨g, 2, none⟩) (by exact d4) (by decide) (.slice (some ⟨w1.heap.size + 1, 0, none⟩) (L.length + 1) k4)
  have O5 := O4.setCell (p := ⟨g, 2, none⟩) (.inl (by simp)) (.slice (some ⟨w1.heap.size + 1, 0, none⟩) (L.length + 1) k4)
  have FIN : Turned 50 (.int .i64 v) w g cap st (L ++ [s]) (a + 1) b c (.returned (.int .i64 v)) (w4.setCell ⟨g, 2, none⟩ (.slice (some ⟨w1.heap.size + 1, 0, none⟩) (L.length + 1) k4)) := by
    refine ⟨rfl, ⟨some ⟨w1.heap.size + 1, 0, none⟩, k4, ?_, ?_⟩, O5⟩
    · simpa using d5
    · simpa [strs] using n5
  have HFIN := Lib.hid FIN
  clear FIN O4 O5 d5 n5 d4 q4 s4 c4 f4 cq4 cs4 hS hS' hown4 hg4 h1a h2a q1a s1a
  go_wp2_with fail
  go_ret
  exact HFIN.out

theorem at_reads {w : World} {A : Option Addr} {n k : Nat} {L : List ByteArray} (h : Held w 9 1 A n k (strs L)) : Reads w w.heap.size 1 A n (strs L) := by
  refine ⟨h.1, fun hn => ?_⟩
  obtain ⟨b, off, cur, hA, hb, hc⟩ := h.2.2.2.2 hn
  exact ⟨⟨b, off, none⟩, hA, lt_of_blk hb, h.cells_ _ hA⟩

set_option maxHeartbeats 4000000 in
theorem shift_any (g : Nat) (cap st : Int) (s : ByteArray) (L : List ByteArray) (a b c : Int) (w : World) (k : QAt 50 w g cap st (s :: L) a b c) (hL : L.length ≤ 64) :
    Calls Try.prog 19 #[.pointer (some ⟨g, 0, none⟩)] w (Turned 50 (.string s) w g cap st L a b c) := by
  obtain ⟨i0, hi0, hz0, hz1, hz2⟩ := info_parts info_S
  obtain ⟨A, n, h1, h2⟩ := k
  obtain ⟨bb, off, rfl, hbl, x0⟩ := h2.at_ (j := 0) (u := .string s) rfl
  have c2 := Blk.cell h1 2
  have hcap := h2.2.1
  have hcap2 := h2.2.2.1
  simp at c2 hcap
  rw [Nat.add_zero] at x0
  have ht := Held.tail_ (x := [.string s]) (rest := strs L) h2 rfl
  have HT := Lib.hid ht
  have HR := Lib.hid (at_reads ht)
  have H1 := Lib.hid h1
  have hlt := Blk.lt h1
  clear ht h1 h2
  by_cases hn : n = 1
  · subst hn
    obtain rfl : L = [] := List.eq_nil_of_length_eq_zero (by omega)
    rw [if_pos rfl] at HT HR
    go_enter Try.func19, Try.ntmps19
    go_wp2_with (first
      | (at_builtin
         refine wpList_append_any _ rfl (.const (.slice none 0 0)) (.tmp 15) _ rfl w.heap.size 9 i0 _ 1 16 Try.underlying28 hi0 hz0 hz1 hz2 rfl (by omega) (.slice none 0 0) 0 [] rfl (own_nil _ _ _ _) w.heap.size (some ⟨bb, off, none⟩) 0 0 (strs []) rfl HR.out (strs_one _) (by simp [maxLen]) (by simp) (Nat.le_refl _) ?_
         intro v1 w1 hn1 hg1 hd1
         obtain ⟨A1, k1, rfl⟩ := slice_of_own' hn1
         have d1 := Blk.grown H1.out hg1 (by simp [Value.ownBlock])
         have f1 := Blk.frozen d1 2
         have c1 := Blk.cell d1 2
         simp at c1))
    go_ret
    have b1 := Blk.set_ d1 2 (.slice A1 (0 + 0) k1)
    have n1 := (Held.of_own hn1).setCell (p := ⟨g, 2, none⟩) (by exact d1) (by decide) (.slice A1 (0 + 0) k1)
    exact ⟨rfl, ⟨A1, k1, by simpa using b1, by simpa [strs] using n1⟩, ((Only.refl [g] w).grown hg1 (by simp [Value.ownBlock])).setCell (.inl (by simp)) _⟩
  · rw [if_neg hn] at HT HR
    go_enter Try.func19, Try.ntmps19
    go_wp2_with (first
      | (at_builtin
         refine wpList_append_any _ rfl (.const (.slice none 0 0)) (.tmp 15) _ rfl w.heap.size 9 i0 _ 1 16 Try.underlying28 hi0 hz0 hz1 hz2 rfl (by omega) (.slice none 0 0) 0 [] rfl (own_nil _ _ _ _) w.heap.size (some ⟨bb, off + 1, none⟩) L.length (n - 1) (strs L) rfl HR.out (strs_one _) (by simp only [maxLen]; omega) (by omega) (Nat.le_refl _) ?_
         intro v1 w1 hn1 hg1 hd1
         obtain ⟨A1, k1, rfl⟩ := slice_of_own' hn1
         have d1 := Blk.grown H1.out hg1 (by simp [Value.ownBlock])
         have f1 := Blk.frozen d1 2
         have c1 := Blk.cell d1 2
         simp at c1))
    go_ret
    rw [Nat.zero_add] at *
    have b1 := Blk.set_ d1 2 (.slice A1 L.length k1)
    have n1 := (Held.of_own hn1).setCell (p := ⟨g, 2, none⟩) (by exact d1) (by decide) (.slice A1 L.length k1)
    exact ⟨rfl, ⟨A1, k1, by simpa using b1, by simpa using n1⟩, ((Only.refl [g] w).grown hg1 (by simp [Value.ownBlock])).setCell (.inl (by simp)) _⟩

theorem take_any (g : Nat) (cap st : Int) (s : ByteArray) (L : List ByteArray) (a b c : Int) (w : World) (k : QAt 50 w g cap st (s :: L) a b c) (hL : L.length ≤ 64) (hb : 0 ≤ b) (hb' : b ≤ 1000000) :
    Calls Try.prog 8 #[.pointer (some ⟨g, 0, none⟩)] w (Turned 50 (.tuple #[.string s, .bool true]) w g cap st L a (b + 1) c) := by
  have HL := Lib.hid (len_any g cap st (s :: L) a b c w k)
  obtain ⟨A, n, h1, h2⟩ := k
  have c4 := Blk.cell h1 4
  have f4 := Blk.frozen h1 4
  simp at c4
  have k1 : QAt 50 (w.setCell ⟨g, 4, none⟩ (.int .i64 (b + 1))) g cap st (s :: L) a (b + 1) c := by
    have d1 := Blk.set_ h1 4 (.int .i64 (b + 1))
    simp at d1
    exact ⟨A, n, by simpa using d1, h2.setCell (p := ⟨g, 4, none⟩) (by exact h1) (by decide) _⟩
  have O1 : Only [g] w (w.setCell ⟨g, 4, none⟩ (.int .i64 (b + 1))) := (Only.refl _ w).setCell (by simp) _
  have K1 := Lib.hid k1
  have HO := Lib.hid O1
  clear h1 h2 k1 O1
  go_enter Try.func8, Try.ntmps8
  go_wp2_with fail
  refine HL.out.mono ?_
  rintro e w1 ⟨rfl, rfl⟩
  go_wp2_with fail
  refine (shift_any g cap st s L a (b + 1) c _ K1.out hL).mono ?_
  rintro e w1 ⟨rfl, k2, o2⟩
  have HF := Lib.hid (And.intro k2 (HO.out.trans_ o2))
  clear k2 o2
  go_wp2_with fail
  go_ret2
  exact ⟨rfl, HF.out.1, HF.out.2⟩
theorem take_none (g : Nat) (cap st a b c : Int) (w : World) (k : QAt 50 w g cap st [] a b c) :
    Calls Try.prog 8 #[.pointer (some ⟨g, 0, none⟩)] w fun e w' => e = .returned (.tuple #[.string ByteArray.empty, .bool false]) ∧ w = w' := by
  have HL := Lib.hid (len_any g cap st [] a b c w k)
  clear k
  go_enter Try.func8, Try.ntmps8
  go_wp2_with fail
  refine HL.out.mono ?_
  rintro e w1 ⟨rfl, rfl⟩
  go_wp2_with fail
  go_ret2
  exact ⟨rfl, rfl⟩
theorem take_nil (w : World) : Calls Try.prog 8 #[.pointer none] w fun e w' => e = .returned (.tuple #[.string ByteArray.empty, .bool false]) ∧ w = w' := by
  go_enter Try.func8, Try.ntmps8
  go_wp2_with fail
  refine (len_nil _).mono ?_
  rintro e w1 ⟨rfl, rfl⟩
  go_wp2_with fail
  go_ret2
  exact ⟨rfl, rfl⟩
theorem first_any (g : Nat) (cap st : Int) (s : ByteArray) (L : List ByteArray) (a b c : Int) (w : World) (k : QAt 50 w g cap st (s :: L) a b c) :
    Calls Try.prog 17 #[.pointer (some ⟨g, 0, none⟩)] w fun e w' => e = .returned (.tuple #[.string s, .bool true]) ∧ w = w' := by
  have HL := Lib.hid (len_any g cap st (s :: L) a b c w k)
  obtain ⟨A, n, h1, h2⟩ := k
  obtain ⟨bb, off, rfl, hbl, x0⟩ := h2.at_ (j := 0) (u := .string s) rfl
  have c2 := Blk.cell h1 2
  have hcap := h2.2.1
  have hcap2 := h2.2.2.1
  simp at c2 hcap
  rw [Nat.add_zero] at x0
  clear h1 h2
  go_enter Try.func17, Try.ntmps17
  go_wp2_with fail
  refine HL.out.mono ?_
  rintro e w1 ⟨rfl, rfl⟩
  go_wp2_with fail
  go_ret2
  exact ⟨rfl, rfl⟩
theorem first_none (g : Nat) (cap st a b c : Int) (w : World) (k : QAt 50 w g cap st [] a b c) :
    Calls Try.prog 17 #[.pointer (some ⟨g, 0, none⟩)] w fun e w' => e = .returned (.tuple #[.string ByteArray.empty, .bool false]) ∧ w = w' := by
  have HL := Lib.hid (len_any g cap st [] a b c w k)
  clear k
  go_enter Try.func17, Try.ntmps17
  go_wp2_with fail
  refine HL.out.mono ?_
  rintro e w1 ⟨rfl, rfl⟩
  go_wp2_with fail
  go_ret2
  exact ⟨rfl, rfl⟩
theorem first_nil (w : World) : Calls Try.prog 17 #[.pointer none] w fun e w' => e = .returned (.tuple #[.string ByteArray.empty, .bool false]) ∧ w = w' := by
  go_enter Try.func17, Try.ntmps17
  go_wp2_with fail
  refine (len_nil _).mono ?_
  rintro e w1 ⟨rfl, rfl⟩
  go_wp2_with fail
  go_ret2
  exact ⟨rfl, rfl⟩
theorem clear_any (g : Nat) (cap st : Int) (L : List ByteArray) (a b c : Int) (w : World) (k : QAt 50 w g cap st L a b c) (hL : L.length ≤ 64) (hc : 0 ≤ c) (hc' : c ≤ 1000000) :
    Calls Try.prog 18 #[.pointer (some ⟨g, 0, none⟩)] w (Turned 50 (.int .i64 L.length) w g cap st [] a b (c + L.length)) := by
  have HL := Lib.hid (len_any g cap st L a b c w k)
  have HK := Lib.hid k
  obtain ⟨A, n, h1, h2⟩ := k
  have c5 := Blk.cell h1 5
  have f5 := Blk.frozen h1 5
  have f2 := Blk.frozen h1 2
  have c2 := Blk.cell h1 2
  simp at c5 c2
  rcases Nat.eq_zero_or_pos L.length with h0 | h0
  · obtain rfl : L = [] := List.eq_nil_of_length_eq_zero h0
    have HF : Turned 50 (.int .i64 0) w g cap st [] a b c (.returned (.int .i64 0)) w := ⟨rfl, HK.out, Only.refl _ _⟩
    have HFH := Lib.hid HF
    clear h1 h2 HF h0
    rw [show c + (([] : List ByteArray).length : Int) = c by simp]
    go_enter Try.func18, Try.ntmps18
    go_wp2_with fail
    refine HL.out.mono ?_
    rintro e w1 ⟨rfl, rfl⟩
    go_wp2_with fail
    go_ret
    exact HFH.out
  · have d1 := Blk.set_ (Blk.set_ h1 5 (.int .i64 (c + L.length))) 2 (.slice none 0 0)
    have O1 := ((Only.refl [g] w).setCell (p := ⟨g, 5, none⟩) (.inl (by simp)) (.int .i64 (c + L.length))).setCell (p := ⟨g, 2, none⟩) (.inl (by simp)) (.slice none 0 0)
    simp at d1
    have HF := Lib.hid (And.intro d1 O1)
    clear h1 h2 d1 O1
    go_enter Try.func18, Try.ntmps18
    go_wp2_with fail
    refine HL.out.mono ?_
    rintro e w1 ⟨rfl, rfl⟩
    go_wp2_with fail
    go_ret
    exact ⟨rfl, ⟨none, 0, by simpa using HF.out.1, Held.nil_ _ _ _⟩, HF.out.2⟩
theorem clear_nil (w : World) : Calls Try.prog 18 #[.pointer none] w fun e w' => e = .returned (.int .i64 0) ∧ w = w' := by
  go_enter Try.func18, Try.ntmps18
  go_wp2_with fail
  refine (len_nil _).mono ?_
  rintro e w1 ⟨rfl, rfl⟩
  go_wp2_with fail
  go_ret
  exact ⟨rfl, rfl⟩
theorem counts_any (g : Nat) (cap st : Int) (L : List ByteArray) (a b c : Int) (w : World) (k : QAt 50 w g cap st L a b c) :
    Calls Try.prog 14 #[.pointer (some ⟨g, 0, none⟩)] w fun e w' => e = .returned (.tuple #[.int .i64 a, .int .i64 b, .int .i64 c]) ∧ ∃ q, w' = w.drewN q := by
  obtain ⟨A, n, h1, h2⟩ := k
  have c3 := Blk.cell h1 3
  have c4 := Blk.cell h1 4
  have c5 := Blk.cell h1 5
  simp at c3 c4 c5
  clear h1 h2
  go_enter Try.func14, Try.ntmps14
  go_wp2_with fail
  go_quiet (fail)
  go_wp2_with fail
  go_returns
  exact ⟨rfl, _, rfl⟩
theorem counts_nil (w : World) : Calls Try.prog 14 #[.pointer none] w fun e w' => e = .returned (.tuple #[.int .i64 0, .int .i64 0, .int .i64 0]) ∧ w = w' := by
  go_enter Try.func14, Try.ntmps14
  go_wp2_with fail
  go_returns
  exact ⟨rfl, rfl⟩
end Go.Proofs.Ytlncapddimehiaa
