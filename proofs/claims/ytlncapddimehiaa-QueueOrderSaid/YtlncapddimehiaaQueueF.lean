/- The walks of package queue once more: the items lie in none of some blocks. -/
import Derived.Test.YtlncapddimehiaaRows
import Derived.WalkKit
import Derived.ProofKit
import Derived.Handy
import Derived.Test.YtlncapddimehiaaMem
import Derived.Test.YtlncapddimehiaaLift
import Derived.Test.YtlncapddimehiaaApp
import Derived.Test.YtlncapddimehiaaReads
import Derived.Test.YtlncapddimehiaaOrd
import Derived.Test.YtlncapddimehiaaQueue
import Derived.Test.YtlncapddimehiaaQueue2
import Derived.Test.YtlncapddimehiaaQueue3
import Derived.Deep.QuietTactic
import Derived.BigQuiet
import Derived.Deep.RegionWith
import Derived.Deep.RegionHeld3
import Derived.Deep.AppendLies
import Derived.WalkLawsBesides
import Derived.WalkSmall
namespace Go.Proofs.Ytlncapddimehiaa
open Go.RowKit
set_option linter.unusedVariables false




/-- A row's block is none of F; all of F stand already. -/
def Off (F : List Nat) (w : World) (A : Option Addr) : Prop := (∀ b, A = some b → b.block ∉ F ∧ b.block < w.heap.size) ∧ ∀ i ∈ F, i < w.heap.size
def QF (F : List Nat) (w : World) (g : Nat) (cap st : Int) (L : List ByteArray) (a b c : Int) : Prop :=
  ∃ A k, Blk w g 50 #[.int .i64 cap, .int .i64 st, .slice A L.length k, .int .i64 a, .int .i64 b, .int .i64 c] ∧ Held w 9 1 A L.length k (strs L) ∧ Off F w A
section
variable {F : List Nat} {w w' : World} {g : Nat} {cap st : Int} {L : List ByteArray} {a b c : Int} {A : Option Addr}
theorem Off.up (h : Off F w A) (hs : w.heap.size ≤ w'.heap.size) : Off F w' A := ⟨fun b hb => ⟨(h.1 b hb).1, Nat.lt_of_lt_of_le (h.1 b hb).2 hs⟩, fun i hi => Nat.lt_of_lt_of_le (h.2 i hi) hs⟩
theorem Off.new (h : ∀ i ∈ F, i < w.heap.size) (hs : w.heap.size ≤ w'.heap.size) {x : Nat} (hx : w.heap.size ≤ x) (hx' : x < w'.heap.size) : Off F w' (some ⟨x, 0, none⟩) :=
  ⟨fun b hb => (by injection hb with hb; subst hb; exact ⟨fun hi => (by have := h _ hi; simp only at this; omega), hx'⟩), fun i hi => Nat.lt_of_lt_of_le (h i hi) hs⟩
theorem Off.none_ (h : ∀ i ∈ F, i < w.heap.size) (hs : w.heap.size ≤ w'.heap.size) : Off F w' none := ⟨fun b hb => (by cases hb), fun i hi => Nat.lt_of_lt_of_le (h i hi) hs⟩
theorem Off.own {n : Nat} {k : Nat} {xs : List Value} {w1 : World} (h : ∀ i ∈ F, i < w.heap.size) (hs : w.heap.size ≤ w'.heap.size) (o : w1.ownsRow w.heap.size 9 1 (.slice A n k) n xs) (hs1 : w1.heap.size ≤ w'.heap.size) : Off F w' A := by
  have hlt := fun x hx => own_lt (g := x) o hx
  rcases o.2 with ⟨hv, _⟩ | ⟨x, cp, cur, hv, hx, _⟩
  · injection hv with h1; subst h1; exact Off.none_ h hs
  · injection hv with h1; subst h1; exact Off.new h hs hx (Nat.lt_of_lt_of_le (hlt x rfl) hs1)
theorem QF.q (k : QF F w g cap st L a b c) : QAt 50 w g cap st L a b c := by
  obtain ⟨A, n, h1, h2, _⟩ := k
  exact ⟨A, n, h1, h2⟩
theorem QF.lt (k : QF F w g cap st L a b c) : g < w.heap.size := k.q.lt
theorem QF.below_ (k : QF F w g cap st L a b c) (hb : Below w.heap.size w w') : QF F w' g cap st L a b c := by
  obtain ⟨A, n, h1, h2, h3⟩ := k
  exact ⟨A, n, Blk.below h1 hb (Blk.lt h1), h2.below hb, h3.up hb.size⟩
theorem QF.alloc (k : QF F w g cap st L a b c) (o : Obj) : QF F (w.alloc o) g cap st L a b c := k.below_ ((Below.refl _ _).alloc (Nat.le_refl _) _)
theorem QF.drewN (k : QF F w g cap st L a b c) (n : Nat) : QF F (w.drewN n) g cap st L a b c := k
end
def TurnedF (F : List Nat) (v : Value) (w : World) (g : Nat) (cap st : Int) (L : List ByteArray) (a b c : Int) (e : Ending) (w' : World) : Prop :=
  e = .returned v ∧ QF F w' g cap st L a b c ∧ Only [g] w w'
variable {F : List Nat}
set_option maxHeartbeats 4000000 in
theorem keep_anyF (v : Int) (g bq bs : Nat) (cap st : Int) (L : List ByteArray) (a b c : Int) (s : ByteArray) (w : World) (hq : Blk w bq 23 #[.pointer (some ⟨g, 0, none⟩)]) (hs : Blk w bs 9 #[.string s]) (k : QF F w g cap st L a b c)
    (hL : L.length ≤ 64) (ha : 0 ≤ a) (ha' : a ≤ 1000000) :
    Calls Try.prog 20 #[.int .i64 v, .pointer (some ⟨bq, 0, none⟩), .pointer (some ⟨bs, 0, none⟩)] w (TurnedF F (.int .i64 v) w g cap st (L ++ [s]) (a + 1) b c) := by
  obtain ⟨i0, hi0, hz0, hz1, hz2⟩ := info_parts info_S
  obtain ⟨A, n, h1, h2, hF0⟩ := k
  have HFO := Lib.hid hF0
  clear hF0
  have hgq : bq ≠ g := Blk.ne_ hq h1 (by decide)
  have hgs : bs ≠ g := Blk.ne_ hs h1 (by decide)
  have c3 := Blk.cell h1 3
  have f3 := Blk.frozen h1 3
  have cq := Blk.cell hq 0
  simp at c3 cq
  have k1 := Blk.set_ h1 3 (.int .i64 (a + 1))
  have k2 := h2.setCell (p := ⟨g, 3, none⟩) (by exact h1) (by decide) (.int .i64 (a + 1))
  have q1 := hq.far (p := ⟨g, 3, none⟩) hgq (.int .i64 (a + 1))
  have s1 := hs.far (p := ⟨g, 3, none⟩) hgs (.int .i64 (a + 1))
  have O1 : Only [g] w (w.setCell ⟨g, 3, none⟩ (.int .i64 (a + 1))) := (Only.refl _ w).setCell (by simp) _
  have hlt := Blk.lt k1
  have hltq := Blk.lt q1
  have hlts := Blk.lt s1
  simp at k1
  have hcap := h2.2.1
  have hcap2 := h2.2.2.1
  go_enter Try.func20, Try.ntmps20
  go_wp2_with fail
  clear c3 f3 cq h1 hq hs h2
  generalize w.setCell ⟨g, 3, none⟩ (.int .i64 (a + 1)) = w1 at *
  have c2 := Blk.cell k1 2
  have cq := Blk.cell q1 0
  have cs := Blk.cell s1 0
  have f2 := Blk.frozen k1 2
  simp at c2 cq cs
  have e1 : g < w1.heap.size + 1 := by omega
  have e2 : bq < w1.heap.size + 1 := by omega
  have e3 : bs < w1.heap.size + 1 := by omega
  refine wp_region_ord (fun w' => w'.cell? ⟨g, 2, none⟩ = some (.slice A L.length n) ∧ w'.cell? ⟨bq, 0, none⟩ = some (.pointer (some ⟨g, 0, none⟩)) ∧ w'.cell? ⟨bs, 0, none⟩ = some (.string s)) 21
    [(true, 0), (true, 1), (true, 2), (true, 3), (true, 4), (true, 5), (true, 6), (true, 7), (true, 8), (true, 9), (true, 10), (true, 11), (true, 12), (true, 13), (true, 14), (true, 15), (true, 16), (false, 17), (false, 18), (true, 19), (true, 20)]
    default (by kernel_rfl) (by kernel_rfl) (fun d _ _ _ _ h => by cases d <;> exact h) ?_ ?_
  · exact ⟨c2, cq, cs⟩
  simp only [List.map_cons, List.map_nil, List.getD_cons_succ, List.getD_cons_zero]
  repeat
    (refine heldL_take ?_ ?_ ?_
     rotate_left
     · intro w' hw'
       try dsimp only at hw'
       go_simp
       try with_reducible rfl
     try simp only [Act.put, List.setIfInBounds_toArray, List.set_cons_zero, List.set_cons_succ])
  refine heldL_move (fun K hK => ?_)
  go_simp
  refine hK.out _ _ ?_ (fun hS => ?_)
  · refine ⟨?_, ?_, ?_⟩ <;> go_keep
  clear hK K
  try simp only [Act.put, List.setIfInBounds_toArray, List.set_cons_zero, List.set_cons_succ]
  have h1a := Blk.alloc (by exact k1 : Blk w1.drew g 50 _) (.cells #[.string s] 9)
  have h2a := (by exact k2 : Held w1.drew 9 1 A L.length n (strs L)).alloc (.cells #[.string s] 9)
  have q1a := Blk.alloc (by exact q1 : Blk w1.drew bq 23 _) (.cells #[.string s] 9)
  have s1a := Blk.alloc (by exact s1 : Blk w1.drew bs 9 _) (.cells #[.string s] 9)
  refine heldL_move (fun K hK => ?_)
  refine wp_append_fresh _ (.tmp 27) (.tmp 29) _ (by rfl) 9 i0 _ 1 16 Try.underlying28 hi0 hz0 hz1 hz2 rfl (by omega) A L.length L.length (strs L) (by rfl) (strs_length L) (fun hh => ⟨(k2.2.2.2.1 hh).1, (k2.2.2.2.1 hh).1⟩) (by exact h2a.cells_) ⟨w1.heap.size, 0, none⟩ 1 1 [.string s] (by rfl) rfl (World.news_of_block (cs := #[.string s]) (t := 9) (fr := (0, 0)) (heap_alloc_new w1 _)) (by omega) (by omega) (by simp only [maxLen]; omega) (by omega) ?_
  intro k4 w4 hown4 hg4
  have d4 := Blk.grown (by exact h1a) hg4 (by simp)
  have q4 := Blk.grown (by exact q1a) hg4 (by simp)
  have s4 := Blk.grown (by exact s1a) hg4 (by simp)
  have c4 := Blk.cell d4 2
  have f4 := Blk.frozen d4 2
  have cq4 := Blk.cell q4 0
  have cs4 := Blk.cell s4 0
  simp at c4 cq4 cs4
  refine hK.out _ _ ?_ (fun hS' => ?_)
  · exact ⟨c4, cq4, cs4⟩
  clear hK K
  try simp only [Act.put, List.setIfInBounds_toArray, List.set_cons_zero, List.set_cons_succ]
  repeat
    (refine heldL_take ?_ ?_ ?_
     rotate_left
     · intro w' hw'
       try dsimp only at hw'
       go_simp
       try with_reducible rfl
     try simp only [Act.put, List.setIfInBounds_toArray, List.set_cons_zero, List.set_cons_succ])
  refine heldL_last (fun K hK => ?_)
  go_simp
  refine hK _ _ ?_
  clear hK K
  try simp only [Act.put, List.setIfInBounds_toArray, List.set_cons_zero, List.set_cons_succ]
  have O4 : Only [g] w w4 := ((O1.drew).alloc _).grown hg4 (by simp)
  have d5 := Blk.set_ d4 2 (.slice (some ⟨w1.heap.size + 1, 0, none⟩) (L.length + 1) k4)
  have n5 := (Held.of_own (by exact hown4)).setCell (p := ⟨g, 2, none⟩) (by exact d4) (by decide) (.slice (some ⟨w1.heap.size + 1, 0, none⟩) (L.length + 1) k4)
  have O5 := O4.setCell (p := ⟨g, 2, none⟩) (.inl (by simp)) (.slice (some ⟨w1.heap.size + 1, 0, none⟩) (L.length + 1) k4)
  have FIN : TurnedF F (.int .i64 v) w g cap st (L ++ [s]) (a + 1) b c (.returned (.int .i64 v)) (w4.setCell ⟨g, 2, none⟩ (.slice (some ⟨w1.heap.size + 1, 0, none⟩) (L.length + 1) k4)) := by
    refine ⟨rfl, ⟨some ⟨w1.heap.size + 1, 0, none⟩, k4, ?_, ?_, Off.new HFO.out.2 O5.size (by have := O1.size; omega) (by have h5 : w1.heap.size + 1 < w4.heap.size := (by have := own_lt (by exact hown4) rfl; simpa using this); simpa [World.setCell] using h5)⟩, O5⟩
    · simpa using d5
    · simpa [strs] using n5
  have HFIN := Lib.hid FIN
  clear FIN O4 O5 d5 n5 d4 q4 s4 c4 f4 cq4 cs4 hS hS' hown4 hg4 h1a h2a q1a s1a
  go_wp2_with fail
  go_ret
  exact HFIN.out

set_option maxHeartbeats 4000000 in
theorem shift_anyF (g : Nat) (cap st : Int) (s : ByteArray) (L : List ByteArray) (a b c : Int) (w : World) (k : QF F w g cap st (s :: L) a b c) (hL : L.length ≤ 64) :
    Calls Try.prog 19 #[.pointer (some ⟨g, 0, none⟩)] w (TurnedF F (.string s) w g cap st L a b c) := by
  obtain ⟨i0, hi0, hz0, hz1, hz2⟩ := info_parts info_S
  obtain ⟨A, n, h1, h2, hF0⟩ := k
  have HFO := Lib.hid hF0
  clear hF0
  obtain ⟨bb, off, rfl, hbl, x0⟩ := h2.at_ (j := 0) (u := .string s) rfl
  have c2 := Blk.cell h1 2
  have hcap := h2.2.1
  have hcap2 := h2.2.2.1
  simp at c2 hcap
  rw [Nat.add_zero] at x0
  have ht := Held.tail_ (x := [.string s]) (rest := strs L) h2 rfl
  have HT := Lib.hid ht
  have HR := Lib.hid (at_reads ht)
  have H1 := Lib.hid h1
  have hlt := Blk.lt h1
  clear ht h1 h2
  by_cases hn : n = 1
  · subst hn
    obtain rfl : L = [] := List.eq_nil_of_length_eq_zero (by omega)
    rw [if_pos rfl] at HT HR
    go_enter Try.func19, Try.ntmps19
    go_wp2_with (first
      | (at_builtin
         refine wpList_append_any _ rfl (.const (.slice none 0 0)) (.tmp 15) _ rfl w.heap.size 9 i0 _ 1 16 Try.underlying28 hi0 hz0 hz1 hz2 rfl (by omega) (.slice none 0 0) 0 [] rfl (own_nil _ _ _ _) w.heap.size (some ⟨bb, off, none⟩) 0 0 (strs []) rfl HR.out (strs_one _) (by simp [maxLen]) (by simp) (Nat.le_refl _) ?_
         intro v1 w1 hn1 hg1 hd1
         obtain ⟨A1, k1, rfl⟩ := slice_of_own' hn1
         have d1 := Blk.grown H1.out hg1 (by simp [Value.ownBlock])
         have f1 := Blk.frozen d1 2
         have c1 := Blk.cell d1 2
         simp at c1))
    go_ret
    have b1 := Blk.set_ d1 2 (.slice A1 (0 + 0) k1)
    have n1 := (Held.of_own hn1).setCell (p := ⟨g, 2, none⟩) (by exact d1) (by decide) (.slice A1 (0 + 0) k1)
    exact ⟨rfl, ⟨A1, k1, by simpa using b1, by simpa [strs] using n1, Off.own HFO.out.2 (by simpa [World.setCell] using hg1.size) hn1 (by simp [World.setCell])⟩, ((Only.refl [g] w).grown hg1 (by simp [Value.ownBlock])).setCell (.inl (by simp)) _⟩
  · rw [if_neg hn] at HT HR
    go_enter Try.func19, Try.ntmps19
    go_wp2_with (first
      | (at_builtin
         refine wpList_append_any _ rfl (.const (.slice none 0 0)) (.tmp 15) _ rfl w.heap.size 9 i0 _ 1 16 Try.underlying28 hi0 hz0 hz1 hz2 rfl (by omega) (.slice none 0 0) 0 [] rfl (own_nil _ _ _ _) w.heap.size (some ⟨bb, off + 1, none⟩) L.length (n - 1) (strs L) rfl HR.out (strs_one _) (by simp only [maxLen]; omega) (by omega) (Nat.le_refl _) ?_
         intro v1 w1 hn1 hg1 hd1
         obtain ⟨A1, k1, rfl⟩ := slice_of_own' hn1
         have d1 := Blk.grown H1.out hg1 (by simp [Value.ownBlock])
         have f1 := Blk.frozen d1 2
         have c1 := Blk.cell d1 2
         simp at c1))
    go_ret
    rw [Nat.zero_add] at *
    have b1 := Blk.set_ d1 2 (.slice A1 L.length k1)
    have n1 := (Held.of_own hn1).setCell (p := ⟨g, 2, none⟩) (by exact d1) (by decide) (.slice A1 L.length k1)
    exact ⟨rfl, ⟨A1, k1, by simpa using b1, by simpa using n1, Off.own HFO.out.2 (by simpa [World.setCell] using hg1.size) hn1 (by simp [World.setCell])⟩, ((Only.refl [g] w).grown hg1 (by simp [Value.ownBlock])).setCell (.inl (by simp)) _⟩

theorem take_anyF (g : Nat) (cap st : Int) (s : ByteArray) (L : List ByteArray) (a b c : Int) (w : World) (k : QF F w g cap st (s :: L) a b c) (hL : L.length ≤ 64) (hb : 0 ≤ b) (hb' : b ≤ 1000000) :
    Calls Try.prog 8 #[.pointer (some ⟨g, 0, none⟩)] w (TurnedF F (.tuple #[.string s, .bool true]) w g cap st L a (b + 1) c) := by
  have HL := Lib.hid (len_any g cap st (s :: L) a b c w k.q)
  obtain ⟨A, n, h1, h2, hF0⟩ := k
  have HFO := Lib.hid hF0
  clear hF0
  have c4 := Blk.cell h1 4
  have f4 := Blk.frozen h1 4
  simp at c4
  have k1 : QF F (w.setCell ⟨g, 4, none⟩ (.int .i64 (b + 1))) g cap st (s :: L) a (b + 1) c := by
    have d1 := Blk.set_ h1 4 (.int .i64 (b + 1))
    simp at d1
    exact ⟨A, n, by simpa using d1, h2.setCell (p := ⟨g, 4, none⟩) (by exact h1) (by decide) _, HFO.out.up (by simp [World.setCell])⟩
  have O1 : Only [g] w (w.setCell ⟨g, 4, none⟩ (.int .i64 (b + 1))) := (Only.refl _ w).setCell (by simp) _
  have K1 := Lib.hid k1
  have HO := Lib.hid O1
  clear h1 h2 k1 O1
  go_enter Try.func8, Try.ntmps8
  go_wp2_with fail
  refine HL.out.mono ?_
  rintro e w1 ⟨rfl, rfl⟩
  go_wp2_with fail
  refine (shift_anyF g cap st s L a (b + 1) c _ K1.out hL).mono ?_
  rintro e w1 ⟨rfl, k2, o2⟩
  have HF := Lib.hid (And.intro k2 (HO.out.trans_ o2))
  clear k2 o2
  go_wp2_with fail
  go_ret2
  exact ⟨rfl, HF.out.1, HF.out.2⟩
set_option maxHeartbeats 4000000 in
theorem put_keptF (g : Nat) (cap st : Int) (L : List ByteArray) (a b c : Int) (s : ByteArray) (w : World) (k : QF F w g cap st L a b c) (h : (L.length : Int) < cap) (hcap : cap ≤ 64) (ha : 0 ≤ a) (ha' : a ≤ 100000) :
    Calls Try.prog 9 #[.pointer (some ⟨g, 0, none⟩), .string s] w (TurnedF F (.int .i64 1) w g cap st (L ++ [s]) (a + 1) b c) := by
  have kk := (k.alloc (.cells #[.pointer (some ⟨g, 0, none⟩)] 23)).alloc (.cells #[.string s] 9)
  have hF := full_any g cap st L a b c _ kk.q
  rw [show decide (cap ≤ (L.length : Int)) = false by simp; omega] at hF
  have HF := Lib.hid hF
  have q0 := Blk.alloc (Blk.new w 23 #[.pointer (some ⟨g, 0, none⟩)]) (.cells #[.string s] 9)
  have s0 := Blk.new (w.alloc (.cells #[.pointer (some ⟨g, 0, none⟩)] 23)) 9 #[.string s]
  simp only [World.size_alloc] at s0
  have HK := Lib.hid kk
  have Q0 := Lib.hid q0
  have S0 := Lib.hid s0
  clear kk hF q0 s0 k
  go_enter Try.func9, Try.ntmps9
  go_wp2_with fail
  refine HF.out.mono ?_
  rintro e w1 ⟨rfl, q, rfl⟩
  have cq := Blk.cell (Q0.out.drewN q) 0
  simp at cq
  go_wp2_with fail
  refine (keep_anyF 1 g _ _ cap st L a b c s _ (Q0.out.drewN q) (S0.out.drewN q) (HK.out.drewN q) (by omega) ha (by omega)).mono ?_
  rintro e w2 ⟨rfl, k2, o2⟩
  have O2 : Only [g] w w2 := ((((Only.refl [g] w).alloc _).alloc _).drewN q).trans_ o2
  have HF2 := Lib.hid (And.intro k2 O2)
  clear k2 o2 O2
  go_wp2_with fail
  go_ret
  exact ⟨rfl, HF2.out.1, HF2.out.2⟩

set_option maxHeartbeats 4000000 in
theorem put_refusedF (g : Nat) (cap : Int) (L : List ByteArray) (a b c : Int) (s : ByteArray) (w : World) (k : QF F w g cap 0 L a b c) (h : cap ≤ (L.length : Int)) :
    Calls Try.prog 9 #[.pointer (some ⟨g, 0, none⟩), .string s] w (TurnedF F (.int .i64 0) w g cap 0 L a b c) := by
  have kk := (k.alloc (.cells #[.pointer (some ⟨g, 0, none⟩)] 23)).alloc (.cells #[.string s] 9)
  have hF := full_any g cap 0 L a b c _ kk.q
  rw [fullp cap L.length h] at hF
  have HF := Lib.hid hF
  have q0 := Blk.alloc (Blk.new w 23 #[.pointer (some ⟨g, 0, none⟩)]) (.cells #[.string s] 9)
  have HK := Lib.hid kk
  have Q0 := Lib.hid q0
  clear kk hF q0 k
  go_enter Try.func9, Try.ntmps9
  go_wp2_with fail
  refine HF.out.mono ?_
  rintro e w1 ⟨rfl, q, rfl⟩
  have cq := Blk.cell (Q0.out.drewN q) 0
  have hk := HK.out
  obtain ⟨A, n, h1, h2, _⟩ := hk
  have c1 := Blk.cell (h1.drewN q) 1
  simp at cq c1
  clear h1 h2
  go_wp2_with fail
  go_ret
  exact ⟨rfl, HK.out.drewN q, (((Only.refl [g] w).alloc _).alloc _).drewN q⟩

set_option maxHeartbeats 4000000 in
theorem put_droppedF (g : Nat) (cap st : Int) (L : List ByteArray) (a b c : Int) (s : ByteArray) (w : World) (k : QF F w g cap st L a b c) (h : cap ≤ (L.length : Int)) (hst : st = 1 ∨ (st = 2 ∧ cap = 0))
    (ha : 0 ≤ a) (ha' : a ≤ 100000) (hc : 0 ≤ c) (hc' : c ≤ 100000) :
    Calls Try.prog 9 #[.pointer (some ⟨g, 0, none⟩), .string s] w (TurnedF F (.int .i64 2) w g cap st L (a + 1) b (c + 1)) := by
  have kk := (k.alloc (.cells #[.pointer (some ⟨g, 0, none⟩)] 23)).alloc (.cells #[.string s] 9)
  have hF := full_any g cap st L a b c _ kk.q
  rw [fullp cap L.length h] at hF
  have HF := Lib.hid hF
  have q0 := Blk.alloc (Blk.new w 23 #[.pointer (some ⟨g, 0, none⟩)]) (.cells #[.string s] 9)
  have HK := Lib.hid kk
  have Q0 := Lib.hid q0
  clear kk hF q0
  have fin : ∀ (q : Nat) (W : World), W = (((((w.alloc (.cells #[.pointer (some ⟨g, 0, none⟩)] 23)).alloc (.cells #[.string s] 9)).drewN q).setCell ⟨g, 3, none⟩ (.int .i64 (a + 1))).setCell ⟨g, 5, none⟩ (.int .i64 (c + 1))) → QF F W g cap st L (a + 1) b (c + 1) ∧ Only [g] w W := by
    rintro q W rfl
    obtain ⟨A, n, h1, h2, h3⟩ := HK.out
    have d1 := Blk.set_ (Blk.set_ (h1.drewN q) 3 (.int .i64 (a + 1))) 5 (.int .i64 (c + 1))
    simp at d1
    exact ⟨⟨A, n, by simpa using d1, ((h2.drewN q).setCell (p := ⟨g, 3, none⟩) (by exact h1) (by decide) _).setCell (p := ⟨g, 5, none⟩) (by exact Blk.set_ (h1.drewN q) 3 _) (by decide) _, h3.up (by simp [World.setCell])⟩,
      (((((Only.refl [g] w).alloc _).alloc _).drewN q).setCell (.inl (by simp)) _).setCell (.inl (by simp)) _⟩
  have HFIN := Lib.hid fin
  have hgl := k.lt
  have hg1 : g < w.heap.size + 1 := by omega
  have hg2 : g < w.heap.size + 1 + 1 := by omega
  have hgne : w.heap.size ≠ g := by omega
  clear fin k
  rcases hst with rfl | ⟨rfl, rfl⟩
  all_goals
    (go_enter Try.func9, Try.ntmps9
     go_wp2_with fail
     refine HF.out.mono ?_
     rintro e w1 ⟨rfl, q, rfl⟩
     have cq := Blk.cell (Q0.out.drewN q) 0
     have hk := HK.out
     obtain ⟨A, n, h1, h2, _⟩ := hk
     have c0 := Blk.cell (h1.drewN q) 0
     have c1 := Blk.cell (h1.drewN q) 1
     have c3 := Blk.cell (h1.drewN q) 3
     have c5 := Blk.cell (h1.drewN q) 5
     have f3 := Blk.frozen (h1.drewN q) 3
     have f5 := Blk.frozen (h1.drewN q) 5
     simp at cq c0 c1 c3 c5
     clear h1 h2
     go_wp2_with fail
     try (go_quiet (fail); go_wp2_with fail)
     go_ret
     refine ⟨rfl, ?_⟩
     first | exact HFIN.out _ _ rfl | (exact HFIN.out (q + 1) _ rfl))

set_option maxHeartbeats 4000000 in
theorem put_pushedF (g : Nat) (cap : Int) (s0 : ByteArray) (L : List ByteArray) (a b c : Int) (s : ByteArray) (w : World) (k : QF F w g cap 2 (s0 :: L) a b c) (h : cap ≤ ((s0 :: L).length : Int)) (hcap : 0 < cap) (hL : L.length ≤ 63)
    (ha : 0 ≤ a) (ha' : a ≤ 100000) (hc : 0 ≤ c) (hc' : c ≤ 100000) :
    Calls Try.prog 9 #[.pointer (some ⟨g, 0, none⟩), .string s] w (TurnedF F (.int .i64 3) w g cap 2 (L ++ [s]) (a + 1) b (c + 1)) := by
  have kk := (k.alloc (.cells #[.pointer (some ⟨g, 0, none⟩)] 23)).alloc (.cells #[.string s] 9)
  have hF := full_any g cap 2 (s0 :: L) a b c _ kk.q
  rw [fullp cap (s0 :: L).length h] at hF
  have HF := Lib.hid hF
  have q0 := Blk.alloc (Blk.new w 23 #[.pointer (some ⟨g, 0, none⟩)]) (.cells #[.string s] 9)
  have s0' := Blk.new (w.alloc (.cells #[.pointer (some ⟨g, 0, none⟩)] 23)) 9 #[.string s]
  simp only [World.size_alloc] at s0'
  have HK := Lib.hid kk
  have Q0 := Lib.hid q0
  have S0 := Lib.hid s0'
  have hgl := k.lt
  have hgne : w.heap.size ≠ g := by omega
  have hgne2 : w.heap.size + 1 ≠ g := by omega
  have hcz : (cap == 0) = false := by simp; omega
  clear kk hF q0 s0' k
  go_enter Try.func9, Try.ntmps9
  go_wp2_with fail
  refine HF.out.mono ?_
  rintro e w1 ⟨rfl, q, rfl⟩
  have cq := Blk.cell (Q0.out.drewN q) 0
  have hk := HK.out
  obtain ⟨A, n, h1, h2, _⟩ := hk
  have c0 := Blk.cell (h1.drewN q) 0
  have c1 := Blk.cell (h1.drewN q) 1
  simp at cq c0 c1
  clear h1 h2
  go_wp2_with fail
  generalize hW : World.drewN _ _ = W at *
  have HKW : QF F W g cap 2 (s0 :: L) a b c := by rw [← hW]; exact HK.out
  have Q0W : Blk W w.heap.size 23 #[.pointer (some ⟨g, 0, none⟩)] := by rw [← hW]; exact Q0.out
  have S0W : Blk W (w.heap.size + 1) 9 #[.string s] := by rw [← hW]; exact S0.out
  have O0 : Only [g] w W := by rw [← hW]; first | exact (((Only.refl [g] w).alloc _).alloc _).drewN _ | exact ((((Only.refl [g] w).alloc _).alloc _).drewN _).drewN _
  refine (shift_anyF g cap 2 s0 L a b c W HKW (by omega)).mono ?_
  rintro e w2 ⟨rfl, k2, o2⟩
  have q2 := Q0W.only o2 (by simpa using hgne)
  have s2 := S0W.only o2 (by simpa using hgne2)
  have O2 := O0.trans_ o2
  have k2' := k2
  obtain ⟨A2, n2, h21, h22, h23⟩ := k2
  have c5 := Blk.cell h21 5
  have f5 := Blk.frozen h21 5
  have cq2 := Blk.cell q2 0
  simp at c5 cq2
  have k3 : QF F (w2.setCell ⟨g, 5, none⟩ (.int .i64 (c + 1))) g cap 2 L a b (c + 1) := by
    have d1 := Blk.set_ h21 5 (.int .i64 (c + 1))
    simp at d1
    exact ⟨A2, n2, by simpa using d1, h22.setCell (p := ⟨g, 5, none⟩) (by exact h21) (by decide) _, h23.up (by simp [World.setCell])⟩
  have q3 := q2.far (p := ⟨g, 5, none⟩) hgne (.int .i64 (c + 1))
  have s3 := s2.far (p := ⟨g, 5, none⟩) hgne2 (.int .i64 (c + 1))
  have O3 := O2.setCell (p := ⟨g, 5, none⟩) (.inl (by simp)) (.int .i64 (c + 1))
  have HP := Lib.hid (keep_anyF 3 g _ _ cap 2 L a b (c + 1) s _ q3 s3 k3 (by omega) ha (by omega))
  have HO3 := Lib.hid O3
  clear h21 h22 h23 k2' k3 q3 s3 O3 O2 O0 q2 s2 HKW Q0W S0W o2
  go_wp2_with fail
  refine HP.out.mono ?_
  rintro e w4 ⟨rfl, k4, o4⟩
  have HF2 := Lib.hid (And.intro k4 (HO3.out.trans_ o4))
  clear k4 o4
  go_wp2_with fail
  go_ret
  exact ⟨rfl, HF2.out.1, HF2.out.2⟩
end Go.Proofs.Ytlncapddimehiaa
