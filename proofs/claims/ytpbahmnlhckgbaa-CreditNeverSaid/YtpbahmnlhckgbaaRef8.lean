/- The walks of the answer's ledger: set, Free, Spend, Grow. -/
import Derived.Test.YtpbahmnlhckgbaaRef7
import Derived.Deep.QuietTactic
import Derived.BigQuiet
import Derived.Deep.RegionWith
import Derived.Deep.RegionHeld3
import Derived.Deep.DeepCutAuto
import Derived.WalkLawsBesides
import Derived.WalkSmall
namespace Go.Proofs.Ytpbahmnlhckgbaa
open Go.RowKit
set_option linter.unusedVariables false
def RowIs (w : World) (l : List Ln) (e : Ending) (w' : World) : Prop := ∃ B c, e = .returned (.slice B l.length c) ∧ Held w' 68 3 B l.length c (prq l) ∧ Below w.heap.size w w'
theorem prq_chg {n s : Int} : ∀ (l : List Ln) (i : Nat) (h : i < l.length), prq (chg l i n s) = (((prq l).set (i * 3) (.int .i64 l[i].id)).set (i * 3 + 1) (.int .i64 n)).set (i * 3 + 2) (.int .i64 s)
  | [], i, h => absurd h (by simp)
  | x :: r, 0, _ => rfl
  | x :: r, i + 1, h => by
    have ih := prq_chg (n := n) (s := s) r i (by simpa using h)
    have e0 : (i + 1) * 3 = i * 3 + 3 := by omega
    have e1 : (i + 1) * 3 + 1 = (i * 3 + 1) + 3 := by omega
    have e2 : (i + 1) * 3 + 2 = (i * 3 + 2) + 3 := by omega
    rw [e2, e1, e0]
    show cellq x ++ prq (chg r i n s) = _
    rw [ih]
    rfl
set_option maxHeartbeats 1000000 in
theorem set_any (B : Option Addr) (c i : Nat) (x n s : Int) (l : List Ln) (w : World) (h : Held w 68 3 B l.length c (prq l)) (hf : l.length ≤ 64) (hi : i < l.length) (hx : x = l[i].id) :
    Calls Try.prog 49 #[.slice B l.length c, .int .i64 i, .agg #[.int .i64 x, .int .i64 n, .int .i64 s]] w (RowIs w (chg l i n s)) := by
  obtain ⟨i0, hi0, hz0, hz1, hz2⟩ := info_parts info_RE
  have hc := h.2.1
  have hc2 := h.2.2.1
  have HR := Lib.hid ((reads_of_held h).alloc (Nat.le_refl _) (.cells #[.int .i64 x, .int .i64 n, .int .i64 s] 68))
  have HBX := Lib.hid (Blk.new w 68 #[.int .i64 x, .int .i64 n, .int .i64 s])
  have HB0 := Lib.hid ((Below.refl w.heap.size w).alloc (Nat.le_refl _) (.cells #[.int .i64 x, .int .i64 n, .int .i64 s] 68))
  have HX := Lib.hid hx
  have hi0' : (0 : Int) ≤ i := by omega
  have hi1 : (i : Int) < l.length := by omega
  clear h hx
  go_enter Try.func49, Try.ntmps49
  go_upto_region 1 with fail
  generalize w.alloc (.cells #[.int .i64 x, .int .i64 n, .int .i64 s] 68) = W at *
  have hWs := HB0.out.size
  have hWl := Blk.lt HBX.out
  go_wp2_with (first
    | (at_builtin
       refine wpList_append_any _ rfl (.tmp 8) (.tmp 9) _ rfl W.heap.size 68 i0 _ 3 24 Try.underlying39 hi0 hz0 hz1 hz2 rfl (by omega) (.slice (some ⟨W.heap.size, 0, none⟩) 0 0) 0 [] rfl (own_empty (Blk.new W 68 #[]) (Nat.le_refl _)) w.heap.size B l.length c _ rfl (HR.out.alloc hWs _) (prq_one _) (by simp only [maxLen]; omega) (by simp; omega) (by simp) ?_
       intro v1 w1 hn1 hg1 hd1
       obtain ⟨A1, k1, rfl⟩ := slice_of_own' hn1
       rw [Nat.zero_add, List.nil_append] at hn1
       have b1 : Below W.heap.size W w1 := ((Below.refl _ _).alloc (Nat.le_refl _) _).grown hg1 (by simp) (fun k hk => by simp [Value.ownBlock] at hk; omega)
       have bx := Blk.below HBX.out b1 hWl
       have x0 := Blk.cell bx 0
       have x1 := Blk.cell bx 1
       have x2 := Blk.cell bx 2
       simp at x0 x1 x2
       have H1 := Lib.hid (And.intro hn1 (HB0.out.trans (b1.mono hWs)))
       obtain ⟨gb, k', cur, hgA, hkk, hgb, hcur, hnk, hkm, hsz, htk⟩ : ∃ gb k' cur, A1 = some ⟨gb, 0, none⟩ ∧ k' = k1 ∧ W.heap.size ≤ gb ∧ w1.heap[gb]? = some (.cells cur 68 (0, 0)) ∧ l.length ≤ k' ∧ k' ≤ maxLen ∧ cur.size = k' * 3 ∧ cur.toList.take (l.length * 3) = prq l := by
         rcases hn1.2 with ⟨hv, h0⟩ | ⟨g, c, cur, hv, hg, hh, h1, h2, h3, h4⟩
         · omega
         · injection hv with e1 e2 e3
           exact ⟨g, c, cur, e1, e3.symm, hg, hh, h1, h2, h3, h4⟩
       subst hgA
       have HC := Lib.hid (And.intro hcur (And.intro hsz htk))
       have cb : Blk w1 gb 68 cur := hcur
       have g0 := Blk.frozen cb (i * 3)
       have g1 := Blk.frozen cb (i * 3 + 1)
       have g2 := Blk.frozen cb (i * 3 + 2)
       obtain ⟨u0, y0⟩ : ∃ u, w1.cell? ⟨gb, i * 3, none⟩ = some u := ⟨_, (Blk.cell cb (i * 3)).trans (Array.getElem?_eq_getElem (by omega))⟩
       obtain ⟨u1, y1⟩ : ∃ u, w1.cell? ⟨gb, i * 3 + 1, none⟩ = some u := ⟨_, (Blk.cell cb (i * 3 + 1)).trans (Array.getElem?_eq_getElem (by omega))⟩
       obtain ⟨u2, y2⟩ : ∃ u, w1.cell? ⟨gb, i * 3 + 2, none⟩ = some u := ⟨_, (Blk.cell cb (i * 3 + 2)).trans (Array.getElem?_eq_getElem (by omega))⟩
       subst hkk
       have hk3 : k' ≤ 9223372036854775807 := by unfold maxLen at hkm; omega
       clear hn1 hg1 hd1 b1 bx cb hcur hsz htk))
  go_ret
  have st := (((H1.out.1.stored (i * 3) (.int .i64 x)).1.stored (i * 3 + 1) (.int .i64 n)).1.stored (i * 3 + 2) (.int .i64 s)).1
  rw [HX.out, ← prq_chg l i hi, ← HX.out] at st
  have hb := ((H1.out.2.setCell (p := ⟨gb, i * 3, none⟩) (by simp; omega) (.int .i64 x)).setCell (p := ⟨gb, i * 3 + 1, none⟩) (by simp; omega) (.int .i64 n)).setCell (p := ⟨gb, i * 3 + 2, none⟩) (by simp; omega) (.int .i64 s)
  refine ⟨some ⟨gb, 0, none⟩, k', by rw [chg_length]; rfl, ?_, hb⟩
  rw [chg_length]
  exact Held.of_own st
section
variable (base h c : Nat) (cn sp x : Int) (B : Option Addr) (l : List Ln) (w : World) (k : Ref base w h cn sp B c l)
include k
theorem rfree_at (i : Nat) (hi : i < l.length) (hs : Srt l) : Calls Try.prog 37 #[.pointer (some ⟨h, 0, none⟩), .int .i64 l[i].id] w fun e w' => e = .returned (.int .i64 (min (max l[i].n 0) (max cn 0))) ∧ ∃ q, w' = w.drewN q := by
  have HF := Lib.hid (rfind_at base h c cn sp B l w k i hi hs)
  obtain ⟨b, off, hB, _, c0, c1, c2⟩ := k.cells i hi
  have hcap := k.capb
  have hlen := k.few
  have d0 := Blk.cell k.blk 0
  have d2 := Blk.cell k.blk 2
  simp at d0 d2
  clear k hs
  have hi0' : (0 : Int) ≤ i := by omega
  have hi1 : (i : Int) < l.length := by omega
  generalize l[i].id = x at *
  generalize l[i].n = n at *
  generalize l[i].sp = s at *
  subst hB
  have e : min (max n 0) (max cn 0) = max (min n cn) 0 := by omega
  rw [e]
  clear e
  go_enter Try.func37, Try.ntmps37
  go_wp2_with fail
  refine HF.out.mono ?_
  rintro e w1 ⟨rfl, rfl⟩
  go_wp2_with fail
  go_quiet ((first | (go_at_call 52; exact quiet_left (low_any _ _ _)) | (go_at_call 51; exact quiet_left (high_any _ _ _))))
  go_wp2_with fail
  go_ret
  exact ⟨rfl, _, rfl⟩
theorem rspend_no (by_ : Int) (hn : ∀ (j : Nat) (hj : j < l.length), l[j].id ≠ x) : Calls Try.prog 35 #[.pointer (some ⟨h, 0, none⟩), .int .i64 x, .int .i64 by_] w fun e w' => e = .returned (.int .i64 7) ∧ w = w' := by
  have HF := Lib.hid (rfind_no base h c cn sp x B l w k hn)
  clear k hn
  go_enter Try.func35, Try.ntmps35
  go_wp2_with fail
  refine HF.out.mono ?_
  rintro e w1 ⟨rfl, rfl⟩
  go_wp2_with fail
  go_ret
  exact ⟨rfl, rfl⟩
theorem rspend_neg (by_ : Int) (i : Nat) (hi : i < l.length) (hs : Srt l) (hk : by_ < 0) : Calls Try.prog 35 #[.pointer (some ⟨h, 0, none⟩), .int .i64 l[i].id, .int .i64 by_] w fun e w' => e = .returned (.int .i64 2) ∧ w = w' := by
  have HF := Lib.hid (rfind_at base h c cn sp B l w k i hi hs)
  clear k hs
  generalize l[i].id = x at *
  go_enter Try.func35, Try.ntmps35
  go_wp2_with fail
  refine HF.out.mono ?_
  rintro e w1 ⟨rfl, rfl⟩
  go_wp2_with fail
  go_ret
  exact ⟨rfl, rfl⟩
theorem rspend_much (by_ : Int) (i : Nat) (hi : i < l.length) (hs : Srt l) (hk : 0 ≤ by_) (hm : min (max l[i].n 0) (max cn 0) < by_) : Calls Try.prog 35 #[.pointer (some ⟨h, 0, none⟩), .int .i64 l[i].id, .int .i64 by_] w fun e w' => e = .returned (.int .i64 9) ∧ ∃ q, w' = w.drewN q := by
  have HF := Lib.hid (rfind_at base h c cn sp B l w k i hi hs)
  have HR := Lib.hid (rfree_at base h c cn sp B l w k i hi hs)
  clear k hs
  generalize l[i].id = x at *
  generalize min (max l[i].n 0) (max cn 0) = f at *
  go_enter Try.func35, Try.ntmps35
  go_wp2_with fail
  refine HF.out.mono ?_
  rintro e w1 ⟨rfl, rfl⟩
  go_wp2_with fail
  refine HR.out.mono ?_
  rintro e w1 ⟨rfl, q, rfl⟩
  go_wp2_with fail
  go_ret
  exact ⟨rfl, _, rfl⟩
set_option maxHeartbeats 2000000 in
theorem rspend_ok (by_ : Int) (i : Nat) (hi : i < l.length) (hs : Srt l) (hk : 0 ≤ by_) (hm : by_ ≤ min (max l[i].n 0) (max cn 0)) (hb1 : -2147483647 ≤ l[i].n ∧ l[i].n ≤ 2147483647 ∧ 0 ≤ l[i].sp ∧ l[i].sp ≤ 1000000000000000000 ∧ -2147483647 ≤ cn ∧ cn ≤ 2147483647 ∧ 0 ≤ sp ∧ sp ≤ 1000000000000000000) :
    Calls Try.prog 35 #[.pointer (some ⟨h, 0, none⟩), .int .i64 l[i].id, .int .i64 by_] w fun e w' => e = .returned (.int .i64 0) ∧ (∃ B' c', Ref base w' h (cn - by_) (sp + by_) B' c' (chg l i (l[i].n - by_) (l[i].sp + by_))) ∧ Only [h] w w' := by
  have HF := Lib.hid (rfind_at base h c cn sp B l w k i hi hs)
  have HR := Lib.hid (rfree_at base h c cn sp B l w k i hi hs)
  have HS := Lib.hid (fun (V : World) (n s : Int) (hV : Held V 68 3 B l.length c (prq l)) => set_any B c i l[i].id n s l V hV k.few hi rfl)
  have hcap := k.capb
  have hlen := k.few
  have HK := Lib.hid k
  have hf3 : ¬ min (max l[i].n 0) (max cn 0) < by_ := by omega
  have hby : by_ ≤ 2147483647 := by omega
  clear hs hm
  have HLC := Lib.hid (fun n s => chg_length (l := l) (i := i) (n := n) (s := s))
  have HX := Lib.hid (fun (W : World) (kW : Ref base W h cn sp B c l) => kW.cells i hi)
  clear k
  generalize l[i].id = x at *
  generalize l[i].n = n at *
  generalize l[i].sp = s at *
  obtain ⟨n1, n2, s1, s2, q1, q2, p1, p2⟩ := hb1
  generalize min (max n 0) (max cn 0) = f at *
  have hi0' : (0 : Int) ≤ i := by omega
  have hi1 : (i : Int) < l.length := by omega
  go_enter Try.func35, Try.ntmps35
  go_wp2_with fail
  refine HF.out.mono ?_
  rintro e w1 ⟨rfl, rfl⟩
  go_wp2_with fail
  refine HR.out.mono ?_
  rintro e w1 ⟨rfl, q, rfl⟩
  have K1 := Lib.hid (HK.out.drewN q)
  have O1 := Lib.hid ((Only.refl [h] w).drewN q)
  generalize w.drewN q = w1 at *
  obtain ⟨b, off, hB, hbl, c0, c1, c2⟩ := HX.out w1 K1.out
  have d0 := Blk.cell K1.out.blk 0
  have d1 := Blk.cell K1.out.blk 1
  have d2 := Blk.cell K1.out.blk 2
  simp at d0 d1 d2
  have hbh := K1.out.lt
  subst hB
  have z0 : IntKind.i64.wrap (n - by_) = n - by_ := by rw [IntKind.wrap_i64]; omega
  have z1 : IntKind.i64.wrap (s + by_) = s + by_ := by rw [IntKind.wrap_i64]; omega
  go_wp2_with fail
  refine wp_region_ord (fun w' => w'.cell? ⟨h, 2, none⟩ = some (.slice (some ⟨b, off, none⟩) l.length c) ∧ w'.cell? ⟨b, off + i * 3 + 1, none⟩ = some (.int .i64 n) ∧ w'.cell? ⟨b, off + i * 3 + 2, none⟩ = some (.int .i64 s)) 31 [(true, 0), (true, 1), (true, 2), (true, 3), (true, 4), (true, 5), (true, 6), (true, 7), (true, 8), (true, 9), (true, 10), (true, 11), (true, 12), (true, 13), (true, 14), (true, 15), (true, 16), (true, 17), (true, 18), (true, 19), (true, 20), (true, 21), (true, 22), (true, 23), (true, 24), (true, 25), (true, 26), (true, 27), (false, 28), (true, 29), (true, 30)] default (by kernel_rfl) (by kernel_rfl) (fun d _ _ _ _ h => by cases d <;> exact h) ?_ ?_
  · exact ⟨d2, c1, c2⟩
  simp only [List.map_cons, List.map_nil, List.getD_cons_succ, List.getD_cons_zero]
  repeat
    (refine heldL_take ?_ ?_ ?_
     rotate_left
     · intro w' hw'
       try dsimp only at hw'
       go_simp
       try with_reducible rfl
     try simp only [Act.put, List.setIfInBounds_toArray, List.set_cons_zero, List.set_cons_succ])
  refine heldL_move (fun K hK => ?_)
  go_simp
  refine (HS.out _ _ _ (by exact K1.out.row.drewN 1)).mono ?_
  rintro e w3 ⟨B3, c3, rfl, h3, b3'⟩
  have b3 : Below w1.heap.size w1 w3 := ⟨b3'.os, b3'.tape, b3'.output, b3'.size, b3'.block⟩
  have e2 := (b3.cell (p := ⟨h, 2, none⟩) hbh).trans d2
  have r1 := (b3.cell (p := ⟨b, off + i * 3 + 1, none⟩) hbl).trans c1
  have r2 := (b3.cell (p := ⟨b, off + i * 3 + 2, none⟩) hbl).trans c2
  have BH := Blk.below K1.out.blk b3 hbh
  have f0 := Blk.frozen BH 0
  have f1 := Blk.frozen BH 1
  have f2 := Blk.frozen BH 2
  have H3 := Lib.hid (And.intro h3 (And.intro BH b3))
  refine hK.out _ _ ⟨e2, r1, r2⟩ (fun hS => ?_)
  clear hK K hS h3 BH b3 b3'
  try simp only [Act.put, List.setIfInBounds_toArray, List.set_cons_zero, List.set_cons_succ]
  repeat
    (refine heldL_take ?_ ?_ ?_
     rotate_left
     · intro w' hw'
       try dsimp only at hw'
       go_simp
       try with_reducible rfl
     try simp only [Act.put, List.setIfInBounds_toArray, List.set_cons_zero, List.set_cons_succ])
  refine heldL_last (fun K hK => ?_)
  go_simp
  refine hK _ _ ?_
  clear hK K
  try simp only [Act.put, List.setIfInBounds_toArray, List.set_cons_zero, List.set_cons_succ]
  rw [HLC.out]
  have BH4 := Blk.set_ H3.out.2.1 2 (.slice B3 l.length c3)
  simp at BH4
  have h4 := H3.out.1.setCell (p := ⟨h, 2, none⟩) (by exact H3.out.2.1) (by decide) (.slice B3 l.length c3)
  have O4 := (O1.out.trans_ (Only.of_below H3.out.2.2)).setCell (p := ⟨h, 2, none⟩) (.inl (by simp)) (.slice B3 l.length c3)
  have H4 := Lib.hid (And.intro h4 (And.intro BH4 O4))
  generalize w3.setCell ⟨h, 2, none⟩ (.slice B3 l.length c3) = w4 at *
  have d0' := Blk.cell BH4 0
  have d1' := Blk.cell BH4 1
  simp at d0' d1'
  have f0' := Blk.frozen BH4 0
  have f1' := Blk.frozen BH4 1
  have hh4 := Blk.lt BH4
  clear BH4 h4 O4 e2 r1 r2 f0 f1 f2 c0 c1 c2 d0 d1 d2
  go_wp2_with fail
  go_ret
  have BF := (H4.out.2.1.set_ 0 (.int .i64 (cn - by_))).set_ 1 (.int .i64 (sp + by_))
  simp at BF
  refine ⟨rfl, ⟨B3, c3, ⟨?_, ?_, by rw [HLC.out]; exact hlen, HK.out.bas⟩⟩, (H4.out.2.2.setCell (.inl (by simp)) _).setCell (.inl (by simp)) _⟩
  · rw [HLC.out]; exact BF
  · exact (H4.out.1.setCell (p := ⟨h, 0, none⟩) (by exact H4.out.2.1) (by decide) _).setCell (p := ⟨h, 1, none⟩) (by exact H4.out.2.1.set_ 0 _) (by decide) _
end
end Go.Proofs.Ytpbahmnlhckgbaa
