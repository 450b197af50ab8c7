/- The laws' moves and sums opened; the walks of cut and few, chapter 35. -/
import Derived.Test.YteokepnkgdhkkaaRows
import Derived.WalkKit
import Derived.ProofKit
import Derived.Handy
import Derived.Deep.QuietTactic
import Derived.BigQuiet
import Derived.Deep.RegionWith
import Derived.Deep.RegionHeld3
import Derived.Deep.AppendLies
import Derived.WalkLawsBesides
import Derived.WalkSmall
import Derived.Deep.Cut
import Derived.Test.YteokepnkgdhkkaaTalAw
namespace Go.Proofs.Yteokepnkgdhkkaa
open Go.RowKit
open Go.WideShapes Go.ChangeShapes Go.Deep
set_option linter.unusedVariables false
instance : Inhabited Mv := ⟨mA⟩
def In64 (x : Int) : Prop := -9223372036854775808 ≤ x ∧ x ≤ 9223372036854775807
def MvOk (cs : List Value) : Prop := ∃ m : Mv, cs = mv m ∧ (Lit.int .i64 m.st).wf = true
def SmIn (x : Sm) : Prop := (Lit.int .i64 x.st).wf = true ∧ In64 x.se ∧ In64 x.ca ∧ In64 x.mo ∧ In64 x.op ∧ In64 x.dn
def SmOk (cs : List Value) : Prop := ∃ x : Sm, cs = sv x ∧ SmIn x
section
variable {H : Type} {enc : TypeId × Value → H} {P : Program} {w : World} {base : Nat} {spare : Nat → Bool} {held : Bool}
theorem mv_of {e it st bt : TypeId} {f0 f1 f2 f3 f4 : Field} (he : P.underlying e = some (.struct #[f0, f1, f2, f3, f4])) (hit : P.underlying it = some (.int .i64)) (hst : P.underlying st = some .string) (hbt : P.underlying bt = some .bool) (h1 : P.cellsOf it = 1) (h3 : P.cellsOf st = 1) (h2 : P.cellsOf bt = 1)
    (o0 : f0.offset = 0) (o1 : f1.offset = 1) (o2 : f2.offset = 2) (o3 : f3.offset = 3) (o4 : f4.offset = 4) (t0 : f0.type = it) (t1 : f1.type = it) (t2 : f2.type = it) (t3 : f3.type = st) (t4 : f4.type = bt) :
    ∀ fuel cs x, cs.length = 5 → DataW.trod enc P w base spare held fuel e cs = some x → MvOk cs := by
  intro fuel cs x hl h
  match cs, hl with
  | [c0, c1, c2, c3, c4], _ =>
    obtain ⟨_, _, g0⟩ := field_trod he h 0 f0 rfl 0 1 it o0 t0 h1
    obtain ⟨_, _, g1⟩ := field_trod he h 1 f1 rfl 1 1 it o1 t1 h1
    obtain ⟨_, _, g2⟩ := field_trod he h 2 f2 rfl 2 1 it o2 t2 h1
    obtain ⟨_, _, g3⟩ := field_trod he h 3 f3 rfl 3 1 st o3 t3 h3
    obtain ⟨_, _, g4⟩ := field_trod he h 4 f4 rfl 4 1 bt o4 t4 h2
    obtain ⟨x0, e0, _, w0⟩ := DataW.trod_int hit g0
    obtain ⟨x1, e1, _, w1⟩ := DataW.trod_int hit g1
    obtain ⟨x2, e2, _, w2⟩ := DataW.trod_int hit g2
    obtain ⟨s, e3, _, hs⟩ := DataW.trod_string hst g3
    obtain ⟨b, e4, _⟩ := DataW.trod_bool hbt g4
    simp at e0 e1 e2 e3 e4
    exact ⟨⟨x0, x1, x2, s, b⟩, by rw [e0, e1, e2, e3, e4]; rfl, w1⟩
theorem sm_of {e it bt : TypeId} {f0 f1 f2 f3 f4 f5 f6 f7 : Field} (he : P.underlying e = some (.struct #[f0, f1, f2, f3, f4, f5, f6, f7])) (hit : P.underlying it = some (.int .i64)) (hbt : P.underlying bt = some .bool) (h1 : P.cellsOf it = 1) (h2 : P.cellsOf bt = 1)
    (o0 : f0.offset = 0) (o1 : f1.offset = 1) (o2 : f2.offset = 2) (o3 : f3.offset = 3) (o4 : f4.offset = 4) (o5 : f5.offset = 5) (o6 : f6.offset = 6) (o7 : f7.offset = 7) (t0 : f0.type = it) (t1 : f1.type = it) (t2 : f2.type = it) (t3 : f3.type = it) (t4 : f4.type = bt) (t5 : f5.type = bt) (t6 : f6.type = it) (t7 : f7.type = it) :
    ∀ fuel cs x, cs.length = 8 → DataW.trod enc P w base spare held fuel e cs = some x → SmOk cs := by
  intro fuel cs x hl h
  match cs, hl with
  | [c0, c1, c2, c3, c4, c5, c6, c7], _ =>
    obtain ⟨_, _, g0⟩ := field_trod he h 0 f0 rfl 0 1 it o0 t0 h1
    obtain ⟨_, _, g1⟩ := field_trod he h 1 f1 rfl 1 1 it o1 t1 h1
    obtain ⟨_, _, g2⟩ := field_trod he h 2 f2 rfl 2 1 it o2 t2 h1
    obtain ⟨_, _, g3⟩ := field_trod he h 3 f3 rfl 3 1 it o3 t3 h1
    obtain ⟨_, _, g4⟩ := field_trod he h 4 f4 rfl 4 1 bt o4 t4 h2
    obtain ⟨_, _, g5⟩ := field_trod he h 5 f5 rfl 5 1 bt o5 t5 h2
    obtain ⟨_, _, g6⟩ := field_trod he h 6 f6 rfl 6 1 it o6 t6 h1
    obtain ⟨_, _, g7⟩ := field_trod he h 7 f7 rfl 7 1 it o7 t7 h1
    obtain ⟨x0, e0, _, w0⟩ := DataW.trod_int hit g0
    obtain ⟨x1, e1, _, w1⟩ := DataW.trod_int hit g1
    obtain ⟨x2, e2, _, w2⟩ := DataW.trod_int hit g2
    obtain ⟨x3, e3, _, w3⟩ := DataW.trod_int hit g3
    obtain ⟨x4, e4, _⟩ := DataW.trod_bool hbt g4
    obtain ⟨x5, e5, _⟩ := DataW.trod_bool hbt g5
    obtain ⟨x6, e6, _, w6⟩ := DataW.trod_int hit g6
    obtain ⟨x7, e7, _, w7⟩ := DataW.trod_int hit g7
    simp at e0 e1 e2 e3 e4 e5 e6 e7
    exact ⟨⟨x0, x1, x2, x3, x4, x5, x6, x7⟩, by rw [e0, e1, e2, e3, e4, e5, e6, e7]; rfl, w0, bounds_i64 w1, bounds_i64 w2, bounds_i64 w3, bounds_i64 w6, bounds_i64 w7⟩
end
theorem mvs_of_rows {w : World} {v : Value} {n : Nat} {C : Nat → List Value} (h : RowsAt w v n 5 MvOk C) : ∃ (A : Option Addr) (cap : Nat) (L : List Mv), v = .slice A n cap ∧ Mvs w w.heap.size A n cap L ∧ ∀ m ∈ L, (Lit.int .i64 m.st).wf = true := by
  obtain ⟨A, cap, rfl, hn, hc, hall⟩ := h
  obtain ⟨L, hL, hR⟩ := rows_choose (α := Mv) (R := fun cs m => cs = mv m ∧ (Lit.int .i64 m.st).wf = true) (fun i hi => (hall i hi).1) (fun cs h => h)
  have hr := reads_rows (cap := cap) (by omega) hall
  rw [flatMap_range hL (fun i hi => (hR i hi).1)] at hr
  refine ⟨A, cap, L, rfl, ⟨hr, hL, hn, hc⟩, fun m hm => ?_⟩
  obtain ⟨i, hi, rfl⟩ := List.mem_iff_getElem.1 hm
  exact (hR i hi).2
theorem sms_of_rows {w : World} {v : Value} {n : Nat} {C : Nat → List Value} (h : RowsAt w v n 8 SmOk C) : ∃ (A : Option Addr) (cap : Nat) (L : List Sm), v = .slice A n cap ∧ Sms w w.heap.size A n cap L ∧ ∀ x ∈ L, SmIn x := by
  obtain ⟨A, cap, rfl, hn, hc, hall⟩ := h
  obtain ⟨L, hL, hR⟩ := rows_choose (α := Sm) (R := fun cs x => cs = sv x ∧ SmIn x) (fun i hi => (hall i hi).1) (fun cs h => h)
  have hr := reads_rows (cap := cap) (by omega) hall
  rw [flatMap_range hL (fun i hi => (hR i hi).1)] at hr
  refine ⟨A, cap, L, rfl, ⟨hr, hL, hn, hc⟩, fun m hm => ?_⟩
  obtain ⟨i, hi, rfl⟩ := List.mem_iff_getElem.1 hm
  exact (hR i hi).2
def CutE (w : World) (B : Nat) (A : Option Addr) (n c : Nat) (l : List Mv) (e : Ending) (w' : World) : Prop :=
  ∃ m, e = .returned (.slice A m c) ∧ Mvs w B A m c (l.take 200) ∧ m ≤ 200 ∧ w = w'
theorem cut_any (B n c : Nat) (A : Option Addr) (l : List Mv) (w : World) (h : Mvs w B A n c l) : Calls Try.prog 7 #[.slice A n c] w (CutE w B A n c l) := by
  have hc := h.cap_ge
  have hc2 := h.cap_le
  have HK := Lib.hid h
  have HN := Lib.hid h.len
  clear h
  by_cases hn : 200 < n
  · have hU := fun W => run_upto Try.underlying22 (by kernel_rfl : (Try.prog.info? 45).map (·.size) = some 5) A n c 200 (by omega) W
    have hz : (200 : Int) < n := by omega
    go_enter Try.func7, Try.ntmps7
    go_wp2_with fail
    go_ret
    exact ⟨200, rfl, HK.out.cut (by omega) (by omega) hc2, by omega, rfl⟩
  · have hz : (n : Int) ≤ 200 := by omega
    go_enter Try.func7, Try.ntmps7
    go_wp2_with fail
    go_ret
    refine ⟨n, rfl, ?_, by omega, rfl⟩
    rw [List.take_of_length_le (by rw [HN.out]; omega)]
    exact HK.out
def r40 (x : Int) : Int := x.tmod 1099511627776
def fewS (x : Sm) : Sm := ⟨x.st, r40 x.se, r40 x.ca, r40 x.mo, x.ou, x.inn, r40 x.op, r40 x.dn⟩
def fewL (l : List Sm) : List Sm := (l.take 60).map fewS
theorem r40_bd (x : Int) : -1099511627776 ≤ r40 x ∧ r40 x ≤ 1099511627776 := by
  unfold r40
  have h1 := Int.lt_tmod_of_pos x (show (0 : Int) < 1099511627776 by omega)
  have h2 := Int.tmod_lt_of_pos x (show (0 : Int) < 1099511627776 by omega)
  omega
theorem fewS_bd (x : Sm) : (fewS x).bd 1099511627776 := ⟨r40_bd _, r40_bd _, r40_bd _, r40_bd _, r40_bd _⟩
theorem fewL_bd (l : List Sm) : ∀ a ∈ fewL l, a.bd 1099511627776 := fun a ha => by
  obtain ⟨x, _, rfl⟩ := List.mem_map.1 ha
  exact fewS_bd x
theorem fewL_wf (l : List Sm) (h : ∀ x ∈ l, SmIn x) : ∀ a ∈ fewL l, (Lit.int .i64 a.st).wf = true := fun a ha => by
  obtain ⟨x, hx, rfl⟩ := List.mem_map.1 ha
  exact (h x (List.mem_of_mem_take hx)).1
theorem fewL_length (l : List Sm) : (fewL l).length ≤ 60 := by
  unfold fewL
  rw [List.length_map, List.length_take]
  omega
set_option maxHeartbeats 4000000 in
theorem few_any (B n c : Nat) (A : Option Addr) (l : List Sm) (w : World) (h : Sms w B A n c l) (hB : B ≤ w.heap.size) (hin : ∀ x ∈ l, SmIn x) :
    Calls Try.prog 12 #[.slice A n c] w (SumsAre w (fewL l)) := by
  obtain ⟨i0, hi0, hz0, hz1, hz2⟩ := info_parts info_S
  have hc := h.cap_ge
  have hc2 := h.cap_le
  have HK := Lib.hid h
  have HN := Lib.hid h.len
  have HIn := Lib.hid hin
  clear h hin
  go_enter Try.func12, Try.ntmps12
  go_wp2_with fail
  go_loopw [3, 4] (fun ov iv wr => ∃ (k c' : Nat) (A' : Option Addr), k ≤ n ∧ k ≤ 60 ∧ iv = .int .i64 k ∧ ov = .slice A' k c' ∧ wr.ownsRow w.heap.size 33 8 (.slice A' k c') k (svs ((l.take k).map fewS)) ∧ Below w.heap.size w wr) (fun _ i _ => n - (intOf i).toNat)
  case atStart => exact ⟨0, 0, none, by omega, by omega, rfl, rfl, own_nil _ _ _ _, Below.refl _ _⟩
  case round =>
    obtain ⟨k, c', A', hk, hk60, rfl, rfl, ho, hb⟩ := hrel
    have HS := Lib.hid (And.intro ho hb)
    have hbs := hb.size
    clear ho hb
    by_cases hgo : k < n ∧ k < 60
    · obtain ⟨hlt, hlt2⟩ := hgo
      have hkl : k < l.length := by rw [HN.out]; exact hlt
      obtain ⟨b, off, rfl, hbB, c0, c1, c2, c3, c4, c5, c6, c7⟩ := (HK.out.below (HS.out.2.mono hB)).at_ k hkl
      have hk0 : (0 : Int) ≤ k := by omega
      have hk1 : (k : Int) < n := by omega
      have hk2 : (k : Int) < 60 := by omega
      have ht : svs ((l.take (k + 1)).map fewS) = svs ((l.take k).map fewS) ++ sv (fewS l[k]) := by
        rw [List.take_succ_eq_append_getElem hkl, List.map_append, svs_append]
        simp [svs]
      have HT := Lib.hid ht
      obtain ⟨_, i1, i2, i3, i6, i7⟩ := HIn.out l[k] (List.getElem_mem hkl)
      clear ht
      generalize l[k] = y at *
      obtain ⟨x0, x1, x2, x3, x4, x5, x6, x7⟩ := y
      unfold In64 at i1 i2 i3 i6 i7
      try simp only at c0 c1 c2 c3 c4 c5 c6 c7 i1 i2 i3 i6 i7
      go_upto_region 6 with fail
      have k1 := Blk.new wr 33 #[.int .i64 x0, .int .i64 x1, .int .i64 x2, .int .i64 x3, .bool x4, .bool x5, .int .i64 x6, .int .i64 x7]
      have k2 : Below wr.heap.size wr (wr.alloc (.cells #[.int .i64 x0, .int .i64 x1, .int .i64 x2, .int .i64 x3, .bool x4, .bool x5, .int .i64 x6, .int .i64 x7] 33)) := (Below.refl _ _).alloc (Nat.le_refl _) _
      have hs1 : (wr.alloc (.cells #[.int .i64 x0, .int .i64 x1, .int .i64 x2, .int .i64 x3, .bool x4, .bool x5, .int .i64 x6, .int .i64 x7] 33)).heap.size = wr.heap.size + 1 := by simp
      have H1 := Lib.hid (And.intro k1 k2)
      clear k1 k2
      generalize wr.alloc (.cells #[.int .i64 x0, .int .i64 x1, .int .i64 x2, .int .i64 x3, .bool x4, .bool x5, .int .i64 x6, .int .i64 x7] 33) = W1 at *
      have d0 := Blk.cell H1.out.1 0
      have d1 := Blk.cell H1.out.1 1
      have d2 := Blk.cell H1.out.1 2
      have d3 := Blk.cell H1.out.1 3
      have d4 := Blk.cell H1.out.1 4
      have d5 := Blk.cell H1.out.1 5
      have d6 := Blk.cell H1.out.1 6
      have d7 := Blk.cell H1.out.1 7
      have f0 := Blk.frozen H1.out.1 0
      have f1 := Blk.frozen H1.out.1 1
      have f2 := Blk.frozen H1.out.1 2
      have f3 := Blk.frozen H1.out.1 3
      have f4 := Blk.frozen H1.out.1 4
      have f5 := Blk.frozen H1.out.1 5
      have f6 := Blk.frozen H1.out.1 6
      have f7 := Blk.frozen H1.out.1 7
      simp at d0 d1 d2 d3 d4 d5 d6 d7
      have b2 : Below wr.heap.size wr (((((W1.setCell ⟨wr.heap.size, 1, none⟩ (.int .i64 (r40 x1))).setCell ⟨wr.heap.size, 2, none⟩ (.int .i64 (r40 x2))).setCell ⟨wr.heap.size, 3, none⟩ (.int .i64 (r40 x3))).setCell ⟨wr.heap.size, 6, none⟩ (.int .i64 (r40 x6))).setCell ⟨wr.heap.size, 7, none⟩ (.int .i64 (r40 x7))) := (((((H1.out.2.setCell (p := ⟨wr.heap.size, 1, none⟩) (Nat.le_refl _) (.int .i64 (r40 x1))).setCell (p := ⟨wr.heap.size, 2, none⟩) (Nat.le_refl _) (.int .i64 (r40 x2))).setCell (p := ⟨wr.heap.size, 3, none⟩) (Nat.le_refl _) (.int .i64 (r40 x3))).setCell (p := ⟨wr.heap.size, 6, none⟩) (Nat.le_refl _) (.int .i64 (r40 x6))).setCell (p := ⟨wr.heap.size, 7, none⟩) (Nat.le_refl _) (.int .i64 (r40 x7)))
      have s2 : (((((W1.setCell ⟨wr.heap.size, 1, none⟩ (.int .i64 (r40 x1))).setCell ⟨wr.heap.size, 2, none⟩ (.int .i64 (r40 x2))).setCell ⟨wr.heap.size, 3, none⟩ (.int .i64 (r40 x3))).setCell ⟨wr.heap.size, 6, none⟩ (.int .i64 (r40 x6))).setCell ⟨wr.heap.size, 7, none⟩ (.int .i64 (r40 x7))).heap.size = wr.heap.size + 1 := by simpa using hs1
      have H2 := Lib.hid (And.intro b2 (And.intro (own_below HS.out.1 b2 (Nat.le_refl _)) s2))
      clear b2 s2
      unfold r40 at H2
      go_upto_region 11 with fail
      have kb : Blk (((((W1.setCell ⟨wr.heap.size, 1, none⟩ (.int .i64 (x1.tmod 1099511627776))).setCell ⟨wr.heap.size, 2, none⟩ (.int .i64 (x2.tmod 1099511627776))).setCell ⟨wr.heap.size, 3, none⟩ (.int .i64 (x3.tmod 1099511627776))).setCell ⟨wr.heap.size, 6, none⟩ (.int .i64 (x6.tmod 1099511627776))).setCell ⟨wr.heap.size, 7, none⟩ (.int .i64 (x7.tmod 1099511627776))) wr.heap.size 33 (sa ⟨x0, x1.tmod 1099511627776, x2.tmod 1099511627776, x3.tmod 1099511627776, x4, x5, x6.tmod 1099511627776, x7.tmod 1099511627776⟩) := by
        have := (((((H1.out.1.set_ 1 (.int .i64 (x1.tmod 1099511627776))).set_ 2 (.int .i64 (x2.tmod 1099511627776))).set_ 3 (.int .i64 (x3.tmod 1099511627776))).set_ 6 (.int .i64 (x6.tmod 1099511627776))).set_ 7 (.int .i64 (x7.tmod 1099511627776)))
        simpa [sa] using this
      clear d0 d1 d2 d3 d4 d5 d6 d7 f0 f1 f2 f3 f4 f5 f6 f7 c0 c1 c2 c3 c4 c5 c6 c7 H1
      change Hid (svs ((l.take (k + 1)).map fewS) = svs ((l.take k).map fewS) ++ sv ⟨x0, x1.tmod 1099511627776, x2.tmod 1099511627776, x3.tmod 1099511627776, x4, x5, x6.tmod 1099511627776, x7.tmod 1099511627776⟩) at HT
      generalize (((((W1.setCell ⟨wr.heap.size, 1, none⟩ (.int .i64 (x1.tmod 1099511627776))).setCell ⟨wr.heap.size, 2, none⟩ (.int .i64 (x2.tmod 1099511627776))).setCell ⟨wr.heap.size, 3, none⟩ (.int .i64 (x3.tmod 1099511627776))).setCell ⟨wr.heap.size, 6, none⟩ (.int .i64 (x6.tmod 1099511627776))).setCell ⟨wr.heap.size, 7, none⟩ (.int .i64 (x7.tmod 1099511627776))) = W2 at *
      have d0 := Blk.cell kb 0
      have d1 := Blk.cell kb 1
      have d2 := Blk.cell kb 2
      have d3 := Blk.cell kb 3
      have d4 := Blk.cell kb 4
      have d5 := Blk.cell kb 5
      have d6 := Blk.cell kb 6
      have d7 := Blk.cell kb 7
      simp [sa] at d0 d1 d2 d3 d4 d5 d6 d7
      have hs2 := Lib.hid H2.out.2.2
      clear kb hs1
      go_wp2_with (first
        | (at_builtin
           refine wpList_append_any _ rfl (.tmp 40) (.tmp 42) _ rfl w.heap.size 33 i0 _ 8 56 Try.underlying26 hi0 hz0 hz1 hz2 rfl (by omega) (.slice A' k c') k _ rfl (H2.out.2.1.alloc (.cells (sa ⟨x0, x1.tmod 1099511627776, x2.tmod 1099511627776, x3.tmod 1099511627776, x4, x5, x6.tmod 1099511627776, x7.tmod 1099511627776⟩) 33)) (W2.heap.size + 1) (some ⟨W2.heap.size, 0, none⟩) 1 1 (sv ⟨x0, x1.tmod 1099511627776, x2.tmod 1099511627776, x3.tmod 1099511627776, x4, x5, x6.tmod 1099511627776, x7.tmod 1099511627776⟩) rfl (reads_sum W2 ⟨x0, x1.tmod 1099511627776, x2.tmod 1099511627776, x3.tmod 1099511627776, x4, x5, x6.tmod 1099511627776, x7.tmod 1099511627776⟩) (sv_one ⟨x0, x1.tmod 1099511627776, x2.tmod 1099511627776, x3.tmod 1099511627776, x4, x5, x6.tmod 1099511627776, x7.tmod 1099511627776⟩) (by simp only [maxLen]; omega) (by omega) (by have := hs2.out; simp; omega) ?_
           intro v3 w3 hn3 hg3 hd3
           obtain ⟨A3, k3, rfl⟩ := slice_of_own' hn3
           have b3 : Below w.heap.size w w3 := (((HS.out.2.trans (H2.out.1.mono hbs)).alloc (by have := hs2.out; omega) (.cells (sa ⟨x0, x1.tmod 1099511627776, x2.tmod 1099511627776, x3.tmod 1099511627776, x4, x5, x6.tmod 1099511627776, x7.tmod 1099511627776⟩) 33)).grown hg3 (by have := hs2.out; simp; omega) (fun k hk => ownBlock_ge HS.out.1 hk))
           rw [← HT.out] at hn3
           have H3 := Lib.hid (And.intro hn3 b3)
           clear hn3 hg3 hd3 b3))
      go_roundw
      case rel => exact ⟨k + 1, k3, A3, by omega, by omega, by go_num, rfl, H3.out.1, H3.out.2⟩
      case measure => simp [intOf]; omega
    · have hlen : (fewL l).length = k := by
        have := HN.out
        unfold fewL
        rw [List.length_map, List.length_take]
        omega
      have heq : (l.take k).map fewS = fewL l := by
        have := HN.out
        unfold fewL
        rcases Nat.lt_or_ge k n with h | h
        · have : k = 60 := by omega
          rw [this]
        · rw [List.take_of_length_le (by omega), List.take_of_length_le (by omega)]
      have ho := HS.out.1
      rw [heq] at ho
      have HF := Lib.hid (And.intro hlen (Sms.of_own ho))
      clear hlen heq ho
      by_cases h1 : k < n
      · have h2 : (60 : Int) ≤ k := by omega
        have h3 : (k : Int) < n := by omega
        clear hgo
        go_wp2_with fail
        go_ret
        exact ⟨A', c', by rw [HF.out.1]; rfl, by rw [HF.out.1]; exact HF.out.2, HS.out.2⟩
      · have h2 : (n : Int) ≤ k := by omega
        clear hgo
        go_wp2_with fail
        go_ret
        exact ⟨A', c', by rw [HF.out.1]; rfl, by rw [HF.out.1]; exact HF.out.2, HS.out.2⟩
end Go.Proofs.Yteokepnkgdhkkaa
