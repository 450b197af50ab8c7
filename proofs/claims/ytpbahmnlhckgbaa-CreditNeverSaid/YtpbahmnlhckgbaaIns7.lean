/- slices.Insert of one element, slices.Delete of one, at elements of 3 cells. -/
import Derived.Test.YtpbahmnlhckgbaaRows
import Derived.WalkKit
import Derived.ProofKit
import Derived.Handy
import Derived.Test.YtpbahmnlhckgbaaMem
import Derived.Test.YtpbahmnlhckgbaaLift
import Derived.Test.YtpbahmnlhckgbaaApp
import Derived.Test.YtpbahmnlhckgbaaReads
import Derived.Test.YtpbahmnlhckgbaaOrd
import Derived.Test.YtpbahmnlhckgbaaRow
import Derived.Deep.QuietTactic
import Derived.BigQuiet
import Derived.Deep.RegionWith
import Derived.Deep.RegionHeld3
import Derived.Deep.AppendLies
import Derived.WalkLawsBesides
import Derived.WalkSmall
namespace Go.Proofs.Ytpbahmnlhckgbaa
open Go.RowKit
set_option linter.unusedVariables false
theorem info_E : (Try.prog.info? 60).map (fun i => (i.zero, i.size, i.bytes)) = some (some (.agg #[.int .i64 0, .pointer none, .int .i64 0]), 3, 24) := by kernel_rfl

def zE : Value := .agg #[.int .i64 0, .pointer none, .int .i64 0]
theorem zE_size : zE.cells.size = 3 := rfl
theorem zeros_E : (Builtin.zeroCells zE.cells 1).toList = [.int .i64 0, .pointer none, .int .i64 0] := by
  simp [zE, Builtin.zeroCells, Value.cells, Array.range]
  try rfl
/-- A block's row behind Delete of its i-th element, of n. -/
structure Cut (w w' : World) (g n i : Nat) (cur : Array Value) : Prop where
  row : ∃ cur' : Array Value, w'.heap[g]? = some (.cells cur' 60 (0, 0)) ∧ cur'.size = cur.size ∧ cur'.toList.take ((n - 1) * 3) = cur.toList.take (i * 3) ++ (cur.toList.take (n * 3)).drop ((i + 1) * 3)
  only : Only [g] w w'
theorem only_setRow (w : World) (g : Nat) (c : Array Value) : Only [g] w (w.setRow g c) :=
  ⟨rfl, rfl, rfl, by simp, fun k _ hk => setRow_other w g k _ (by simpa using hk)⟩
theorem take_app {a b : List Value} {m : Nat} (h : a.length = m) : (a ++ b).take m = a := by subst h; simp
theorem take_app3 {a b c : List Value} {m : Nat} (h : a.length = m) : (a ++ b ++ c).take m = a := by rw [List.append_assoc]; exact take_app h
theorem set_heap (w : World) (g : Nat) (c c' : Array Value) (h : w.heap[g]? = some (.cells c 60 (0, 0))) : (w.setRow g c').heap[g]? = some (.cells c' 60 (0, 0)) := setRow_heap w g c c' 60 (0, 0) h
theorem sub_cell {w : World} {g : Nat} {cur : Array Value} {cs : List Value} {o : Nat} (hg : w.heap[g]? = some (.cells cur 60 (0, 0))) (h : ∀ j u, cs[j]? = some u → cur.toList[o + j]? = some u) : ∀ j u, cs[j]? = some u → w.cell? ((⟨g, o, none⟩ : Addr).add j) = some u := by
  intro j u hu
  rw [add_plain_, cell_of_row w g _ cur 60 (0, 0) hg, ← Array.getElem?_toList]
  exact h j u hu

set_option maxRecDepth 20000 in
set_option maxHeartbeats 4000000 in
theorem delete_any (g n cap i : Nat) (j : Int) (cur : Array Value) (w : World) (hg : w.heap[g]? = some (.cells cur 60 (0, 0))) (hc : cur.size = cap * 3) (hnc : n ≤ cap) (hcap : cap ≤ 9223372036854775807) (hi : i < n) (hj : j = (i : Int) + 1)
    (h1 : ∀ u ∈ cur.toList.take (n * 3), u.oneCell' = true) :
    Calls Try.prog 24 #[.slice (some ⟨g, 0, none⟩) n cap, .int .i64 i, .int .i64 j] w fun e w' => e = .returned (.slice (some ⟨g, 0, none⟩) (n - 1) cap) ∧ Cut w w' g n i cur := by
  obtain ⟨i0, hi0, hz0, hz1, hz2⟩ := info_parts info_E
  subst hj
  have hwr : IntKind.i64.wrap ((i : Int) + 1) = (i : Int) + 1 := by rw [IntKind.wrap_i64]; omega
  have a1 : (0 : Int) ≤ (i : Int) + 1 := by omega
  have a2 : (i : Int) + 1 ≤ n := by omega
  have a3 : ((i : Int) + 1).toNat = i + 1 := by omega
  have a4 : (i : Int) ≤ (i : Int) + 1 := by omega
  have a5 : (i : Int) ≤ n := by omega
  have a6 : (i : Int) ≤ cap := by omega
  have a7 : (i : Int) + 1 ≤ cap := by omega
  have a8 : i ≤ cap := by omega
  have HG := Lib.hid (And.intro hg (And.intro hc h1))
  obtain ⟨l, hl⟩ : ∃ l, l = cur.toList := ⟨_, rfl⟩
  have hll : l.length = cap * 3 := by rw [hl, Array.length_toList, hc]
  obtain ⟨news, hnews⟩ : ∃ news, news = (l.take (n * 3)).drop ((i + 1) * 3) := ⟨_, rfl⟩
  have hnl : news.length = (n - (i + 1)) * 3 := by rw [hnews, List.length_drop, List.length_take]; omega
  have hone : ∀ u ∈ news, u.oneCell' = true := fun u hu => h1 u (by rw [← hl]; rw [hnews] at hu; exact List.mem_of_mem_drop hu)
  have hal : (l.take (i * 3) ++ news).length = (n - 1) * 3 := by rw [List.length_append, List.length_take, hnl]; omega
  obtain ⟨row1, hr1⟩ : ∃ row1 : Array Value, row1 = (l.take (i * 3) ++ news ++ l.drop (i * 3 + news.length)).toArray := ⟨_, rfl⟩
  have hr1l : row1.size = cap * 3 := by rw [hr1]; simp only [List.size_toArray, List.length_append, List.length_take, List.length_drop]; omega
  have hr1t : row1.toList.take ((n - 1) * 3) = l.take (i * 3) ++ news := by rw [hr1]; exact take_app hal
  have hap : ∀ (W : World) (X : Option Addr) (c : Nat), W.heap[g]? = some (.cells cur 60 (0, 0)) → (cap = i + 1 → X = some ⟨g, 0, none⟩) → (¬ cap = i + 1 → X = some ⟨g, (i + 1) * 3, none⟩) → ∀ ty, (Builtin.append_ #[52, 52] ty #[.slice (some ⟨g, 0, none⟩) i cap, .slice X (n - (i + 1)) c]).run Try.prog W = .ok (.slice (some ⟨g, 0, none⟩) (n - 1) cap) (W.setRow g row1) := by
    intro W X c hW hX1 hX2 ty
    obtain ⟨o, ho, hoc⟩ : ∃ o, X = some ⟨g, o, none⟩ ∧ ∀ j u, news[j]? = some u → cur.toList[o + j]? = some u := by
      by_cases hci : cap = i + 1
      · refine ⟨0, hX1 hci, fun j u hu => ?_⟩
        rw [List.getElem?_eq_none (by omega)] at hu
        cases hu
      · refine ⟨_, hX2 hci, fun j u hu => ?_⟩
        rw [hnews, List.getElem?_drop, List.getElem?_take] at hu
        split at hu
        · rw [← hl]; exact hu
        · cases hu
    subst ho
    have h := run_append_room (P := Try.prog) W 52 ty 60 i0 Try.underlying52 hi0 g i cap cur hW ⟨g, o, none⟩ (n - (i + 1)) c news (by rw [hz1]; exact hnl) (sub_cell hW hoc) hone (by omega) (by rw [hz1]; omega)
    rw [hz1, ← hl, ← hr1, show i + (n - (i + 1)) = n - 1 by omega] at h
    exact h
  obtain ⟨row2, hr2⟩ : ∃ row2 : Array Value, row2 = (row1.toList.take ((n - 1) * 3) ++ (Builtin.zeroCells zE.cells 1).toList ++ row1.toList.drop ((n - 1) * 3 + 1 * zE.cells.size)).toArray := ⟨_, rfl⟩
  have hzl : (Builtin.zeroCells zE.cells 1).toList.length = 3 := by rw [zeros_E]; rfl
  have hr2l : row2.size = cap * 3 := by rw [hr2]; simp only [List.size_toArray, List.length_append, List.length_take, List.length_drop, hzl, Array.length_toList, hr1l, zE_size]; omega
  have hr2t : row2.toList.take ((n - 1) * 3) = l.take (i * 3) ++ news := by
    rw [hr2, ← hr1t]
    exact take_app3 (by rw [List.length_take, Array.length_toList, hr1l]; omega)
  have hcl : ∀ (W : World), W.heap[g]? = some (.cells row1 60 (0, 0)) → ∀ ty c, (Builtin.clear_ #[52] ty #[.slice (some ⟨g, (n - 1) * 3, none⟩) 1 c]).run Try.prog W = .ok (.tuple #[]) (W.setRow g row2) := by
    intro W hW ty c
    have h := run_clear_rowK (P := Try.prog) W 52 ty 60 i0 zE g ((n - 1) * 3) 1 c row1 60 Try.underlying52 hi0 hz0 (by omega) hW (by rw [hr1l, zE_size]; omega) (by rw [zeros_E]; intro v hv; simp at hv; rcases hv with rfl | rfl | rfl <;> rfl)
    rw [← hr2] at h
    exact h
  have HAP := Lib.hid hap
  have HCL := Lib.hid hcl
  have HRT := Lib.hid (And.intro hr2t (And.intro hr2l (And.intro hnews hl)))
  have hci1 : ¬ cap = n - 1 := by omega
  have hn1 : (n : Int) - 1 = ((n - 1 : Nat) : Int) := by omega
  have hn2 : n - (n - 1) = 1 := by omega
  have b1 : ((n - 1 : Nat) : Int) ≤ n := by omega
  have b2 : n - 1 ≤ n := by omega
  have b3 : n - 1 ≤ cap := by omega
  have b4 : (n : Int) ≤ cap := by omega
  clear hg hc h1 hap hcl hr2t hr2l hr2 hzl hr1t hr1l hr1 hal hone hnl hnews hll hl
  go_enter Try.func24, Try.ntmps24
  go_wp2_with fail
  refine wp_region_ord (fun _ => True) 7 [(true, 0), (true, 1), (true, 2), (true, 3), (true, 4), (true, 5), (false, 6)] default (by kernel_rfl) (by kernel_rfl) (fun d _ _ _ _ h => by cases d <;> exact h) trivial ?_
  simp only [List.map_cons, List.map_nil, List.getD_cons_succ, List.getD_cons_zero]
  repeat
    (refine heldL_take ?_ ?_ ?_
     rotate_left
     · intro w' hw'
       clear hw'
       go_simp
       try with_reducible rfl
     try simp only [Act.put, List.setIfInBounds_toArray, List.set_cons_zero, List.set_cons_succ])
  refine heldL_move (fun K hK => ?_)
  refine Go.Lib.wp_append_run _ (.tmp 22) (.tmp 25) 52 52 (by rfl) _ _ (by rfl) (by rfl) _ _ (HAP.out w.drew _ _ (by exact HG.out.1) (by intro h; simp [h]) (by intro h; simp [h]) _) ?_
  refine hK.out _ _ trivial (fun hS => ?_)
  clear hK K hS
  try simp only [Act.put, List.setIfInBounds_toArray, List.set_cons_zero, List.set_cons_succ]
  refine heldL_last (fun K hK => ?_)
  go_simp
  refine hK _ _ ?_
  clear hK K
  try simp only [Act.put, List.setIfInBounds_toArray, List.set_cons_zero, List.set_cons_succ]
  have hW1 : (w.drew.setRow g row1).heap[g]? = some (.cells row1 60 (0, 0)) := set_heap w.drew g cur row1 HG.out.1
  have O1 : Only [g] w (w.drew.setRow g row1) := ((Only.refl [g] w).drew).trans_ (only_setRow _ _ _)
  generalize w.drew.setRow g row1 = W1 at *
  have hcl1 := HCL.out W1 hW1
  have H1 := Lib.hid (And.intro hW1 O1)
  clear hW1 O1
  go_wp2_with fail
  all_goals have FIN : Cut w (W1.setRow g row2) g n i cur := ⟨⟨row2, set_heap W1 g row1 row2 H1.out.1, by rw [HRT.out.2.1, HG.out.2.1], by rw [HRT.out.1, HRT.out.2.2.1, HRT.out.2.2.2]⟩, H1.out.2.trans_ (only_setRow _ _ _)⟩
  all_goals go_ret
  all_goals exact ⟨by first | rfl | (subst_vars; rfl), FIN⟩

/-- What Insert leaves: the new slice owns the row with one more in it. -/
def Inserted (base : Nat) (w : World) (A : Option Addr) (n cap i : Nat) (xs vs : List Value) (e : Ending) (w' : World) : Prop :=
  ∃ A' cap', e = .returned (.slice A' (n + 1) cap') ∧ w'.ownsRow base 60 3 (.slice A' (n + 1) cap') (n + 1) (xs.take (i * 3) ++ vs ++ xs.drop (i * 3)) ∧ w.grownBy w' (Value.slice A n cap).ownBlock ∧
    ((Value.slice A' (n + 1) cap').ownBlock = (Value.slice A n cap).ownBlock ∨ ∀ k, (Value.slice A' (n + 1) cap').ownBlock = some k → w.heap.size ≤ k)

set_option maxHeartbeats 4000000 in
/-- At the end: append. -/
theorem insert_end (base : Nat) (A : Option Addr) (n cap vb : Nat) (xs vs : List Value) (w : World) (hown : w.ownsRow base 60 3 (.slice A n cap) n xs) (hv : Blk w vb 60 vs.toArray) (hvl : vs.length = 3) (hv1 : ∀ u ∈ vs, u.oneCell' = true) (hn : n ≤ 100000) (hbase : base ≤ w.heap.size) :
    Calls Try.prog 23 #[.slice A n cap, .int .i64 n, .slice (some ⟨vb, 0, none⟩) 1 1] w (Inserted base w A n cap n xs vs) := by
  obtain ⟨i0, hi0, hz0, hz1, hz2⟩ := info_parts info_E
  have hxl := hown.1
  have HR : Hid (Reads w w.heap.size 3 (some ⟨vb, 0, none⟩) 1 vs) := ⟨by rw [hvl], fun _ => ⟨_, rfl, Blk.lt hv, fun j u hu => by rw [add_plain_, Blk.cell hv, Nat.zero_add]; simpa using hu⟩⟩
  have HO := Lib.hid hown
  have hnc : n ≤ cap ∧ cap ≤ 9223372036854775807 ∧ (cap = n → A = none ∨ True) := by
    rcases hown.2 with ⟨hx, h0⟩ | ⟨g, c, cur, hx, _, _, h1, h2, _⟩
    · injection hx with h1 h2 h3; exact ⟨by omega, by omega, fun _ => .inr trivial⟩
    · injection hx with _ _ h3; subst h3; exact ⟨h1, by unfold maxLen at h2; omega, fun _ => .inr trivial⟩
  obtain ⟨hnc1, hnc2, _⟩ := hnc
  clear hv hown
  have hnn : (n : Int) ≤ n := by omega
  go_enter Try.func23, Try.ntmps23
  go_wp2_with (first
    | (at_builtin
       refine wpList_append_any _ rfl (.tmp 23) (.tmp 24) _ rfl base 60 i0 _ 3 24 Try.underlying52 hi0 hz0 hz1 hz2 rfl (by omega) (.slice A n cap) n xs rfl HO.out w.heap.size (some ⟨vb, 0, none⟩) 1 1 vs rfl HR.out hv1 (by simp only [maxLen]; omega) (by omega) hbase ?_
       intro v1 w1 hn1 hg1 hd1
       obtain ⟨A1, k1, rfl⟩ := slice_of_own' hn1))
  all_goals go_ret
  all_goals (try (have hcn : cap = n := by assumption); try subst hcn)
  all_goals exact ⟨A1, k1, rfl, by rw [List.take_of_length_le (by omega), List.drop_eq_nil_of_le (by omega), List.append_nil]; exact hn1, hg1, by
    rcases hd1 with h | h
    · exact .inl h
    · exact .inr (fun k hk => by rw [h] at hk; injection hk with hk; omega)⟩

theorem blk_shape {w : World} {g : Nat} {t : TypeId} {cs : Array Value} (h : Blk w g t cs) : w.shape? g = some (t, cs.size) := by
  unfold Blk at h
  simp [World.shape?, h]
theorem own_of_row {w : World} {base g n cap : Nat} {row : Array Value} {xs : List Value} (hg : w.heap[g]? = some (.cells row 60 (0, 0))) (hb : base ≤ g) (hn : n ≤ cap) (hm : cap ≤ maxLen) (hs : row.size = cap * 3) (hx : row.toList.take (n * 3) = xs) :
    w.ownsRow base 60 3 (.slice (some ⟨g, 0, none⟩) n cap) n xs :=
  ⟨by rw [← hx, List.length_take, Array.length_toList, hs]; omega, .inr ⟨g, cap, row, rfl, hb, hg, hn, hm, hs, hx⟩⟩
theorem grown_of_only {w w' : World} {g : Nat} (o : Only [g] w w') : w.grownBy w' (some g) := ⟨o.os, o.tape, o.output, o.size, fun k hk hn => o.block k hk (by simpa using fun e : k = g => hn (by rw [e]))⟩

set_option maxRecDepth 20000 in
set_option maxHeartbeats 8000000 in
/-- In the midst, where there is room. -/
theorem insert_room (base g n cap i vb : Nat) (cur : Array Value) (vs : List Value) (w : World) (hg : w.heap[g]? = some (.cells cur 60 (0, 0))) (hc : cur.size = cap * 3) (hb : base ≤ g) (hroom : n + 1 ≤ cap) (hcap : cap ≤ 9223372036854775807) (hi : i < n)
    (h1 : ∀ u ∈ cur.toList.take (n * 3), u.oneCell' = true) (hv : Blk w vb 60 vs.toArray) (hvl : vs.length = 3) (hv1 : ∀ u ∈ vs, u.oneCell' = true) (hne : vb ≠ g) :
    Calls Try.prog 23 #[.slice (some ⟨g, 0, none⟩) n cap, .int .i64 i, .slice (some ⟨vb, 0, none⟩) 1 1] w (Inserted base w (some ⟨g, 0, none⟩) n cap i (cur.toList.take (n * 3)) vs) := by
  obtain ⟨i0, hi0, hz0, hz1, hz2⟩ := info_parts info_E
  have hsz : (Try.prog.info? 60).map (·.size) = some 3 := by rw [hi0]; simp [hz1]
  have HG := Lib.hid (And.intro hg hc)
  obtain ⟨l, hl⟩ : ∃ l, l = cur.toList := ⟨_, rfl⟩
  have hll : l.length = cap * 3 := by rw [hl, Array.length_toList, hc]
  obtain ⟨xs, hxs⟩ : ∃ xs, xs = l.take (n * 3) := ⟨_, rfl⟩
  have hxl : xs.length = n * 3 := by rw [hxs, List.length_take]; omega
  obtain ⟨cs, hcs⟩ : ∃ cs, cs = xs.drop (i * 3) := ⟨_, rfl⟩
  have hcl : cs.length = (n - i) * 3 := by rw [hcs, List.length_drop, hxl]; omega
  have hone : ∀ u ∈ cs, u.oneCell' = true := fun u hu => h1 u (by rw [← hl, ← hxs]; rw [hcs] at hu; exact List.mem_of_mem_drop hu)
  rw [← hl, ← hxs]
  obtain ⟨row1, hr1⟩ : ∃ row1 : Array Value, row1 = (l.take ((i + 1) * 3) ++ cs ++ l.drop ((i + 1) * 3 + cs.length)).toArray := ⟨_, rfl⟩
  have hr1l : row1.size = cap * 3 := by rw [hr1]; simp only [List.size_toArray, List.length_append, List.length_take, List.length_drop]; omega
  obtain ⟨row2, hr2⟩ : ∃ row2 : Array Value, row2 = (row1.toList.take (i * 3) ++ vs ++ row1.toList.drop (i * 3 + vs.length)).toArray := ⟨_, rfl⟩
  have hr2l : row2.size = cap * 3 := by rw [hr2]; simp only [List.size_toArray, List.length_append, List.length_take, List.length_drop, Array.length_toList]; omega
  have hr2t : row2.toList.take ((n + 1) * 3) = xs.take (i * 3) ++ vs ++ xs.drop (i * 3) := by
    have e1 : row1.toList.take (i * 3) = xs.take (i * 3) := by
      rw [hr1, List.append_assoc, List.take_append_of_le_length (by rw [List.length_take]; omega), List.take_take, hxs, List.take_take]
      congr 1
      omega
    have e2 : row1.toList.drop (i * 3 + vs.length) = cs ++ l.drop ((i + 1) * 3 + cs.length) := by
      rw [hr1, List.append_assoc, hvl, show i * 3 + 3 = (i + 1) * 3 by omega]
      have : (l.take ((i + 1) * 3)).length = (i + 1) * 3 := by rw [List.length_take]; omega
      rw [List.drop_append_of_le_length (by omega), List.drop_eq_nil_of_le (by omega), List.nil_append]
    rw [hr2, e1, e2, ← List.append_assoc, ← hcs]
    exact take_app (by simp only [List.length_append, List.length_take, hxl, hvl, hcl]; omega)
  have HOV := Lib.hid (show ∀ lb cb, (callFunc 45 #[.slice (some ⟨vb, 0, none⟩) 1 1, .slice (some ⟨g, (i + 1) * 3, none⟩) lb cb]).run Try.prog w = .ok (.value (.bool false)) w from fun lb cb => by
    rw [run_callFunc_extern Try.func45 (by kernel_rfl) (by kernel_rfl) (by kernel_rfl) (e := Extern.SlicesOverlaps.overlaps #[52, 52] #[4]) (by kernel_rfl),
      Lib.run_overlaps_apart w 52 4 60 Try.underlying52 3 (fun _ => by kernel_rfl) ⟨vb, 0, none⟩ ⟨g, (i + 1) * 3, none⟩ 1 1 lb cb (by simpa using hne) _ _ _ _ (blk_shape hv) (blk_shape hg) (by rw [hc]; omega) (Blk.frozen hv 0) (Blk.frozen hv _)]
    rfl)
  have HCP1 := Lib.hid (show ∀ (W : World) dc sc, W.heap[g]? = some (.cells cur 60 (0, 0)) → ∀ ty, (Builtin.copy_ #[52, 52] ty #[.slice (some ⟨g, (i + 1) * 3, none⟩) (n - i) dc, .slice (some ⟨g, i * 3, none⟩) (n + 1 - i) sc]).run Try.prog W = .ok (goInt ((n - i : Nat) : Int)) (W.setRow g row1) from fun W dc sc hW ty => by
    have h := run_copy_rowK (P := Try.prog) W 52 52 ty 60 3 g ((i + 1) * 3) (n - i) dc ⟨g, i * 3, none⟩ (n + 1 - i) sc cur 60 cs (n - i) Try.underlying52 hsz hW (by simp only [Nat.min_def]; split <;> omega) hcl (sub_cell hW (fun j u hu => by
      rw [hcs, List.getElem?_drop, hxs, List.getElem?_take] at hu
      split at hu
      · rw [← hl]; exact hu
      · cases hu)) (by rw [hc]; omega) hone
    rw [← hl, ← hr1] at h
    exact h)
  have HCP2 := Lib.hid (show ∀ (W : World) dc, W.heap[g]? = some (.cells row1 60 (0, 0)) → W.heap[vb]? = w.heap[vb]? → ∀ ty, (Builtin.copy_ #[52, 52] ty #[.slice (some ⟨g, i * 3, none⟩) (n + 1 - i) dc, .slice (some ⟨vb, 0, none⟩) 1 1]).run Try.prog W = .ok (goInt 1) (W.setRow g row2) from fun W dc hW hWv ty => by
    have h := run_copy_rowK (P := Try.prog) W 52 52 ty 60 3 g (i * 3) (n + 1 - i) dc ⟨vb, 0, none⟩ 1 1 row1 60 vs 1 Try.underlying52 hsz hW (by simp only [Nat.min_def]; split <;> omega) (by rw [hvl]) (fun j u hu => by
      have hv2 : Blk W vb 60 vs.toArray := by unfold Blk; rw [hWv]; exact hv
      rw [add_plain_, Blk.cell hv2, Nat.zero_add]; simpa using hu) (by rw [hr1l, hvl]; omega) hv1
    rw [← hr2] at h
    exact h)
  have HFIN := Lib.hid (And.intro hr2t (And.intro hr2l hne))
  have hgl := lt_of_blk hg
  have n0 : ¬ ((i : Int) = n) := by omega
  have n1 : ¬ cap = i := by omega
  have n2 : ¬ cap = i + 1 := by omega
  have n3 : (n : Int) + 1 ≤ cap := by omega
  have n4 : (i : Int) + 1 ≤ (n : Int) + 1 := by omega
  have n5 : n + 1 - (i + 1) = n - i := by omega
  have n6 : (i : Int) ≤ (n : Int) + 1 := by omega
  have n7 : ((n : Int) + 1).toNat = n + 1 := by omega
  have n8 : ((i : Int) + 1).toNat = i + 1 := by omega
  have n9 : (i : Int) ≤ n := by omega
  have m1 : IntKind.i64.wrap ((i : Int) + 1) = (i : Int) + 1 := by rw [IntKind.wrap_i64]; omega
  have m2 : IntKind.i64.wrap ((n : Int) + 1) = (n : Int) + 1 := by rw [IntKind.wrap_i64]; omega
  have m3 : ¬ ((cap : Int) < (n : Int) + 1) := by omega
  have m4 : (0 : Int) ≤ (i : Int) + 1 := by omega
  have m5 : (0 : Int) ≤ (n : Int) + 1 := by omega
  clear hg hc h1 hv hv1 hone hr2t hr2l hr2 hr1l hr1 hcl hcs hxl hxs hll hl hvl hsz
  have hov := HOV.out
  go_enter Try.func23, Try.ntmps23
  go_wp2_with fail
  clear hov
  refine wp_region_ord (fun _ => True) 8 [(true, 0), (true, 1), (true, 2), (true, 3), (true, 4), (true, 5), (true, 6), (true, 7)] default (by kernel_rfl) (by kernel_rfl) (fun d _ _ _ _ h => by cases d <;> exact h) trivial ?_
  simp only [List.map_cons, List.map_nil, List.getD_cons_succ, List.getD_cons_zero]
  repeat
    (refine heldL_take ?_ ?_ ?_
     rotate_left
     · intro w' hw'
       clear hw'
       go_simp
       try with_reducible rfl
     try simp only [Act.put, List.setIfInBounds_toArray, List.set_cons_zero, List.set_cons_succ])
  refine heldL_last (fun K hK => ?_)
  refine wp_copy_run _ (.tmp 73) (.tmp 76) 52 52 (by rfl) _ _ (by rfl) (by rfl) _ _ (HCP1.out w.drew _ _ (by exact HG.out.1) _) ?_
  refine hK _ _ ?_
  clear hK K
  try simp only [Act.put, List.setIfInBounds_toArray, List.set_cons_zero, List.set_cons_succ]
  have hW1 : (w.drew.setRow g row1).heap[g]? = some (.cells row1 60 (0, 0)) := set_heap w.drew g cur row1 HG.out.1
  have hV1 : (w.drew.setRow g row1).heap[vb]? = w.heap[vb]? := setRow_other w.drew g vb row1 HFIN.out.2.2
  have O1 : Only [g] w (w.drew.setRow g row1) := ((Only.refl [g] w).drew).trans_ (only_setRow _ _ _)
  generalize w.drew.setRow g row1 = W1 at *
  have H1 := Lib.hid (And.intro hW1 (And.intro hV1 O1))
  clear hW1 hV1 O1
  go_wp2_with (first
    | (with_reducible refine wpList_copy_run _ rfl (.tmp 80) (.tmp 81) 52 52 rfl _ _ rfl rfl _ _ (HCP2.out W1 _ H1.out.1 H1.out.2.1 _) ?_))
  go_ret
  refine ⟨some ⟨g, 0, none⟩, cap, rfl, own_of_row (set_heap W1 g row1 row2 H1.out.1) hb hroom (by unfold maxLen; omega) HFIN.out.2.1 HFIN.out.1, ?_, .inl rfl⟩
  exact grown_of_only (H1.out.2.2.trans_ (only_setRow _ _ _))

set_option maxRecDepth 20000 in
set_option maxHeartbeats 8000000 in
/-- In the midst, where there is no room: a new row. -/
theorem insert_grow (base g n i vb : Nat) (cur : Array Value) (vs : List Value) (w : World) (hg : w.heap[g]? = some (.cells cur 60 (0, 0))) (hc : cur.size = n * 3) (hbw : base ≤ w.heap.size) (hn : n ≤ 100000) (hi : i < n)
    (h1 : ∀ u ∈ cur.toList.take (n * 3), u.oneCell' = true) (hv : Blk w vb 60 vs.toArray) (hvl : vs.length = 3) (hv1 : ∀ u ∈ vs, u.oneCell' = true) :
    Calls Try.prog 23 #[.slice (some ⟨g, 0, none⟩) n n, .int .i64 i, .slice (some ⟨vb, 0, none⟩) 1 1] w (Inserted base w (some ⟨g, 0, none⟩) n n i (cur.toList.take (n * 3)) vs) := by
  obtain ⟨i0, hi0, hz0, hz1, hz2⟩ := info_parts info_E
  have hsz : (Try.prog.info? 60).map (·.size) = some 3 := by rw [hi0]; simp [hz1]
  have HG := Lib.hid (And.intro hg hc)
  obtain ⟨l, hl⟩ : ∃ l, l = cur.toList := ⟨_, rfl⟩
  have hll : l.length = n * 3 := by rw [hl, Array.length_toList, hc]
  obtain ⟨xs, hxs⟩ : ∃ xs, xs = l.take (n * 3) := ⟨_, rfl⟩
  have hxl : xs.length = n * 3 := by rw [hxs, List.length_take]; omega
  obtain ⟨cs, hcs⟩ : ∃ cs, cs = xs.drop (i * 3) := ⟨_, rfl⟩
  have hcl : cs.length = (n - i) * 3 := by rw [hcs, List.length_drop, hxl]; omega
  have hone : ∀ u ∈ cs, u.oneCell' = true := fun u hu => h1 u (by rw [← hl, ← hxs]; rw [hcs] at hu; exact List.mem_of_mem_drop hu)
  rw [← hl, ← hxs]
  have hwl := lt_of_blk hg
  have hvw := Blk.lt hv
  have hold : (Builtin.firstCells i0.size i (.slice (some ⟨g, 0, none⟩) i n)).run Try.prog w.drew = .ok (xs.take (i * 3)).toArray w.drew := by
    rw [hz1]
    exact run_firstCells_some w.drew 3 i ⟨g, 0, none⟩ i n (xs.take (i * 3)) (by rw [List.length_take]; omega) (sub_cell (w := w.drew) hg (fun j u hj => by
      rw [Nat.zero_add, ← hl]
      rw [List.getElem?_take] at hj
      split at hj
      · rw [hxs, List.getElem?_take] at hj
        split at hj
        · exact hj
        · cases hj
      · cases hj))
  obtain ⟨G, hG⟩ : ∃ G, G = grownCap w (n + 1) n 60 := ⟨_, rfl⟩
  have hGn : n + 1 ≤ G := by rw [hG]; exact grownCap_ge w _ _ _
  have hG63 : G ≤ maxLen := by rw [hG]; exact grownCap_le_maxLen w (n + 1) n 60 (by unfold maxLen; omega)
  obtain ⟨row0, hr0⟩ : ∃ row0 : Array Value, row0 = (xs.take (i * 3)).toArray ++ Builtin.zeroCells zE.cells (n + 1 - i) ++ Builtin.zeroCells zE.cells (G - (n + 1)) := ⟨_, rfl⟩
  have hr0l : row0.size = G * 3 := by rw [hr0]; simp only [Array.size_append, List.size_toArray, List.length_take, size_zeroCells, zE_size, hxl]; omega
  have hr0t : row0.toList.take (i * 3) = xs.take (i * 3) := by
    rw [hr0]
    simp only [Array.toList_append]
    exact take_app3 (by rw [List.length_take]; omega)
  obtain ⟨W1, hW1⟩ : ∃ W1, W1 = w.drew.alloc (.cells row0 60) := ⟨_, rfl⟩
  have HAP := Lib.hid (show ∀ ty, (Builtin.append_ #[52, 3] ty #[.slice (some ⟨g, 0, none⟩) i n, .int .i64 ((n : Int) + 1 - (i : Int))]).run Try.prog w = .ok (.slice (some ⟨w.heap.size, 0, none⟩) (n + 1) G) W1 from fun ty => by
    have hkk : (n : Int) + 1 - (i : Int) = ((n + 1 - i : Nat) : Int) := by omega
    have hik : i + (n + 1 - i) = n + 1 := by omega
    have h := Lib.run_append_grow_zeros w 52 3 ty 60 i0 _ .i64 .i64 Try.underlying52 Try.underlying3 hi0 hz0 (some ⟨g, 0, none⟩) i n (xs.take (i * 3)) hold (n + 1 - i) (by omega) (by omega) (by omega) (by omega) (by rw [hz2]; omega) (by rw [hz2, hik]; exact growslice_fits (by omega) (by omega))
    rw [hik, ← hG] at h
    rw [hkk, hW1, hr0]
    exact h)
  obtain ⟨row1, hr1⟩ : ∃ row1 : Array Value, row1 = (row0.toList.take (i * 3) ++ vs ++ row0.toList.drop (i * 3 + vs.length)).toArray := ⟨_, rfl⟩
  have hr1l : row1.size = G * 3 := by rw [hr1]; simp only [List.size_toArray, List.length_append, List.length_take, List.length_drop, Array.length_toList]; omega
  have hr1t : row1.toList.take ((i + 1) * 3) = xs.take (i * 3) ++ vs := by
    rw [hr1, hr0t]
    exact take_app (by rw [List.length_append, List.length_take]; omega)
  obtain ⟨row2, hr2⟩ : ∃ row2 : Array Value, row2 = (row1.toList.take ((i + 1) * 3) ++ cs ++ row1.toList.drop ((i + 1) * 3 + cs.length)).toArray := ⟨_, rfl⟩
  have hr2l : row2.size = G * 3 := by rw [hr2]; simp only [List.size_toArray, List.length_append, List.length_take, List.length_drop, Array.length_toList]; omega
  have hr2t : row2.toList.take ((n + 1) * 3) = xs.take (i * 3) ++ vs ++ xs.drop (i * 3) := by
    rw [hr2, hr1t, ← hcs]
    exact take_app (by simp only [List.length_append, List.length_take, hxl, hvl, hcl]; omega)
  have HCP1 := Lib.hid (show ∀ (W : World) dc, W.heap[w.heap.size]? = some (.cells row0 60 (0, 0)) → W.heap[vb]? = w.heap[vb]? → ∀ ty, (Builtin.copy_ #[52, 52] ty #[.slice (some ⟨w.heap.size, i * 3, none⟩) (n + 1 - i) dc, .slice (some ⟨vb, 0, none⟩) 1 1]).run Try.prog W = .ok (goInt 1) (W.setRow w.heap.size row1) from fun W dc hW hWv ty => by
    have h := run_copy_rowK (P := Try.prog) W 52 52 ty 60 3 w.heap.size (i * 3) (n + 1 - i) dc ⟨vb, 0, none⟩ 1 1 row0 60 vs 1 Try.underlying52 hsz hW (by simp only [Nat.min_def]; split <;> omega) (by rw [hvl]) (fun j u hu => by
      have hv2 : Blk W vb 60 vs.toArray := by unfold Blk; rw [hWv]; exact hv
      rw [add_plain_, Blk.cell hv2, Nat.zero_add]; simpa using hu) (by rw [hr0l, hvl]; omega) hv1
    rw [← hr1] at h
    exact h)
  have HCP2 := Lib.hid (show ∀ (W : World) dc sc, W.heap[w.heap.size]? = some (.cells row1 60 (0, 0)) → W.heap[g]? = w.heap[g]? → ∀ ty, (Builtin.copy_ #[52, 52] ty #[.slice (some ⟨w.heap.size, (i + 1) * 3, none⟩) (n - i) dc, .slice (some ⟨g, i * 3, none⟩) (n - i) sc]).run Try.prog W = .ok (goInt ((n - i : Nat) : Int)) (W.setRow w.heap.size row2) from fun W dc sc hW hWg ty => by
    have h := run_copy_rowK (P := Try.prog) W 52 52 ty 60 3 w.heap.size ((i + 1) * 3) (n - i) dc ⟨g, i * 3, none⟩ (n - i) sc row1 60 cs (n - i) Try.underlying52 hsz hW (by simp only [Nat.min_def]; split <;> omega) hcl (sub_cell (hWg.trans hg) (fun j u hu => by
      rw [hcs, List.getElem?_drop, hxs, List.getElem?_take] at hu
      split at hu
      · rw [← hl]; exact hu
      · cases hu)) (by rw [hr1l, hcl]; omega) hone
    rw [← hr2] at h
    exact h)
  have HFIN := Lib.hid (And.intro hr2t (And.intro hr2l hG63))
  have n0 : ¬ ((i : Int) = n) := by omega
  have n1 : ¬ n = i := by omega
  have n3 : (n : Int) < (n : Int) + 1 := by omega
  have n4 : (i : Int) + 1 ≤ (n : Int) + 1 := by omega
  have n5 : n + 1 - (i + 1) = n - i := by omega
  have n6 : (i : Int) ≤ (n : Int) + 1 := by omega
  have n8 : ((i : Int) + 1).toNat = i + 1 := by omega
  have n9 : (i : Int) ≤ n := by omega
  have p1 : ¬ G = i := by omega
  have p2 : ¬ G = i + 1 := by omega
  have p3 : (i : Int) + 1 ≤ G := by omega
  have p4 : (i : Int) ≤ G := by omega
  have p5 : i ≤ n := by omega
  have m1 : IntKind.i64.wrap ((i : Int) + 1) = (i : Int) + 1 := by rw [IntKind.wrap_i64]; omega
  have m4 : (0 : Int) ≤ (i : Int) + 1 := by omega
  have H1 : Hid (W1.heap[w.heap.size]? = some (.cells row0 60 (0, 0)) ∧ W1.heap[vb]? = w.heap[vb]? ∧ W1.heap[g]? = w.heap[g]? ∧ Only [] w W1) := by
    subst hW1
    exact ⟨heap_alloc_new w.drew _, Below.heap_alloc w.drew _ _ hvw, Below.heap_alloc w.drew _ _ hwl, (Only.refl [] w).drew.alloc _⟩
  clear hg hc h1 hv hv1 hone hr2t hr2l hr2 hr1l hr1 hr1t hr0t hr0l hr0 hcl hcs hxl hxs hll hl hvl hsz hold hG63 hG hW1
  go_enter Try.func23, Try.ntmps23
  go_wp2_with (first
    | (at_builtin; with_reducible refine Lib.wpList_append_run _ rfl (.tmp 34) (.tmp 39) 52 3 rfl _ _ rfl rfl _ _ (HAP.out _) ?_)
    | (with_reducible refine wpList_copy_run _ rfl (.tmp 43) (.tmp 44) 52 52 rfl _ _ rfl rfl _ _ (HCP1.out W1 _ H1.out.1 H1.out.2.1 _) ?_))
  have H2 : Hid ((W1.setRow w.heap.size row1).heap[w.heap.size]? = some (.cells row1 60 (0, 0)) ∧ (W1.setRow w.heap.size row1).heap[g]? = w.heap[g]? ∧ Only [] w (W1.setRow w.heap.size row1)) := by
    refine ⟨set_heap W1 _ row0 row1 H1.out.1, (setRow_other W1 w.heap.size g row1 (by omega)).trans H1.out.2.2.1, H1.out.2.2.2.trans (only_setRow _ _ _) (fun k hk => .inr (by simp at hk; omega))⟩
  generalize W1.setRow w.heap.size row1 = W2 at *
  refine wp_region_ord (fun _ => True) 8 [(true, 0), (true, 1), (true, 2), (true, 3), (true, 4), (true, 5), (true, 6), (true, 7)] default (by kernel_rfl) (by kernel_rfl) (fun d _ _ _ _ h => by cases d <;> exact h) trivial ?_
  simp only [List.map_cons, List.map_nil, List.getD_cons_succ, List.getD_cons_zero]
  repeat
    (refine heldL_take ?_ ?_ ?_
     rotate_left
     · intro w' hw'
       clear hw'
       go_simp
       try with_reducible rfl
     try simp only [Act.put, List.setIfInBounds_toArray, List.set_cons_zero, List.set_cons_succ])
  refine heldL_last (fun K hK => ?_)
  refine wp_copy_run _ (.tmp 50) (.tmp 53) 52 52 (by rfl) _ _ (by rfl) (by rfl) _ _ (HCP2.out W2.drew _ _ (by exact H2.out.1) (by exact H2.out.2.1) _) ?_
  refine hK _ _ ?_
  clear hK K
  try simp only [Act.put, List.setIfInBounds_toArray, List.set_cons_zero, List.set_cons_succ]
  have FIN : Hid ((W2.drew.setRow w.heap.size row2).heap[w.heap.size]? = some (.cells row2 60 (0, 0)) ∧ Only [] w (W2.drew.setRow w.heap.size row2)) :=
    ⟨set_heap W2.drew _ row1 row2 H2.out.1, (H2.out.2.2.drew).trans (only_setRow _ _ _) (fun k hk => .inr (by simp at hk; omega))⟩
  generalize W2.drew.setRow w.heap.size row2 = W3 at *
  go_wp2_with fail
  go_ret
  refine ⟨some ⟨w.heap.size, 0, none⟩, G, rfl, own_of_row FIN.out.1 hbw hGn HFIN.out.2.2 HFIN.out.2.1 HFIN.out.1, ?_, .inr (fun k hk => by simp [Value.ownBlock] at hk; omega)⟩
  exact ⟨FIN.out.2.os, FIN.out.2.tape, FIN.out.2.output, FIN.out.2.size, fun k hk _ => FIN.out.2.block k hk (by simp)⟩

/-- Insert of one element, wherever. -/
theorem insert_any (base : Nat) (A : Option Addr) (n cap i vb : Nat) (x : Int) (xs vs : List Value) (w : World) (hown : w.ownsRow base 60 3 (.slice A n cap) n xs) (hx1 : ∀ u ∈ xs, u.oneCell' = true) (hv : Blk w vb 60 vs.toArray) (hvl : vs.length = 3) (hv1 : ∀ u ∈ vs, u.oneCell' = true)
    (hne : (Value.slice A n cap).ownBlock ≠ some vb) (hi : i ≤ n) (hx : x = (i : Int)) (hn : n ≤ 100000) (hcap : cap ≤ 9223372036854775807) (hbase : base ≤ w.heap.size) :
    Calls Try.prog 23 #[.slice A n cap, .int .i64 x, .slice (some ⟨vb, 0, none⟩) 1 1] w (Inserted base w A n cap i xs vs) := by
  subst hx
  rcases Nat.lt_or_ge i n with hlt | hge
  · rcases hown.2 with ⟨hv', h0⟩ | ⟨g, c, cur, hv', hg, hh, hnc, hcm, hsz, ht⟩
    · omega
    · injection hv' with e1 e2 e3
      subst e1 e3
      rw [← ht]
      rcases Nat.lt_or_ge n cap with hr | hr
      · exact insert_room base g n cap i vb cur vs w hh hsz hg (by omega) hcap hlt (by rw [ht]; exact hx1) hv hvl hv1 (fun e => hne (by rw [e]; rfl))
      · obtain rfl : cap = n := by omega
        exact insert_grow base g cap i vb cur vs w hh hsz hbase hn hlt (by rw [ht]; exact hx1) hv hvl hv1
  · obtain rfl : i = n := by omega
    exact insert_end base A i cap vb xs vs w hown hv hvl hv1 hn hbase

end Go.Proofs.Ytpbahmnlhckgbaa
