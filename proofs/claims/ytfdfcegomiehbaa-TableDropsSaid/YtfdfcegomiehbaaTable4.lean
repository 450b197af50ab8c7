/- The walks of package table, the answer's own rows. -/
import Derived.Test.YtfdfcegomiehbaaRows
import Derived.WalkKit
import Derived.ProofKit
import Derived.Handy
import Derived.Test.YtfdfcegomiehbaaMem
import Derived.Test.YtfdfcegomiehbaaLift
import Derived.Test.YtfdfcegomiehbaaApp
import Derived.Test.YtfdfcegomiehbaaReads
import Derived.Test.YtfdfcegomiehbaaOrd
import Derived.Test.YtfdfcegomiehbaaRow
import Derived.Test.YtfdfcegomiehbaaIns
import Derived.Test.YtfdfcegomiehbaaTable
import Derived.Test.YtfdfcegomiehbaaTable2
import Derived.Test.YtfdfcegomiehbaaInts
import Derived.Test.YtfdfcegomiehbaaTable3
import Derived.Deep.QuietTactic
import Derived.BigQuiet
import Derived.Deep.RegionWith
import Derived.Deep.RegionHeld3
import Derived.Deep.AppendLies
import Derived.WalkLawsBesides
import Derived.WalkSmall
namespace Go.Proofs.Ytfdfcegomiehbaa
open Go.RowKit
set_option linter.unusedVariables false

theorem info_IT : (Try.prog.info? 47).map (fun i => (i.zero, i.size, i.bytes)) = some (some (.agg #[.int .i64 0, .int .i64 0]), 2, 16) := by kernel_rfl
theorem ret_cell1 {P : Program} {fn : Func} {R : Ending → World → Prop} {a : Act} {W : World} {p : Tmp} {ty t : TypeId} {g : Nat} {x : Value} (h : fn.results = #[.cell p ty]) (hd : a.defers = [])
    (hp : a.tmps.getD p undef = .pointer (some ⟨g, 0, none⟩)) (hB : Blk W g t #[x])
    (hl : ∀ W' : World, W'.cell? ⟨g, 0, none⟩ = some x → (loadVar ty ⟨g, 0, none⟩).run P W' = .ok (.agg #[x]) W')
    (hR : R (.returned (.agg #[x])) W) : bodyPost P fn R .ret a W := by
  refine bodyPost_ret (v := .agg #[x]) ?_ hd hR
  have hr : (results fn a.tmps).run P W = ((asAddr (a.tmps.getD p undef)).run P W).andThen fun a w₁ => (loadVar ty a).run P w₁ := by
    simp only [results, h]
    simp [Sem.run_bind, Result.andThen]
  rw [hr, hp]
  show (loadVar ty ⟨g, 0, none⟩).run P W = _
  exact hl W (Blk.cell hB 0)
/-- An element's two cells. -/
theorem held_prs {w : World} {e : TypeId} {A : Option Addr} {n c : Nat} {l : List (Int × Int)} (h : Held w e 2 A n c (prs l)) {i : Nat} (hi : i < l.length) :
    ∃ b off, A = some ⟨b, off, none⟩ ∧ b < w.heap.size ∧ w.cell? ⟨b, off + i * 2, none⟩ = some (.int .i64 l[i].1) ∧ w.cell? ⟨b, off + i * 2 + 1, none⟩ = some (.int .i64 l[i].2) := by
  obtain ⟨e0, e1⟩ := prs_at l i hi
  obtain ⟨b, off, hA, hb, h0⟩ := h.at_ e0
  obtain ⟨b', off', hA', hb', h1⟩ := h.at_ e1
  rw [hA] at hA'
  injection hA' with hA'
  injection hA' with e2 e3
  subst e2 e3
  exact ⟨b, off, hA, hb, h0, by rw [Nat.add_assoc]; exact h1⟩
theorem reads_of_held {w : World} {e : TypeId} {sz n c : Nat} {A : Option Addr} {xs : List Value} (h : Held w e sz A n c xs) : Reads w w.heap.size sz A n xs := by
  refine ⟨h.1, fun hn => ?_⟩
  obtain ⟨b, off, cur, hA, hb, hc⟩ := h.2.2.2.2 hn
  exact ⟨⟨b, off, none⟩, hA, lt_of_blk hb, h.cells_ _ hA⟩

def RFindIs (w : World) (l : List (Int × Int)) (x : Int) (e : Ending) (w' : World) : Prop :=
  ∃ r, e = .returned (.int .i64 r) ∧ ((∃ (k : Nat) (hk : k < l.length), l[k].1 = x ∧ r = (k : Int)) ∨ (r = -1 ∧ ∀ (j : Nat) (hj : j < l.length), l[j].1 ≠ x)) ∧ Below w.heap.size w w'
set_option maxHeartbeats 1000000 in
theorem rfind_any (A : Option Addr) (n c : Nat) (l : List (Int × Int)) (x : Int) (w : World) (hn : n = l.length) (h : Held w 47 2 A n c (prs l)) :
    Calls Try.prog 21 #[.agg #[.slice A n c], .int .i64 x] w (RFindIs w l x) := by
  have hc := h.2.1
  have hc2 := h.2.2.1
  have B0 : Below w.heap.size w (w.alloc (.cells #[.slice A n c] 30)) := (Below.refl _ _).alloc (Nat.le_refl _) _
  have bx := Blk.new w 30 #[.slice A n c]
  have HK := Lib.hid (And.intro (h.alloc (.cells #[.slice A n c] 30)) (And.intro bx B0))
  have HN := Lib.hid hn
  clear h hn bx B0
  go_enter Try.func21, Try.ntmps21
  go_wp2_with fail
  generalize w.alloc (.cells #[.slice A n c] 30) = W at *
  go_loop [5] (fun iv => ∃ k : Nat, k ≤ n ∧ iv = .int .i64 k ∧ ∀ (j : Nat) (hj : j < l.length), j < k → l[j].1 ≠ x) (fun i => n - (intOf i).toNat)
  case atStart => exact ⟨0, by omega, rfl, fun j _ h => absurd h (by omega)⟩
  case round =>
    obtain ⟨k, hk, rfl, hno⟩ := hrel
    have HNO := Lib.hid hno
    clear hno
    by_cases hlt : k < n
    · have hkl : k < l.length := by rw [← HN.out]; exact hlt
      obtain ⟨b, off, hA, hb, c0, _⟩ := held_prs HK.out.1 hkl
      have cb := Blk.cell HK.out.2.1 0
      simp at cb
      rw [hA] at cb
      have hk0 : (0 : Int) ≤ k := by omega
      have hk1 : (k : Int) < n := by omega
      by_cases he : l[k].1 = x
      · have HE := Lib.hid he
        rw [he] at c0
        clear he hA
        go_wp2_with fail
        go_ret
        exact ⟨_, rfl, .inl ⟨k, hkl, HE.out, rfl⟩, HK.out.2.2⟩
      · have HE := Lib.hid he
        generalize hy : l[k].1 = y at *
        have HY := Lib.hid hy
        have hyx : (y == x) = false := by simp [he]
        clear he hA hy
        go_wp2_with fail
        go_round
        case rel =>
          refine ⟨k + 1, by omega, by go_num, fun j hj hjk => ?_⟩
          rcases Nat.lt_or_ge j k with h | h
          · exact HNO.out j hj h
          · obtain rfl : j = k := by omega
            rw [HY.out]
            exact HE.out
        case measure => simp [intOf]; omega
    · obtain rfl : n = k := by omega
      have cb := Blk.cell HK.out.2.1 0
      simp at cb
      go_wp2_with fail
      go_ret
      exact ⟨-1, rfl, .inr ⟨rfl, fun j hj => HNO.out j hj (by rw [HN.out]; exact hj)⟩, HK.out.2.2⟩
def RowIs (w : World) (l' : List (Int × Int)) (e : Ending) (w' : World) : Prop :=
  ∃ A' c', e = .returned (.agg #[.slice A' l'.length c']) ∧ Held w' 47 2 A' l'.length c' (prs l') ∧ Below w.heap.size w w'
theorem prs_snoc (l : List (Int × Int)) (p : Int × Int) : prs (l ++ [p]) = prs l ++ [.int .i64 p.1, .int .i64 p.2] := by simp [prs]
theorem reads_pair (w : World) (x y : Int) : Reads (w.alloc (.cells #[.int .i64 x, .int .i64 y] 47)) (w.heap.size + 1) 2 (some ⟨w.heap.size, 0, none⟩) 1 [.int .i64 x, .int .i64 y] :=
  ⟨rfl, fun _ => ⟨_, rfl, by simp, fun j u hu => World.news_of_block (cs := #[.int .i64 x, .int .i64 y]) (t := 47) (fr := (0, 0)) (heap_alloc_new w _) j u hu⟩⟩
theorem wo_snoc (l : List (Int × Int)) (x : Int) (p : Int × Int) : wo x (l ++ [p]) = if p.1 = x then wo x l else wo x l ++ [p] := by
  unfold wo
  rw [List.filter_append]
  by_cases h : p.1 = x <;> simp [h]
set_option maxHeartbeats 2000000 in
theorem rdel_any (A : Option Addr) (n c : Nat) (l : List (Int × Int)) (x : Int) (w : World) (hn : n = l.length) (hnb : n ≤ 5000) (h : Held w 47 2 A n c (prs l)) :
    Calls Try.prog 13 #[.agg #[.slice A n c], .int .i64 x] w (RowIs w (wo x l)) := by
  obtain ⟨i0, hi0, hz0, hz1, hz2⟩ := info_parts info_IT
  have hc := h.2.1
  have hc2 := h.2.2.1
  have bx := Blk.alloc (Blk.new w 30 #[.slice A n c]) (.cells #[.slice none 0 0] 30)
  have br := Blk.new (w.alloc (.cells #[.slice A n c] 30)) 30 #[.slice none 0 0]
  have B0 : Below w.heap.size w ((w.alloc (.cells #[.slice A n c] 30)).alloc (.cells #[.slice none 0 0] 30)) := ((Below.refl _ _).alloc (Nat.le_refl _) _).alloc (by simp) _
  simp only [World.size_alloc] at br
  have HN := Lib.hid hn
  have HK := Lib.hid (And.intro ((h.alloc (.cells #[.slice A n c] 30)).alloc (.cells #[.slice none 0 0] 30)) (And.intro bx (And.intro br B0)))
  clear h hn bx br B0
  go_enter Try.func13, Try.ntmps13
  go_wp2_with fail
  generalize (w.alloc (.cells #[.slice A n c] 30)).alloc (.cells #[.slice none 0 0] 30) = W at *
  have hWs := HK.out.2.2.2.size
  have hlt2 := Blk.lt HK.out.2.2.1
  go_loopw [5, 6] (fun ov iv wr => ∃ (k m c' : Nat) (B : Option Addr), k ≤ n ∧ iv = .int .i64 k ∧ ov = .slice B m c' ∧ m = (wo x (l.take k)).length ∧ wr.ownsRow W.heap.size 47 2 (.slice B m c') m (prs (wo x (l.take k))) ∧ Below W.heap.size W wr) (fun _ i _ => n - (intOf i).toNat)
  case atStart => exact ⟨0, 0, 0, none, by omega, rfl, rfl, rfl, own_nil _ _ _ _, Below.refl _ _⟩
  case round =>
    obtain ⟨k, m, c', B, hk, rfl, rfl, hm, ho, hb⟩ := hrel
    have HM := Lib.hid hm
    have HO := Lib.hid (And.intro ho hb)
    have hmb : m ≤ k := by rw [hm]; exact Nat.le_trans (wo_le x _) (by rw [List.length_take]; omega)
    have hbs := hb.size
    clear ho hb hm
    by_cases hlt : k < n
    · have hkl : k < l.length := by rw [← HN.out]; exact hlt
      obtain ⟨b, off, hA, hbk, c0, c1⟩ := held_prs (HK.out.1.below HO.out.2) hkl
      have cb := Blk.cell (Blk.below HK.out.2.1 HO.out.2 (Blk.lt HK.out.2.1)) 0
      simp at cb
      rw [hA] at cb
      have hk0 : (0 : Int) ≤ k := by omega
      have hk1 : (k : Int) < n := by omega
      have HS : Hid (wo x (l.take (k + 1)) = if l[k].1 = x then wo x (l.take k) else wo x (l.take k) ++ [(l[k].1, l[k].2)]) := by
        show wo x (l.take (k + 1)) = _
        rw [List.take_succ_eq_append_getElem hkl, wo_snoc]
      generalize l[k].1 = y at *
      generalize l[k].2 = z at *
      clear hA
      by_cases he : y = x
      · have HS2 := Lib.hid (show wo x (l.take (k + 1)) = wo x (l.take k) by rw [HS.out, if_pos he])
        subst he
        go_wp2_with fail
        go_roundw
        case rel => exact ⟨k + 1, m, c', B, by omega, by go_num, rfl, by rw [HS2.out]; exact HM.out, by rw [HS2.out]; exact HO.out.1, HO.out.2⟩
        case measure => simp [intOf]; omega
      · have HS2 := Lib.hid (show wo x (l.take (k + 1)) = wo x (l.take k) ++ [(y, z)] by rw [HS.out, if_neg he])
        have hyx : (y != x) = true := by simp [he]
        have HR := Lib.hid (reads_pair wr y z)
        clear he
        go_wp2_with (first
          | (at_builtin
             refine wpList_append_any _ rfl (.tmp 22) (.tmp 28) _ rfl W.heap.size 47 i0 _ 2 16 Try.underlying28 hi0 hz0 hz1 hz2 rfl (by omega) (.slice B m c') m _ rfl (HO.out.1.alloc _) (wr.heap.size + 1) (some ⟨wr.heap.size, 0, none⟩) 1 1 [.int .i64 y, .int .i64 z] rfl HR.out (by simp [Value.oneCell']) (by simp only [maxLen]; omega) (by omega) (by simp; omega) ?_
             intro v1 w1 hn1 hg1 hd1
             obtain ⟨B1, k1, rfl⟩ := slice_of_own' hn1
             have b1 : Below W.heap.size W w1 := (HO.out.2.alloc hbs _).grown hg1 (by simp; omega) (fun k hk => ownBlock_ge HO.out.1 hk)
             have H1 := Lib.hid (And.intro hn1 b1)
             clear hn1 hg1 hd1 b1))
        go_roundw
        case rel => exact ⟨k + 1, m + 1, k1, B1, by omega, by go_num, rfl, by rw [HS2.out, List.length_append, ← HM.out]; rfl, by rw [HS2.out, prs_snoc]; exact H1.out.1, H1.out.2⟩
        case measure => simp [intOf]; omega
    · obtain rfl : n = k := by omega
      have cb := Blk.cell (Blk.below HK.out.2.1 HO.out.2 (Blk.lt HK.out.2.1)) 0
      have cr := Blk.cell (Blk.below HK.out.2.2.1 HO.out.2 (Blk.lt HK.out.2.2.1)) 0
      have fr := Blk.frozen (Blk.below HK.out.2.2.1 HO.out.2 (Blk.lt HK.out.2.2.1)) 0
      simp at cb cr
      go_wp2_with fail
      have BR := Blk.set_ (Blk.below HK.out.2.2.1 HO.out.2 (Blk.lt HK.out.2.2.1)) 0 (.slice B m c')
      simp at BR
      refine ret_cell1 (g := w.heap.size + 1) rfl rfl rfl BR (fun W' q0 => by simp [go_sem, q0]) ?_
      have e0 : l.take n = l := List.take_of_length_le (by rw [HN.out]; exact Nat.le_refl _)
      have hm := HM.out
      have ho := HO.out.1
      rw [e0] at hm ho
      refine ⟨B, c', by rw [hm], by rw [← hm]; exact (Held.of_own ho).setCell (p := ⟨w.heap.size + 1, 0, none⟩) (by exact Blk.below HK.out.2.2.1 HO.out.2 (Blk.lt HK.out.2.2.1)) (by decide) _, ?_⟩
      exact (HK.out.2.2.2.trans (HO.out.2.mono hWs)).setCell (by simp) _

theorem held_cutTo {w : World} {e : TypeId} {sz n k m : Nat} {A : Option Addr} {xs : List Value} (h : Held w e sz A n k xs) (hm : m ≤ n) : Held w e sz A m k (xs.take (m * sz)) :=
  ⟨by rw [List.length_take, h.1, Nat.min_eq_left (Nat.mul_le_mul_right _ hm)], by have := h.2.1; omega, h.2.2.1, fun hA => by have := h.2.2.2.1 hA; omega, fun hp => by
    obtain ⟨b, off, cur, hA, hb, hc⟩ := h.2.2.2.2 (by omega)
    exact ⟨b, off, cur, hA, hb, fun j u hu => hc j u (by rw [List.getElem?_take] at hu; split at hu; exact hu; cases hu)⟩⟩
theorem held_cutFrom {w : World} {e : TypeId} {sz n k m b off : Nat} {xs : List Value} (h : Held w e sz (some ⟨b, off, none⟩) n k xs) (hm : m ≤ n) : Held w e sz (if k = m then some ⟨b, off, none⟩ else some ⟨b, off + m * sz, none⟩) (n - m) (k - m) (xs.drop (m * sz)) := by
  obtain ⟨h1, h2, h3, h4, h5⟩ := h
  refine ⟨by rw [List.length_drop, h1, Nat.sub_mul], by omega, by omega, fun hA => (by split at hA <;> cases hA), fun hp => ?_⟩
  obtain ⟨b', off', cur, hA, hb, hc⟩ := h5 (by omega)
  injection hA with hA
  injection hA with hA1 hA2
  subst hA1 hA2
  rw [if_neg (by omega)]
  exact ⟨b, off + m * sz, cur, rfl, hb, fun j u hu => by rw [List.getElem?_drop] at hu; rw [Nat.add_assoc]; exact hc _ u hu⟩
/-- How many stand ahead of x. -/
def Ahead (l : List (Int × Int)) (x : Int) (k : Nat) : Prop := k ≤ l.length ∧ (∀ (j : Nat) (hj : j < l.length), j < k → l[j].1 < x) ∧ (∀ (h : k < l.length), x ≤ l[k].1)
theorem Ahead.place {l : List (Int × Int)} {x : Int} {k : Nat} (h : Ahead l x k) (hs : Srt l) : Place l x k := by
  obtain ⟨h1, h2, h3⟩ := h
  refine ⟨h1, h2, fun j hj hk => ?_⟩
  have hkl : k < l.length := by omega
  rcases Nat.lt_or_ge k j with h | h
  · have := hs k j hkl hj h
    have := h3 hkl
    omega
  · obtain rfl : k = j := by omega
    exact h3 hkl
theorem place_one {l : List (Int × Int)} {x : Int} {a b : Nat} (h : Place l x a) (h' : Place l x b) : a = b := by
  obtain ⟨h1, h2, h3⟩ := h
  obtain ⟨g1, g2, g3⟩ := h'
  rcases Nat.lt_trichotomy a b with h | h | h
  · have := g2 a (by omega) h
    have := h3 a (by omega) (Nat.le_refl _)
    omega
  · exact h
  · have := h2 b (by omega) h
    have := g3 b (by omega) (Nat.le_refl _)
    omega
set_option maxRecDepth 20000 in
set_option maxHeartbeats 4000000 in
theorem rput_any (A : Option Addr) (n c : Nat) (l : List (Int × Int)) (x y : Int) (w : World) (hn : n = l.length) (hnb : n ≤ 5000) (h : Held w 47 2 A n c (prs l)) :
    Calls Try.prog 22 #[.agg #[.slice A n c], .int .i64 x, .int .i64 y] w (fun e w' => ∃ k, Ahead l x k ∧ RowIs w (ins l k (x, y)) e w') := by
  obtain ⟨i0, hi0, hz0, hz1, hz2⟩ := info_parts info_IT
  have hc := h.2.1
  have hc2 := h.2.2.1
  have hAn := h.2.2.2.1
  have bx := Blk.alloc (Blk.new w 30 #[.slice A n c]) (.cells #[.slice none 0 0] 30)
  have br := Blk.new (w.alloc (.cells #[.slice A n c] 30)) 30 #[.slice none 0 0]
  have B0 : Below w.heap.size w ((w.alloc (.cells #[.slice A n c] 30)).alloc (.cells #[.slice none 0 0] 30)) := ((Below.refl _ _).alloc (Nat.le_refl _) _).alloc (by simp) _
  simp only [World.size_alloc] at br
  have HN := Lib.hid hn
  have HK := Lib.hid (And.intro ((h.alloc (.cells #[.slice A n c] 30)).alloc (.cells #[.slice none 0 0] 30)) (And.intro bx (And.intro br B0)))
  clear h hn bx br B0
  go_enter Try.func22, Try.ntmps22
  go_wp2_with fail
  generalize (w.alloc (.cells #[.slice A n c] 30)).alloc (.cells #[.slice none 0 0] 30) = W at *
  have hWs := HK.out.2.2.2.size
  have hlt2 := Blk.lt HK.out.2.2.1
  go_loop [7] (fun iv => ∃ k : Nat, k ≤ n ∧ iv = .int .i64 k ∧ ∀ (j : Nat) (hj : j < l.length), j < k → l[j].1 < x) (fun i => n - (intOf i).toNat)
  case atStart => exact ⟨0, by omega, rfl, fun j _ h => absurd h (by omega)⟩
  case round =>
    obtain ⟨k, hk, rfl, hno⟩ := hrel
    have HNO := Lib.hid hno
    clear hno
    have cb := Blk.cell HK.out.2.1 0
    simp at cb
    by_cases hgo : ∃ h : k < l.length, l[k].1 < x
    · obtain ⟨hkl, he⟩ := hgo
      obtain ⟨b, off, hA, hb, c0, _⟩ := held_prs HK.out.1 hkl
      rw [hA] at cb
      have hk0 : (0 : Int) ≤ k := by omega
      have hkn : k < n := by rw [HN.out]; exact hkl
      have hk1 : (k : Int) < n := by omega
      have HE := Lib.hid he
      generalize hy : l[k].1 = z at *
      have HY := Lib.hid hy
      clear hA hy
      go_wp2_with fail
      go_round
      case rel =>
        refine ⟨k + 1, by omega, by go_num, fun j hj hjk => ?_⟩
        rcases Nat.lt_or_ge j k with h | h
        · exact HNO.out j hj h
        · obtain rfl : j = k := by omega
          rw [HY.out]
          exact HE.out
      case measure => simp [intOf]; omega
    · have HAH : Hid (Ahead l x k) := ⟨by rw [← HN.out]; exact hk, HNO.out, fun h => by
        rcases Int.lt_or_le l[k].1 x with h2 | h2
        · exact absurd ⟨h, h2⟩ hgo
        · exact h2⟩
      have hkz : k ≤ c := by omega
      have hkz2 : (k : Int) ≤ c := by omega
      have hkz3 : (k : Int) ≤ n := by omega
      have HR1 := Lib.hid (reads_of_held (by have h := held_cutTo HK.out.1 hk; rw [prs_take] at h; exact h))
      have hgl := Blk.lt HK.out.2.1
      by_cases hkn : k < n
      · have hkl : k < l.length := by rw [← HN.out]; exact hkn
        obtain ⟨b, off, hA, hb, c0, _⟩ := held_prs HK.out.1 hkl
        have hxz : ¬ l[k].1 < x := fun h => hgo ⟨hkl, h⟩
        have hk0 : (0 : Int) ≤ k := by omega
        have hk1 : (k : Int) < n := by omega
        subst hA
        generalize l[k].1 = z at *
        have hck : ¬ c = k := by omega
        have hcz : ¬ c = 0 := by omega
        have HR2 := Lib.hid (by have h := held_cutFrom HK.out.1 hk; rw [if_neg hck, prs_drop l k (by omega)] at h; exact h)
        clear hgo
        go_wp2_with (first
          | (at_builtin
             refine wpList_append_any _ rfl (.tmp 26) (.tmp 30) _ rfl W.heap.size 47 i0 _ 2 16 Try.underlying28 hi0 hz0 hz1 hz2 rfl (by omega) (.slice (some ⟨W.heap.size, 0, none⟩) 0 0) 0 [] rfl (own_empty (Blk.new W 47 #[]) (Nat.le_refl _)) W.heap.size (some ⟨b, off, none⟩) k c _ rfl (HR1.out.alloc (Nat.le_refl _) _) (prs_one _) (by simp only [maxLen]; omega) (by omega) (by simp) ?_
             intro v1 w1 hn1 hg1 hd1
             obtain ⟨A1, k1, rfl⟩ := slice_of_own' hn1
             rw [Nat.zero_add, List.nil_append] at hn1
             have b1 : Below W.heap.size W w1 := ((Below.refl _ _).alloc (Nat.le_refl _) _).grown hg1 (by simp) (fun k hk => by simp [Value.ownBlock] at hk; omega)
             have H1 := Lib.hid (And.intro hn1 b1)
             have hs1 := b1.size
             have cb1 := Blk.cell (Blk.below HK.out.2.1 b1 hgl) 0
             simp at cb1
             clear hn1 hg1 hd1 b1)
          | (at_builtin
             refine wpList_append_any _ rfl (.tmp 32) (.tmp 36) _ rfl W.heap.size 47 i0 _ 2 16 Try.underlying28 hi0 hz0 hz1 hz2 rfl (by omega) (.slice A1 k k1) k _ rfl (H1.out.1.alloc _) (w1.heap.size + 1) (some ⟨w1.heap.size, 0, none⟩) 1 1 [.int .i64 x, .int .i64 y] rfl (reads_pair w1 x y) (by simp [Value.oneCell']) (by simp only [maxLen]; omega) (by omega) (by simp; omega) ?_
             intro v2 w2 hn2 hg2 hd2
             obtain ⟨A2, k2, rfl⟩ := slice_of_own' hn2
             have b2 : Below W.heap.size W w2 := (H1.out.2.alloc hs1 _).grown hg2 (by simp; omega) (fun k hk => ownBlock_ge H1.out.1 hk)
             have H2 := Lib.hid (And.intro hn2 b2)
             have hs2 := b2.size
             have cb2 := Blk.cell (Blk.below HK.out.2.1 b2 hgl) 0
             simp at cb2
             clear hn2 hg2 hd2 b2)
          | (at_builtin
             refine wpList_append_any _ rfl (.tmp 38) (.tmp 42) _ rfl W.heap.size 47 i0 _ 2 16 Try.underlying28 hi0 hz0 hz1 hz2 rfl (by omega) (.slice A2 (k + 1) k2) (k + 1) _ rfl H2.out.1 w2.heap.size (some ⟨b, off + k * 2, none⟩) (n - k) (c - k) (prs (l.drop k)) rfl ((reads_of_held HR2.out).more (Nat.le_refl _) |>.below H2.out.2 |>.more hs2) (prs_one _) (by simp only [maxLen]; omega) (by omega) (by omega) ?_
             intro v3 w3 hn3 hg3 hd3
             obtain ⟨A3, k3, rfl⟩ := slice_of_own' hn3
             have b3 : Below W.heap.size W w3 := H2.out.2.grown hg3 hs2 (fun k hk => ownBlock_ge H2.out.1 hk)
             have H3 := Lib.hid (And.intro hn3 b3)
             have BR0 := Blk.below HK.out.2.2.1 b3 hlt2
             have cr := Blk.cell BR0 0
             have fr := Blk.frozen BR0 0
             simp at cr
             have HBR := Lib.hid BR0
             clear hn3 hg3 hd3 b3 BR0))
        have BR := Blk.set_ HBR.out 0 (.slice A3 (k + 1 + ((n - k))) k3)
        simp at BR
        have hil := ins_length l k (x, y) (by rw [← HN.out]; exact hk)
        have hle : k + 1 + ((n - k)) = (ins l k (x, y)).length := by rw [hil, ← HN.out]; try omega
        refine ret_cell1 (g := w.heap.size + 1) rfl rfl rfl BR (fun W' q0 => by simp [go_sem, q0]) ⟨k, HAH.out, A3, k3, ?_, ?_, ?_⟩
        · rw [← hle]
          try simp only [Nat.add_zero]
        · have e1 : prs (ins l k (x, y)) = prs (l.take k) ++ [.int .i64 x, .int .i64 y] ++ prs (l.drop k) := by simp [ins, prs]
          rw [← hle, e1]
          exact (Held.of_own H3.out.1).setCell (p := ⟨w.heap.size + 1, 0, none⟩) (by exact HBR.out) (by decide) _
        · exact (HK.out.2.2.2.trans (H3.out.2.mono hWs)).setCell (by simp) _
      · obtain rfl : k = n := by omega
        have hdr : l.drop k = [] := List.drop_eq_nil_of_le (by rw [← HN.out]; exact Nat.le_refl _)
        have HR2 : Hid (∀ (W' : World) (X : Option Addr), Reads W' W'.heap.size 2 X 0 (prs (l.drop k))) := fun W' X => ⟨by rw [hdr]; rfl, fun h => absurd h (by omega)⟩
        have hAn2 := Lib.hid hAn
        clear hgo hdr hAn
        cases A with
        | none =>
          obtain ⟨hk0, hc0⟩ := hAn2.out rfl
          subst hc0
          obtain rfl : k = 0 := by omega
          go_wp2_with (first
            | (at_builtin
               refine wpList_append_any _ rfl (.tmp 26) (.tmp 30) _ rfl W.heap.size 47 i0 _ 2 16 Try.underlying28 hi0 hz0 hz1 hz2 rfl (by omega) (.slice (some ⟨W.heap.size, 0, none⟩) 0 0) 0 [] rfl (own_empty (Blk.new W 47 #[]) (Nat.le_refl _)) W.heap.size none 0 0 _ rfl (HR1.out.alloc (Nat.le_refl _) _) (prs_one _) (by simp only [maxLen]; omega) (by omega) (by simp) ?_
               intro v1 w1 hn1 hg1 hd1
               obtain ⟨A1, k1, rfl⟩ := slice_of_own' hn1
               rw [Nat.zero_add, List.nil_append] at hn1
               have b1 : Below W.heap.size W w1 := ((Below.refl _ _).alloc (Nat.le_refl _) _).grown hg1 (by simp) (fun k hk => by simp [Value.ownBlock] at hk; omega)
               have H1 := Lib.hid (And.intro hn1 b1)
               have hs1 := b1.size
               have cb1 := Blk.cell (Blk.below HK.out.2.1 b1 hgl) 0
               simp at cb1
               clear hn1 hg1 hd1 b1)
            | (at_builtin
               refine wpList_append_any _ rfl (.tmp 32) (.tmp 36) _ rfl W.heap.size 47 i0 _ 2 16 Try.underlying28 hi0 hz0 hz1 hz2 rfl (by omega) (.slice A1 0 k1) 0 _ rfl (H1.out.1.alloc _) (w1.heap.size + 1) (some ⟨w1.heap.size, 0, none⟩) 1 1 [.int .i64 x, .int .i64 y] rfl (reads_pair w1 x y) (by simp [Value.oneCell']) (by simp only [maxLen]; omega) (by omega) (by simp; omega) ?_
               intro v2 w2 hn2 hg2 hd2
               obtain ⟨A2, k2, rfl⟩ := slice_of_own' hn2
               have b2 : Below W.heap.size W w2 := (H1.out.2.alloc hs1 _).grown hg2 (by simp; omega) (fun k hk => ownBlock_ge H1.out.1 hk)
               have H2 := Lib.hid (And.intro hn2 b2)
               have hs2 := b2.size
               have cb2 := Blk.cell (Blk.below HK.out.2.1 b2 hgl) 0
               simp at cb2
               clear hn2 hg2 hd2 b2)
            | (at_builtin
               refine wpList_append_any _ rfl (.tmp 38) (.tmp 42) _ rfl W.heap.size 47 i0 _ 2 16 Try.underlying28 hi0 hz0 hz1 hz2 rfl (by omega) (.slice A2 (0 + 1) k2) (0 + 1) _ rfl H2.out.1 w2.heap.size none 0 0 (prs (l.drop 0)) rfl (HR2.out _ _) (prs_one _) (by simp only [maxLen]; omega) (by omega) (by omega) ?_
               intro v3 w3 hn3 hg3 hd3
               obtain ⟨A3, k3, rfl⟩ := slice_of_own' hn3
               have b3 : Below W.heap.size W w3 := H2.out.2.grown hg3 hs2 (fun k hk => ownBlock_ge H2.out.1 hk)
               have H3 := Lib.hid (And.intro hn3 b3)
               have BR0 := Blk.below HK.out.2.2.1 b3 hlt2
               have cr := Blk.cell BR0 0
               have fr := Blk.frozen BR0 0
               simp at cr
               have HBR := Lib.hid BR0
               clear hn3 hg3 hd3 b3 BR0))
          have BR := Blk.set_ HBR.out 0 (.slice A3 (0 + 1 + (0)) k3)
          simp at BR
          have hil := ins_length l 0 (x, y) (by rw [← HN.out]; exact hk)
          have hle : 0 + 1 + (0) = (ins l 0 (x, y)).length := by rw [hil, ← HN.out]; try omega
          refine ret_cell1 (g := w.heap.size + 1) rfl rfl rfl BR (fun W' q0 => by simp [go_sem, q0]) ⟨0, HAH.out, A3, k3, ?_, ?_, ?_⟩
          · rw [← hle]
            try simp only [Nat.add_zero]
          · have e1 : prs (ins l 0 (x, y)) = prs (l.take 0) ++ [.int .i64 x, .int .i64 y] ++ prs (l.drop 0) := by simp [ins, prs]
            rw [← hle, e1]
            exact (Held.of_own H3.out.1).setCell (p := ⟨w.heap.size + 1, 0, none⟩) (by exact HBR.out) (by decide) _
          · exact (HK.out.2.2.2.trans (H3.out.2.mono hWs)).setCell (by simp) _
        | some ad =>
          by_cases hn0 : k = 0
          · subst hn0
            go_wp2_with (first
              | (at_builtin
                 refine wpList_append_any _ rfl (.tmp 26) (.tmp 30) _ rfl W.heap.size 47 i0 _ 2 16 Try.underlying28 hi0 hz0 hz1 hz2 rfl (by omega) (.slice (some ⟨W.heap.size, 0, none⟩) 0 0) 0 [] rfl (own_empty (Blk.new W 47 #[]) (Nat.le_refl _)) W.heap.size (some ad) 0 c _ rfl (HR1.out.alloc (Nat.le_refl _) _) (prs_one _) (by simp only [maxLen]; omega) (by omega) (by simp) ?_
                 intro v1 w1 hn1 hg1 hd1
                 obtain ⟨A1, k1, rfl⟩ := slice_of_own' hn1
                 rw [Nat.zero_add, List.nil_append] at hn1
                 have b1 : Below W.heap.size W w1 := ((Below.refl _ _).alloc (Nat.le_refl _) _).grown hg1 (by simp) (fun k hk => by simp [Value.ownBlock] at hk; omega)
                 have H1 := Lib.hid (And.intro hn1 b1)
                 have hs1 := b1.size
                 have cb1 := Blk.cell (Blk.below HK.out.2.1 b1 hgl) 0
                 simp at cb1
                 clear hn1 hg1 hd1 b1)
              | (at_builtin
                 refine wpList_append_any _ rfl (.tmp 32) (.tmp 36) _ rfl W.heap.size 47 i0 _ 2 16 Try.underlying28 hi0 hz0 hz1 hz2 rfl (by omega) (.slice A1 0 k1) 0 _ rfl (H1.out.1.alloc _) (w1.heap.size + 1) (some ⟨w1.heap.size, 0, none⟩) 1 1 [.int .i64 x, .int .i64 y] rfl (reads_pair w1 x y) (by simp [Value.oneCell']) (by simp only [maxLen]; omega) (by omega) (by simp; omega) ?_
                 intro v2 w2 hn2 hg2 hd2
                 obtain ⟨A2, k2, rfl⟩ := slice_of_own' hn2
                 have b2 : Below W.heap.size W w2 := (H1.out.2.alloc hs1 _).grown hg2 (by simp; omega) (fun k hk => ownBlock_ge H1.out.1 hk)
                 have H2 := Lib.hid (And.intro hn2 b2)
                 have hs2 := b2.size
                 have cb2 := Blk.cell (Blk.below HK.out.2.1 b2 hgl) 0
                 simp at cb2
                 clear hn2 hg2 hd2 b2)
              | (at_builtin
                 refine wpList_append_any _ rfl (.tmp 38) (.tmp 42) _ rfl W.heap.size 47 i0 _ 2 16 Try.underlying28 hi0 hz0 hz1 hz2 rfl (by omega) (.slice A2 (0 + 1) k2) (0 + 1) _ rfl H2.out.1 w2.heap.size (some ad) 0 c (prs (l.drop 0)) rfl (HR2.out _ _) (prs_one _) (by simp only [maxLen]; omega) (by omega) (by omega) ?_
                 intro v3 w3 hn3 hg3 hd3
                 obtain ⟨A3, k3, rfl⟩ := slice_of_own' hn3
                 have b3 : Below W.heap.size W w3 := H2.out.2.grown hg3 hs2 (fun k hk => ownBlock_ge H2.out.1 hk)
                 have H3 := Lib.hid (And.intro hn3 b3)
                 have BR0 := Blk.below HK.out.2.2.1 b3 hlt2
                 have cr := Blk.cell BR0 0
                 have fr := Blk.frozen BR0 0
                 simp at cr
                 have HBR := Lib.hid BR0
                 clear hn3 hg3 hd3 b3 BR0))
            have BR := Blk.set_ HBR.out 0 (.slice A3 (0 + 1 + (0)) k3)
            simp at BR
            have hil := ins_length l 0 (x, y) (by rw [← HN.out]; exact hk)
            have hle : 0 + 1 + (0) = (ins l 0 (x, y)).length := by rw [hil, ← HN.out]; try omega
            refine ret_cell1 (g := w.heap.size + 1) rfl rfl rfl BR (fun W' q0 => by simp [go_sem, q0]) ⟨0, HAH.out, A3, k3, ?_, ?_, ?_⟩
            · rw [← hle]
              try simp only [Nat.add_zero]
            · have e1 : prs (ins l 0 (x, y)) = prs (l.take 0) ++ [.int .i64 x, .int .i64 y] ++ prs (l.drop 0) := by simp [ins, prs]
              rw [← hle, e1]
              exact (Held.of_own H3.out.1).setCell (p := ⟨w.heap.size + 1, 0, none⟩) (by exact HBR.out) (by decide) _
            · exact (HK.out.2.2.2.trans (H3.out.2.mono hWs)).setCell (by simp) _
          · have hkl : k - 1 < l.length := by rw [← HN.out]; omega
            obtain ⟨b, off, hA, hb, _, _⟩ := held_prs HK.out.1 hkl
            injection hA with hA
            subst hA
            have hcz : ¬ c = 0 := by omega
            have hk1 : (k : Int) ≤ k := by omega
            by_cases hck : c = k
            · subst hck
              go_wp2_with (first
                | (at_builtin
                   refine wpList_append_any _ rfl (.tmp 26) (.tmp 30) _ rfl W.heap.size 47 i0 _ 2 16 Try.underlying28 hi0 hz0 hz1 hz2 rfl (by omega) (.slice (some ⟨W.heap.size, 0, none⟩) 0 0) 0 [] rfl (own_empty (Blk.new W 47 #[]) (Nat.le_refl _)) W.heap.size (some ⟨b, off, none⟩) c c _ rfl (HR1.out.alloc (Nat.le_refl _) _) (prs_one _) (by simp only [maxLen]; omega) (by omega) (by simp) ?_
                   intro v1 w1 hn1 hg1 hd1
                   obtain ⟨A1, k1, rfl⟩ := slice_of_own' hn1
                   rw [Nat.zero_add, List.nil_append] at hn1
                   have b1 : Below W.heap.size W w1 := ((Below.refl _ _).alloc (Nat.le_refl _) _).grown hg1 (by simp) (fun k hk => by simp [Value.ownBlock] at hk; omega)
                   have H1 := Lib.hid (And.intro hn1 b1)
                   have hs1 := b1.size
                   have cb1 := Blk.cell (Blk.below HK.out.2.1 b1 hgl) 0
                   simp at cb1
                   clear hn1 hg1 hd1 b1)
                | (at_builtin
                   refine wpList_append_any _ rfl (.tmp 32) (.tmp 36) _ rfl W.heap.size 47 i0 _ 2 16 Try.underlying28 hi0 hz0 hz1 hz2 rfl (by omega) (.slice A1 c k1) c _ rfl (H1.out.1.alloc _) (w1.heap.size + 1) (some ⟨w1.heap.size, 0, none⟩) 1 1 [.int .i64 x, .int .i64 y] rfl (reads_pair w1 x y) (by simp [Value.oneCell']) (by simp only [maxLen]; omega) (by omega) (by simp; omega) ?_
                   intro v2 w2 hn2 hg2 hd2
                   obtain ⟨A2, k2, rfl⟩ := slice_of_own' hn2
                   have b2 : Below W.heap.size W w2 := (H1.out.2.alloc hs1 _).grown hg2 (by simp; omega) (fun k hk => ownBlock_ge H1.out.1 hk)
                   have H2 := Lib.hid (And.intro hn2 b2)
                   have hs2 := b2.size
                   have cb2 := Blk.cell (Blk.below HK.out.2.1 b2 hgl) 0
                   simp at cb2
                   clear hn2 hg2 hd2 b2)
                | (at_builtin
                   refine wpList_append_any _ rfl (.tmp 38) (.tmp 42) _ rfl W.heap.size 47 i0 _ 2 16 Try.underlying28 hi0 hz0 hz1 hz2 rfl (by omega) (.slice A2 (c + 1) k2) (c + 1) _ rfl H2.out.1 w2.heap.size (some ⟨b, off, none⟩) 0 0 (prs (l.drop c)) rfl (HR2.out _ _) (prs_one _) (by simp only [maxLen]; omega) (by omega) (by omega) ?_
                   intro v3 w3 hn3 hg3 hd3
                   obtain ⟨A3, k3, rfl⟩ := slice_of_own' hn3
                   have b3 : Below W.heap.size W w3 := H2.out.2.grown hg3 hs2 (fun k hk => ownBlock_ge H2.out.1 hk)
                   have H3 := Lib.hid (And.intro hn3 b3)
                   have BR0 := Blk.below HK.out.2.2.1 b3 hlt2
                   have cr := Blk.cell BR0 0
                   have fr := Blk.frozen BR0 0
                   simp at cr
                   have HBR := Lib.hid BR0
                   clear hn3 hg3 hd3 b3 BR0))
              have BR := Blk.set_ HBR.out 0 (.slice A3 (c + 1 + (0)) k3)
              simp at BR
              have hil := ins_length l c (x, y) (by rw [← HN.out]; exact hk)
              have hle : c + 1 + (0) = (ins l c (x, y)).length := by rw [hil, ← HN.out]; try omega
              refine ret_cell1 (g := w.heap.size + 1) rfl rfl rfl BR (fun W' q0 => by simp [go_sem, q0]) ⟨c, HAH.out, A3, k3, ?_, ?_, ?_⟩
              · rw [← hle]
                try simp only [Nat.add_zero]
              · have e1 : prs (ins l c (x, y)) = prs (l.take c) ++ [.int .i64 x, .int .i64 y] ++ prs (l.drop c) := by simp [ins, prs]
                rw [← hle, e1]
                exact (Held.of_own H3.out.1).setCell (p := ⟨w.heap.size + 1, 0, none⟩) (by exact HBR.out) (by decide) _
              · exact (HK.out.2.2.2.trans (H3.out.2.mono hWs)).setCell (by simp) _
            · have hkc : (k : Int) ≤ c := by omega
              go_wp2_with (first
                | (at_builtin
                   refine wpList_append_any _ rfl (.tmp 26) (.tmp 30) _ rfl W.heap.size 47 i0 _ 2 16 Try.underlying28 hi0 hz0 hz1 hz2 rfl (by omega) (.slice (some ⟨W.heap.size, 0, none⟩) 0 0) 0 [] rfl (own_empty (Blk.new W 47 #[]) (Nat.le_refl _)) W.heap.size (some ⟨b, off, none⟩) k c _ rfl (HR1.out.alloc (Nat.le_refl _) _) (prs_one _) (by simp only [maxLen]; omega) (by omega) (by simp) ?_
                   intro v1 w1 hn1 hg1 hd1
                   obtain ⟨A1, k1, rfl⟩ := slice_of_own' hn1
                   rw [Nat.zero_add, List.nil_append] at hn1
                   have b1 : Below W.heap.size W w1 := ((Below.refl _ _).alloc (Nat.le_refl _) _).grown hg1 (by simp) (fun k hk => by simp [Value.ownBlock] at hk; omega)
                   have H1 := Lib.hid (And.intro hn1 b1)
                   have hs1 := b1.size
                   have cb1 := Blk.cell (Blk.below HK.out.2.1 b1 hgl) 0
                   simp at cb1
                   clear hn1 hg1 hd1 b1)
                | (at_builtin
                   refine wpList_append_any _ rfl (.tmp 32) (.tmp 36) _ rfl W.heap.size 47 i0 _ 2 16 Try.underlying28 hi0 hz0 hz1 hz2 rfl (by omega) (.slice A1 k k1) k _ rfl (H1.out.1.alloc _) (w1.heap.size + 1) (some ⟨w1.heap.size, 0, none⟩) 1 1 [.int .i64 x, .int .i64 y] rfl (reads_pair w1 x y) (by simp [Value.oneCell']) (by simp only [maxLen]; omega) (by omega) (by simp; omega) ?_
                   intro v2 w2 hn2 hg2 hd2
                   obtain ⟨A2, k2, rfl⟩ := slice_of_own' hn2
                   have b2 : Below W.heap.size W w2 := (H1.out.2.alloc hs1 _).grown hg2 (by simp; omega) (fun k hk => ownBlock_ge H1.out.1 hk)
                   have H2 := Lib.hid (And.intro hn2 b2)
                   have hs2 := b2.size
                   have cb2 := Blk.cell (Blk.below HK.out.2.1 b2 hgl) 0
                   simp at cb2
                   clear hn2 hg2 hd2 b2)
                | (at_builtin
                   refine wpList_append_any _ rfl (.tmp 38) (.tmp 42) _ rfl W.heap.size 47 i0 _ 2 16 Try.underlying28 hi0 hz0 hz1 hz2 rfl (by omega) (.slice A2 (k + 1) k2) (k + 1) _ rfl H2.out.1 w2.heap.size (some ⟨b, off + k * 2, none⟩) 0 (c - k) (prs (l.drop k)) rfl (HR2.out _ _) (prs_one _) (by simp only [maxLen]; omega) (by omega) (by omega) ?_
                   intro v3 w3 hn3 hg3 hd3
                   obtain ⟨A3, k3, rfl⟩ := slice_of_own' hn3
                   have b3 : Below W.heap.size W w3 := H2.out.2.grown hg3 hs2 (fun k hk => ownBlock_ge H2.out.1 hk)
                   have H3 := Lib.hid (And.intro hn3 b3)
                   have BR0 := Blk.below HK.out.2.2.1 b3 hlt2
                   have cr := Blk.cell BR0 0
                   have fr := Blk.frozen BR0 0
                   simp at cr
                   have HBR := Lib.hid BR0
                   clear hn3 hg3 hd3 b3 BR0))
              have BR := Blk.set_ HBR.out 0 (.slice A3 (k + 1 + (0)) k3)
              simp at BR
              have hil := ins_length l k (x, y) (by rw [← HN.out]; exact hk)
              have hle : k + 1 + (0) = (ins l k (x, y)).length := by rw [hil, ← HN.out]; try omega
              refine ret_cell1 (g := w.heap.size + 1) rfl rfl rfl BR (fun W' q0 => by simp [go_sem, q0]) ⟨k, HAH.out, A3, k3, ?_, ?_, ?_⟩
              · rw [← hle]
                try simp only [Nat.add_zero]
              · have e1 : prs (ins l k (x, y)) = prs (l.take k) ++ [.int .i64 x, .int .i64 y] ++ prs (l.drop k) := by simp [ins, prs]
                rw [← hle, e1]
                exact (Held.of_own H3.out.1).setCell (p := ⟨w.heap.size + 1, 0, none⟩) (by exact HBR.out) (by decide) _
              · exact (HK.out.2.2.2.trans (H3.out.2.mono hWs)).setCell (by simp) _

theorem chg_ins {l : List (Int × Int)} {k : Nat} {x y : Int} (hk : k < l.length) : ins (del l k) k (x, y) = chg l k (x, y) := by
  have hl : (l.take k).length = k := by rw [List.length_take]; omega
  unfold ins del chg
  rw [List.take_append_of_le_length (by omega), List.take_of_length_le (by omega), List.drop_append_of_le_length (by omega), List.drop_eq_nil_of_le (by omega), List.nil_append, List.set_eq_take_append_cons_drop, if_pos hk]
  simp
theorem del_place {l : List (Int × Int)} {k : Nat} {x : Int} (hs : Srt l) (hk : k < l.length) (hx : l[k].1 = x) : Place (del l k) x k := by
  have hl : (l.take k).length = k := by rw [List.length_take]; omega
  refine ⟨by rw [del_length l k hk]; omega, fun j hj hjk => ?_, fun j hj hjk => ?_⟩
  · unfold del at hj ⊢
    rw [List.getElem_append_left (by omega), List.getElem_take]
    have := hs j k (by omega) hk hjk
    omega
  · unfold del at hj ⊢
    rw [List.getElem_append_right (by omega), List.getElem_drop]
    simp only [List.length_append, List.length_drop, hl] at hj
    have := hs k (k + 1 + (j - (l.take k).length)) hk (by omega) (by omega)
    omega
set_option maxHeartbeats 1000000 in
/-- Set of a number that is there. -/
theorem rset_any (A : Option Addr) (n c : Nat) (l : List (Int × Int)) (k : Nat) (x y : Int) (w : World) (hn : n = l.length) (hnb : n ≤ 5000) (hs : Srt l) (hk : k < l.length) (hx : l[k].1 = x) (h : Held w 47 2 A n c (prs l)) :
    Calls Try.prog 23 #[.agg #[.slice A n c], .int .i64 x, .int .i64 y] w (RowIs w (chg l k (x, y))) := by
  have hc := h.2.1
  have hc2 := h.2.2.1
  have bx := Blk.alloc (Blk.new w 30 #[.slice A n c]) (.cells #[.slice none 0 0] 30)
  have br := Blk.new (w.alloc (.cells #[.slice A n c] 30)) 30 #[.slice none 0 0]
  have B0 : Below w.heap.size w ((w.alloc (.cells #[.slice A n c] 30)).alloc (.cells #[.slice none 0 0] 30)) := ((Below.refl _ _).alloc (Nat.le_refl _) _).alloc (by simp) _
  simp only [World.size_alloc] at br
  have HK := Lib.hid (And.intro ((h.alloc (.cells #[.slice A n c] 30)).alloc (.cells #[.slice none 0 0] 30)) (And.intro bx (And.intro br B0)))
  have cb := Blk.cell bx 0
  simp at cb
  have HD := Lib.hid (rdel_any A n c l x _ hn hnb HK.out.1)
  have HW := Lib.hid (wo_del hs hk hx)
  have hdl := Lib.hid (del_length l k hk)
  have hnb2 : (del l k).length ≤ 5000 := by rw [hdl.out]; omega
  have HPL := Lib.hid (del_place hs hk hx)
  have HDS := Lib.hid (del_srt (k := k) hs)
  have HCI := Lib.hid (chg_ins (x := x) (y := y) hk)
  clear h bx br B0 hn hs hx
  go_enter Try.func23, Try.ntmps23
  go_wp2_with fail
  generalize (w.alloc (.cells #[.slice A n c] 30)).alloc (.cells #[.slice none 0 0] 30) = W at *
  refine HD.out.mono ?_
  rintro e w1 ⟨A1, c1, rfl, h1, b1⟩
  rw [HW.out] at h1 ⊢
  have HB1 := Lib.hid b1
  have hs1 := b1.size
  have br1 := Blk.below HK.out.2.2.1 b1 (Blk.lt HK.out.2.2.1)
  have HBR := Lib.hid br1
  have h2 := h1.alloc (.cells #[.slice A1 (del l k).length c1] 30)
  have HB2 := Lib.hid ((HK.out.2.2.2.trans (b1.mono HK.out.2.2.2.size)).alloc (Nat.le_trans HK.out.2.2.2.size hs1) (.cells #[.slice A1 (del l k).length c1] 30))
  have HP := Lib.hid (rput_any A1 _ c1 (del l k) x y _ rfl hnb2 h2)
  have br2 := HBR.out.alloc (.cells #[.slice A1 (del l k).length c1] 30)
  have HBR2 := Lib.hid br2
  clear b1 h1 br1 h2 br2
  go_wp2_with fail
  refine HP.out.mono ?_
  rintro e w3 ⟨k3, ha, A3, c3, rfl, h3, b3⟩
  obtain rfl : k = k3 := place_one HPL.out (ha.place HDS.out)
  rw [HCI.out] at h3 ⊢
  have HB3 := Lib.hid (HB2.out.trans (b3.mono HB2.out.size))
  have br3 := Blk.below HBR2.out b3 (Blk.lt HBR2.out)
  have cr := Blk.cell br3 0
  have fr := Blk.frozen br3 0
  simp at cr
  have H3 := Lib.hid (And.intro h3 br3)
  clear h3 b3 br3 ha
  go_wp2_with fail
  have BR := Blk.set_ H3.out.2 0 (.slice A3 (chg l k (x, y)).length c3)
  simp at BR
  refine ret_cell1 (g := w.heap.size + 1) rfl rfl rfl BR (fun W' q0 => by simp [go_sem, q0]) ⟨A3, c3, rfl, ?_, ?_⟩
  · exact H3.out.1.setCell (p := ⟨w.heap.size + 1, 0, none⟩) (by exact H3.out.2) (by decide) _
  · exact HB3.out.setCell (by simp) _
set_option maxHeartbeats 2000000 in
theorem rids_any (A : Option Addr) (n c : Nat) (l : List (Int × Int)) (w : World) (hn : n = l.length) (hnb : n ≤ 5000) (h : Held w 47 2 A n c (prs l)) :
    Calls Try.prog 12 #[.agg #[.slice A n c]] w (IDsIs w l) := by
  obtain ⟨i0, hi0, hz0, hz1, hz2⟩ := info_parts info_INT
  have hc := h.2.1
  have hc2 := h.2.2.1
  have B0 : Below w.heap.size w (w.alloc (.cells #[.slice A n c] 30)) := (Below.refl _ _).alloc (Nat.le_refl _) _
  have HK := Lib.hid (And.intro (h.alloc (.cells #[.slice A n c] 30)) (And.intro (Blk.new w 30 #[.slice A n c]) B0))
  have HN := Lib.hid hn
  clear h hn B0
  go_enter Try.func12, Try.ntmps12
  go_wp2_with fail
  generalize w.alloc (.cells #[.slice A n c] 30) = W at *
  have hWs := HK.out.2.2.size
  go_loopw [3, 4] (fun ov iv wr => ∃ (j k : Nat) (B : Option Addr), j ≤ n ∧ iv = .int .i64 j ∧ ov = .slice B j k ∧ wr.ownsRow W.heap.size 3 1 (.slice B j k) j (nums ((l.take j).map (·.1))) ∧ Below W.heap.size W wr) (fun _ i _ => n - (intOf i).toNat)
  case atStart => exact ⟨0, 0, none, by omega, rfl, rfl, own_nil _ _ _ _, Below.refl _ _⟩
  case round =>
    obtain ⟨j, k, B, hj, rfl, rfl, ho, hb⟩ := hrel
    have HO := Lib.hid (And.intro ho hb)
    have hbs := hb.size
    have cb := Blk.cell (Blk.below HK.out.2.1 hb (Blk.lt HK.out.2.1)) 0
    simp at cb
    clear ho hb
    by_cases hlt : j < n
    · have hjl : j < l.length := by rw [← HN.out]; exact hlt
      obtain ⟨b, off, hA, hbk, c0, _⟩ := held_prs (HK.out.1.below HO.out.2) hjl
      have hj0 : (0 : Int) ≤ j := by omega
      have hj1 : (j : Int) < n := by omega
      have HS := Lib.hid (map_take_snoc l j hjl)
      rw [hA] at cb
      generalize hy : l[j].1 = y at *
      have HR := Lib.hid (reads_num wr y)
      clear hA hy
      go_wp2_with (first
        | (at_builtin
           refine wpList_append_any _ rfl (.tmp 12) (.tmp 19) _ rfl W.heap.size 3 i0 _ 1 8 Try.underlying37 hi0 hz0 hz1 hz2 rfl (by omega) (.slice B j k) j _ rfl (HO.out.1.alloc _) (wr.heap.size + 1) (some ⟨wr.heap.size, 0, none⟩) 1 1 [.int .i64 y] rfl HR.out (by simp [Value.oneCell']) (by simp only [maxLen]; omega) (by omega) (by simp; omega) ?_
           intro v1 w1 hn1 hg1 hd1
           obtain ⟨B1, k1, rfl⟩ := slice_of_own' hn1
           rw [← HS.out] at hn1
           have b1 : Below W.heap.size W w1 := (HO.out.2.alloc hbs _).grown hg1 (by simp; omega) (fun k hk => ownBlock_ge HO.out.1 hk)
           have H1 := Lib.hid (And.intro hn1 b1)
           clear hn1 hg1 hd1 b1))
      go_roundw
      case rel => exact ⟨j + 1, k1, B1, by omega, by go_num, rfl, H1.out.1, H1.out.2⟩
      case measure => simp [intOf]; omega
    · obtain rfl : j = n := by omega
      go_wp2_with fail
      go_ret
      refine ⟨B, k, by rw [HN.out]; rfl, ?_, HK.out.2.2.trans (HO.out.2.mono hWs)⟩
      have h := Held.of_own HO.out.1
      rw [List.take_of_length_le (by rw [HN.out]; exact Nat.le_refl _)] at h
      rw [← HN.out]
      exact h
end Go.Proofs.Ytfdfcegomiehbaa
