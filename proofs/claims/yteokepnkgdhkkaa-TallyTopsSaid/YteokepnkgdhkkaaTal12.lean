/- The walks of tally's All, Find. -/
import Derived.Test.YteokepnkgdhkkaaRows
import Derived.WalkKit
import Derived.ProofKit
import Derived.Handy
import Derived.Deep.QuietTactic
import Derived.BigQuiet
import Derived.Deep.RegionWith
import Derived.Deep.RegionHeld3
import Derived.Deep.AppendLies
import Derived.WalkLawsBesides
import Derived.WalkSmall
import Derived.Deep.Cut
import Derived.Test.YteokepnkgdhkkaaTal11
namespace Go.Proofs.Yteokepnkgdhkkaa
open Go.RowKit
set_option linter.unusedVariables false
theorem blk_far8 {w : World} {g g' : Nat} {t : TypeId} {cs : Array Value} (h : Blk w g t cs) (hg : g ≠ g') (x : Sm) : Blk (set8 w g' x) g t cs :=
  Blk.far (Blk.far (Blk.far (Blk.far (Blk.far (Blk.far (Blk.far (Blk.far h (p := ⟨g', 0, none⟩) hg _) (p := ⟨g', 1, none⟩) hg _) (p := ⟨g', 2, none⟩) hg _) (p := ⟨g', 3, none⟩) hg _) (p := ⟨g', 4, none⟩) hg _) (p := ⟨g', 5, none⟩) hg _) (p := ⟨g', 6, none⟩) hg _) (p := ⟨g', 7, none⟩) hg _
def allL (l : List Sm) : Sm := l.foldl Sm.add (Sm.zero 0)
theorem allL_take (l : List Sm) (k : Nat) (hk : k < l.length) : allL (l.take (k + 1)) = Sm.add (allL (l.take k)) l[k] := by
  unfold allL
  rw [List.take_succ_eq_append_getElem hk, List.foldl_append]
  rfl
theorem allL_bd {l : List Sm} {K : Int} (hK : 0 ≤ K) (h : ∀ a ∈ l, a.bd K) : (allL l).bd (l.length * K) := by
  have : ∀ (r : List Sm) (acc : Sm) (M : Int), acc.bd M → (∀ a ∈ r, a.bd K) → (r.foldl Sm.add acc).bd (M + r.length * K) := by
    intro r
    induction r with
    | nil => intro acc M ha _; simpa using ha
    | cons x r ih =>
      intro acc M ha hr
      have := ih (Sm.add acc x) (M + K) (Sm.bd_add ha (hr x (by simp))) (fun b hb => hr b (by simp [hb]))
      rw [List.length_cons]
      have e : M + ((r.length + 1 : Nat) : Int) * K = M + K + r.length * K := by
        rw [Int.natCast_add, Int.add_mul]; omega
      rw [e]
      exact this
  have h2 := this l (Sm.zero 0) 0 (by simp [Sm.zero, Sm.bd]) h
  simpa [allL] using h2
set_option maxHeartbeats 4000000 in
theorem all_any (B n c : Nat) (A : Option Addr) (l : List Sm) (w : World) (h : Sms w B A n c l) (hB : B ≤ w.heap.size) (hnb : n ≤ 5000) (K : Int) (hK0 : 0 ≤ K) (hb : ∀ a ∈ l, a.bd K) (hK : (n : Int) * K ≤ 576460752303423488) :
    Calls Try.prog 15 #[.slice A n c] w fun e w' => e = .returned (.agg (sa (allL l))) ∧ Below w.heap.size w w' := by
  have hc := h.cap_ge
  have hc2 := h.cap_le
  have HN := Lib.hid h.len
  have HB := Lib.hid hb
  have HKK := Lib.hid (And.intro hK0 hK)
  clear hK0 hK
  have HK := Lib.hid h
  have b1 : Blk ((w.alloc (.cells (sa (Sm.zero 0)) 33)).alloc (.cells (sa (Sm.zero 0)) 33)) w.heap.size 33 (sa (Sm.zero 0)) := Blk.alloc (Blk.new w 33 (sa (Sm.zero 0))) _
  have b2 := Blk.new (w.alloc (.cells (sa (Sm.zero 0)) 33)) 33 (sa (Sm.zero 0))
  rw [World.size_alloc] at b2
  have B2 : Below w.heap.size w ((w.alloc (.cells (sa (Sm.zero 0)) 33)).alloc (.cells (sa (Sm.zero 0)) 33)) := ((Below.refl _ _).alloc (Nat.le_refl _) _).alloc (by simp) _
  have H1 : Hid (Blk ((w.alloc (.cells #[.int .i64 0, .int .i64 0, .int .i64 0, .int .i64 0, .bool false, .bool false, .int .i64 0, .int .i64 0] 33)).alloc (.cells #[.int .i64 0, .int .i64 0, .int .i64 0, .int .i64 0, .bool false, .bool false, .int .i64 0, .int .i64 0] 33)) w.heap.size 33 (sa (Sm.zero 0)) ∧ Blk ((w.alloc (.cells #[.int .i64 0, .int .i64 0, .int .i64 0, .int .i64 0, .bool false, .bool false, .int .i64 0, .int .i64 0] 33)).alloc (.cells #[.int .i64 0, .int .i64 0, .int .i64 0, .int .i64 0, .bool false, .bool false, .int .i64 0, .int .i64 0] 33)) (w.heap.size + 1) 33 (sa (Sm.zero 0)) ∧ Below w.heap.size w ((w.alloc (.cells #[.int .i64 0, .int .i64 0, .int .i64 0, .int .i64 0, .bool false, .bool false, .int .i64 0, .int .i64 0] 33)).alloc (.cells #[.int .i64 0, .int .i64 0, .int .i64 0, .int .i64 0, .bool false, .bool false, .int .i64 0, .int .i64 0] 33))) := ⟨b1, b2, B2⟩
  clear h b1 b2 B2 hb
  go_enter Try.func15, Try.ntmps15
  go_upto_region 2 with fail
  generalize (w.alloc (.cells #[.int .i64 0, .int .i64 0, .int .i64 0, .int .i64 0, .bool false, .bool false, .int .i64 0, .int .i64 0] 33)).alloc (.cells #[.int .i64 0, .int .i64 0, .int .i64 0, .int .i64 0, .bool false, .bool false, .int .i64 0, .int .i64 0] 33) = W at *
  go_wp2_with fail
  go_loopw [9] (fun iv wr => ∃ k : Nat, k ≤ n ∧ iv = .int .i64 k ∧ Blk wr w.heap.size 33 (sa (Sm.zero 0)) ∧ Blk wr (w.heap.size + 1) 33 (sa (allL (l.take k))) ∧ Below w.heap.size w wr) (fun i _ => n - (intOf i).toNat)
  case atStart => exact ⟨0, by omega, rfl, H1.out⟩
  case round =>
    obtain ⟨k, hk, rfl, hb1, hb2, hbw⟩ := hrel
    have HM := Lib.hid (And.intro hb1 (And.intro hb2 hbw))
    have hgl := hb2.lt
    have hk0 : (0 : Int) ≤ k := by omega
    clear hb1 hb2 hbw
    by_cases hlt : k < n
    · have hkl : k < l.length := by rw [HN.out]; exact hlt
      obtain ⟨b, off, rfl, hbB, c0, c1, c2, c3, c4, c5, c6, c7⟩ := (HK.out.below (HM.out.2.2.mono hB)).at_ k hkl
      have hk1 : (k : Int) < n := by omega
      have HT := Lib.hid (allL_take l k hkl)
      have hbd : (allL (l.take k)).bd 576460752303423488 := Sm.bd_mono (allL_bd HKK.out.1 (fun a ha => HB.out a (List.mem_of_mem_take ha))) (by
        rw [List.length_take]
        have h1 : ((min k l.length : Nat) : Int) ≤ n := by omega
        exact Int.le_trans (Int.mul_le_mul_of_nonneg_right h1 HKK.out.1) HKK.out.2)
      have HX := Lib.hid (And.intro hbd (Sm.bd_mono (HB.out l[k] (List.getElem_mem hkl)) (show K ≤ 576460752303423488 by
        have h1 := Int.mul_le_mul_of_nonneg_right (show (1 : Int) ≤ (n : Int) by omega) HKK.out.1
        have h2 := HKK.out.2
        omega)))
      clear hbd
      generalize allL (l.take k) = Y at *
      generalize l[k] = y at *
      obtain ⟨x0, x1, x2, x3, x4, x5, x6, x7⟩ := y
      obtain ⟨y0, y1, y2, y3, y4, y5, y6, y7⟩ := Y
      have bk := HM.out.2.1.alloc (.cells (sa ⟨x0, x1, x2, x3, x4, x5, x6, x7⟩) 33)
      have d0 := Blk.cell bk 0
      have d1 := Blk.cell bk 1
      have d2 := Blk.cell bk 2
      have d3 := Blk.cell bk 3
      have d4 := Blk.cell bk 4
      have d5 := Blk.cell bk 5
      have d6 := Blk.cell bk 6
      have d7 := Blk.cell bk 7
      simp [sa] at d0 d1 d2 d3 d4 d5 d6 d7
      clear bk
      have hbl : b < wr.heap.size := by have := HM.out.2.2.size; omega
      try simp only at c0 c1 c2 c3 c4 c5 c6 c7
      go_wp2_with (first
        | (go_at_call 27
           refine (plus_any ⟨y0, y1, y2, y3, y4, y5, y6, y7⟩ ⟨x0, x1, x2, x3, x4, x5, x6, x7⟩ _ HX.out.1 HX.out.2).mono ?_
           rintro e w1 ⟨rfl, b1⟩
           have k1 := HM.out.2.1.alloc (.cells (sa ⟨x0, x1, x2, x3, x4, x5, x6, x7⟩) 33)
           have k2 := k1.below b1 k1.lt
           have k3 := (HM.out.1.alloc (.cells (sa ⟨x0, x1, x2, x3, x4, x5, x6, x7⟩) 33)).below b1 (HM.out.1.alloc (.cells (sa ⟨x0, x1, x2, x3, x4, x5, x6, x7⟩) 33)).lt
           have hws := HM.out.2.2.size
           have k4 : Below w.heap.size w w1 := (HM.out.2.2.alloc hws (.cells (sa ⟨x0, x1, x2, x3, x4, x5, x6, x7⟩) 33)).trans (b1.mono (by simp; omega))
           rw [← HT.out]
           have H2 := Lib.hid (And.intro k2 (And.intro k3 k4))
           have f0 := Blk.frozen k2 0
           have f1 := Blk.frozen k2 1
           have f2 := Blk.frozen k2 2
           have f3 := Blk.frozen k2 3
           have f4 := Blk.frozen k2 4
           have f5 := Blk.frozen k2 5
           have f6 := Blk.frozen k2 6
           have f7 := Blk.frozen k2 7
           have g0 := Blk.cell k2 0
           have g1 := Blk.cell k2 1
           have g2 := Blk.cell k2 2
           have g3 := Blk.cell k2 3
           have g4 := Blk.cell k2 4
           have g5 := Blk.cell k2 5
           have g6 := Blk.cell k2 6
           have g7 := Blk.cell k2 7
           simp [sa] at g0 g1 g2 g3 g4 g5 g6 g7
           clear k1 k2 k3 k4 b1
           generalize hV : allL (l.take (k + 1)) = V at *
           have HV := Lib.hid hV
           clear hV
           obtain ⟨v0, v1, v2, v3, v4, v5, v6, v7⟩ := V
           unfold sa))
      go_roundw
      case rel => exact ⟨k + 1, by omega, by go_num, blk_far8 H2.out.2.1 (by omega) ⟨v0, v1, v2, v3, v4, v5, v6, v7⟩, by rw [HV.out]; exact Blk.set8 H2.out.1 ⟨v0, v1, v2, v3, v4, v5, v6, v7⟩, below_set8 H2.out.2.2 (by omega) ⟨v0, v1, v2, v3, v4, v5, v6, v7⟩⟩
      case measure => simp [intOf]; omega
    · obtain rfl : n = k := by omega
      have e0 := Lib.hid (show l.take n = l from List.take_of_length_le (by rw [HN.out]; exact Nat.le_refl _))
      have hb2 := HM.out.2.1
      rw [e0.out] at hb2
      have H2 := Lib.hid (And.intro hb2 (And.intro HM.out.1 HM.out.2.2))
      clear hb2 HM H1
      generalize hV : allL l = V at *
      have HV := Lib.hid hV
      clear hV
      obtain ⟨v0, v1, v2, v3, v4, v5, v6, v7⟩ := V
      have c0 := Blk.cell H2.out.1 0
      have c1 := Blk.cell H2.out.1 1
      have c2 := Blk.cell H2.out.1 2
      have c3 := Blk.cell H2.out.1 3
      have c4 := Blk.cell H2.out.1 4
      have c5 := Blk.cell H2.out.1 5
      have c6 := Blk.cell H2.out.1 6
      have c7 := Blk.cell H2.out.1 7
      have d0 := Blk.cell H2.out.2.1 0
      have d1 := Blk.cell H2.out.2.1 1
      have d2 := Blk.cell H2.out.2.1 2
      have d3 := Blk.cell H2.out.2.1 3
      have d4 := Blk.cell H2.out.2.1 4
      have d5 := Blk.cell H2.out.2.1 5
      have d6 := Blk.cell H2.out.2.1 6
      have d7 := Blk.cell H2.out.2.1 7
      have f0 := Blk.frozen H2.out.2.1 0
      have f1 := Blk.frozen H2.out.2.1 1
      have f2 := Blk.frozen H2.out.2.1 2
      have f3 := Blk.frozen H2.out.2.1 3
      have f4 := Blk.frozen H2.out.2.1 4
      have f5 := Blk.frozen H2.out.2.1 5
      have f6 := Blk.frozen H2.out.2.1 6
      have f7 := Blk.frozen H2.out.2.1 7
      simp [sa, Sm.zero] at c0 c1 c2 c3 c4 c5 c6 c7 d0 d1 d2 d3 d4 d5 d6 d7
      go_wp2_with fail
      have hB := Blk.set8 H2.out.2.1 ⟨v0, v1, v2, v3, v4, v5, v6, v7⟩
      have hW := below_set8 H2.out.2.2 (show w.heap.size ≤ w.heap.size by omega) ⟨v0, v1, v2, v3, v4, v5, v6, v7⟩
      exact ret_cell8 (t := 33) (g := w.heap.size) (x := ⟨v0, v1, v2, v3, v4, v5, v6, v7⟩) rfl rfl rfl hB (fun W' h => load8 W' h) ⟨by rw [HV.out], hW⟩
/-- What Find tells. -/
def FoundE (w : World) (l : List Sm) (x : Int) (e : Ending) (w' : World) : Prop :=
  Below w.heap.size w w' ∧ ((∃ (k : Nat) (hk : k < l.length), l[k].st = x ∧ (∀ (j : Nat) (hj : j < l.length), j < k → l[j].st ≠ x) ∧ e = .returned (.tuple #[.agg (sa l[k]), .bool true])) ∨ ((∀ (j : Nat) (hj : j < l.length), l[j].st ≠ x) ∧ e = .returned (.tuple #[.agg (sa (Sm.zero 0)), .bool false])))
set_option maxHeartbeats 4000000 in
theorem find_sum (B n c : Nat) (A : Option Addr) (l : List Sm) (x : Int) (w : World) (h : Sms w B A n c l) (hB : B ≤ w.heap.size) (hnb : n ≤ 5000) :
    Calls Try.prog 18 #[.slice A n c, .int .i64 x] w (FoundE w l x) := by
  have hc := h.cap_ge
  have hc2 := h.cap_le
  have HN := Lib.hid h.len
  have HK := Lib.hid h
  have b1 : Blk ((w.alloc (.cells (sa (Sm.zero 0)) 33)).alloc (.cells (sa (Sm.zero 0)) 33)) w.heap.size 33 (sa (Sm.zero 0)) := Blk.alloc (Blk.new w 33 (sa (Sm.zero 0))) _
  have b2 := Blk.new (w.alloc (.cells (sa (Sm.zero 0)) 33)) 33 (sa (Sm.zero 0))
  rw [World.size_alloc] at b2
  have B2 : Below w.heap.size w ((w.alloc (.cells (sa (Sm.zero 0)) 33)).alloc (.cells (sa (Sm.zero 0)) 33)) := ((Below.refl _ _).alloc (Nat.le_refl _) _).alloc (by simp) _
  have H1 : Hid (Blk ((w.alloc (.cells #[.int .i64 0, .int .i64 0, .int .i64 0, .int .i64 0, .bool false, .bool false, .int .i64 0, .int .i64 0] 33)).alloc (.cells #[.int .i64 0, .int .i64 0, .int .i64 0, .int .i64 0, .bool false, .bool false, .int .i64 0, .int .i64 0] 33)) w.heap.size 33 (sa (Sm.zero 0)) ∧ Blk ((w.alloc (.cells #[.int .i64 0, .int .i64 0, .int .i64 0, .int .i64 0, .bool false, .bool false, .int .i64 0, .int .i64 0] 33)).alloc (.cells #[.int .i64 0, .int .i64 0, .int .i64 0, .int .i64 0, .bool false, .bool false, .int .i64 0, .int .i64 0] 33)) (w.heap.size + 1) 33 (sa (Sm.zero 0)) ∧ Below w.heap.size w ((w.alloc (.cells #[.int .i64 0, .int .i64 0, .int .i64 0, .int .i64 0, .bool false, .bool false, .int .i64 0, .int .i64 0] 33)).alloc (.cells #[.int .i64 0, .int .i64 0, .int .i64 0, .int .i64 0, .bool false, .bool false, .int .i64 0, .int .i64 0] 33))) := ⟨b1, b2, B2⟩
  clear h b1 b2 B2
  go_enter Try.func18, Try.ntmps18
  go_upto_region 2 with fail
  generalize (w.alloc (.cells #[.int .i64 0, .int .i64 0, .int .i64 0, .int .i64 0, .bool false, .bool false, .int .i64 0, .int .i64 0] 33)).alloc (.cells #[.int .i64 0, .int .i64 0, .int .i64 0, .int .i64 0, .bool false, .bool false, .int .i64 0, .int .i64 0] 33) = W at *
  go_wp2_with fail
  go_loopw [12] (fun iv wr => ∃ k : Nat, k ≤ n ∧ iv = .int .i64 k ∧ (∀ (j : Nat) (hj : j < l.length), j < k → l[j].st ≠ x) ∧ Blk wr w.heap.size 33 (sa (Sm.zero 0)) ∧ Blk wr (w.heap.size + 1) 33 (sa (Sm.zero 0)) ∧ Below w.heap.size w wr) (fun i _ => n - (intOf i).toNat)
  case atStart => exact ⟨0, by omega, rfl, (fun j _ h => absurd h (by omega)), H1.out⟩
  case round =>
    obtain ⟨k, hk, rfl, hno, hb1, hb2, hbw⟩ := hrel
    have HNO := Lib.hid hno
    have HM := Lib.hid (And.intro hb1 (And.intro hb2 hbw))
    have hgl := hb2.lt
    have hk0 : (0 : Int) ≤ k := by omega
    clear hno
    by_cases hlt : k < n
    · have hkl : k < l.length := by rw [HN.out]; exact hlt
      obtain ⟨b, off, rfl, hbB, c0, c1, c2, c3, c4, c5, c6, c7⟩ := (HK.out.below (HM.out.2.2.mono hB)).at_ k hkl
      have hk1 : (k : Int) < n := by omega
      have HF : Hid (∀ w', Below w.heap.size w w' → l[k].st = x → FoundE w l x (.returned (.tuple #[.agg (sa l[k]), .bool true])) w') := fun w' hw he => ⟨hw, .inl ⟨k, hkl, he, HNO.out, rfl⟩⟩
      have HE : Hid (l[k].st ≠ x → ∀ (j : Nat) (hj : j < l.length), j < k + 1 → l[j].st ≠ x) := fun he j hj hjk => by
        rcases Nat.lt_or_ge j k with h | h
        · exact HNO.out j hj h
        · obtain rfl : j = k := by omega
          exact he
      generalize l[k] = y at *
      obtain ⟨x0, x1, x2, x3, x4, x5, x6, x7⟩ := y
      have hbl : b < wr.heap.size := by have := hbw.size; omega
      have k1 := hb1.alloc (.cells (sa ⟨x0, x1, x2, x3, x4, x5, x6, x7⟩) 33)
      have k2 := hb2.alloc (.cells (sa ⟨x0, x1, x2, x3, x4, x5, x6, x7⟩) 33)
      have k3 := Blk.new wr 33 (sa ⟨x0, x1, x2, x3, x4, x5, x6, x7⟩)
      have k4 : Below w.heap.size w (wr.alloc (.cells (sa ⟨x0, x1, x2, x3, x4, x5, x6, x7⟩) 33)) := hbw.alloc hbw.size _
      have H2 : Hid (Blk (wr.alloc (.cells (sa ⟨x0, x1, x2, x3, x4, x5, x6, x7⟩) 33)) w.heap.size 33 (sa (Sm.zero 0)) ∧ Blk (wr.alloc (.cells (sa ⟨x0, x1, x2, x3, x4, x5, x6, x7⟩) 33)) (w.heap.size + 1) 33 (sa (Sm.zero 0)) ∧ Blk (wr.alloc (.cells (sa ⟨x0, x1, x2, x3, x4, x5, x6, x7⟩) 33)) wr.heap.size 33 (sa ⟨x0, x1, x2, x3, x4, x5, x6, x7⟩) ∧ Below w.heap.size w (wr.alloc (.cells (sa ⟨x0, x1, x2, x3, x4, x5, x6, x7⟩) 33))) := ⟨k1, k2, k3, k4⟩
      clear k1 k2 k3 k4 hb1 hb2 hbw
      try simp only at c0 c1 c2 c3 c4 c5 c6 c7
      unfold sa at H2
      go_upto_region 5 with fail
      generalize wr.alloc (.cells #[.int .i64 x0, .int .i64 x1, .int .i64 x2, .int .i64 x3, .bool x4, .bool x5, .int .i64 x6, .int .i64 x7] 33) = w2 at *
      have d0 := Blk.cell H2.out.1 0
      have d1 := Blk.cell H2.out.1 1
      have d2 := Blk.cell H2.out.1 2
      have d3 := Blk.cell H2.out.1 3
      have d4 := Blk.cell H2.out.1 4
      have d5 := Blk.cell H2.out.1 5
      have d6 := Blk.cell H2.out.1 6
      have d7 := Blk.cell H2.out.1 7
      have f0 := Blk.frozen H2.out.1 0
      have f1 := Blk.frozen H2.out.1 1
      have f2 := Blk.frozen H2.out.1 2
      have f3 := Blk.frozen H2.out.1 3
      have f4 := Blk.frozen H2.out.1 4
      have f5 := Blk.frozen H2.out.1 5
      have f6 := Blk.frozen H2.out.1 6
      have f7 := Blk.frozen H2.out.1 7
      have g0 := Blk.cell H2.out.2.1 0
      have g1 := Blk.cell H2.out.2.1 1
      have g2 := Blk.cell H2.out.2.1 2
      have g3 := Blk.cell H2.out.2.1 3
      have g4 := Blk.cell H2.out.2.1 4
      have g5 := Blk.cell H2.out.2.1 5
      have g6 := Blk.cell H2.out.2.1 6
      have g7 := Blk.cell H2.out.2.1 7
      have e0 := Blk.cell H2.out.2.2.1 0
      have e1 := Blk.cell H2.out.2.2.1 1
      have e2 := Blk.cell H2.out.2.2.1 2
      have e3 := Blk.cell H2.out.2.2.1 3
      have e4 := Blk.cell H2.out.2.2.1 4
      have e5 := Blk.cell H2.out.2.2.1 5
      have e6 := Blk.cell H2.out.2.2.1 6
      have e7 := Blk.cell H2.out.2.2.1 7
      simp [Sm.zero] at d0 d1 d2 d3 d4 d5 d6 d7 g0 g1 g2 g3 g4 g5 g6 g7 e0 e1 e2 e3 e4 e5 e6 e7
      by_cases he : x0 = x
      · subst he
        go_wp2_with fail
        have hz : Blk w2 w.heap.size 33 (sa (Sm.zero 0)) := H2.out.1
        have hB := Blk.set8 hz ⟨x0, x1, x2, x3, x4, x5, x6, x7⟩
        have hW := below_set8 H2.out.2.2.2 (show w.heap.size ≤ w.heap.size by omega) ⟨x0, x1, x2, x3, x4, x5, x6, x7⟩
        exact ret_cell8_tmp (t := 33) (g := w.heap.size) (x := ⟨x0, x1, x2, x3, x4, x5, x6, x7⟩) rfl rfl rfl hB (fun W' h => load8 W' h) (HF.out _ hW (by first | trivial | rfl))
      · have hex : (x0 == x) = false := by simp [he]
        have HX := Lib.hid (HE.out he)
        clear he
        go_wp2_with fail
        go_roundw
        case rel => exact ⟨k + 1, by omega, by go_num, HX.out, H2.out.1, H2.out.2.1, H2.out.2.2.2⟩
        case measure => simp [intOf]; omega
    · obtain rfl : n = k := by omega
      have HF : Hid (∀ w', Below w.heap.size w w' → FoundE w l x (.returned (.tuple #[.agg (sa (Sm.zero 0)), .bool false])) w') := fun w' hw => ⟨hw, .inr ⟨fun j hj => HNO.out j hj (by rw [← HN.out]; exact hj), rfl⟩⟩
      have c0 := Blk.cell hb2 0
      have c1 := Blk.cell hb2 1
      have c2 := Blk.cell hb2 2
      have c3 := Blk.cell hb2 3
      have c4 := Blk.cell hb2 4
      have c5 := Blk.cell hb2 5
      have c6 := Blk.cell hb2 6
      have c7 := Blk.cell hb2 7
      have d0 := Blk.cell hb1 0
      have d1 := Blk.cell hb1 1
      have d2 := Blk.cell hb1 2
      have d3 := Blk.cell hb1 3
      have d4 := Blk.cell hb1 4
      have d5 := Blk.cell hb1 5
      have d6 := Blk.cell hb1 6
      have d7 := Blk.cell hb1 7
      have f0 := Blk.frozen hb1 0
      have f1 := Blk.frozen hb1 1
      have f2 := Blk.frozen hb1 2
      have f3 := Blk.frozen hb1 3
      have f4 := Blk.frozen hb1 4
      have f5 := Blk.frozen hb1 5
      have f6 := Blk.frozen hb1 6
      have f7 := Blk.frozen hb1 7
      simp [sa, Sm.zero] at c0 c1 c2 c3 c4 c5 c6 c7 d0 d1 d2 d3 d4 d5 d6 d7
      clear hb1 hb2 hbw
      go_wp2_with fail
      have hB := Blk.set8 HM.out.1 (Sm.zero 0)
      have hW := below_set8 HM.out.2.2 (show w.heap.size ≤ w.heap.size by omega) (Sm.zero 0)
      exact ret_cell8_tmp (t := 33) (g := w.heap.size) (x := Sm.zero 0) rfl rfl rfl hB (fun W' h => load8 W' h) (HF.out _ hW)
end Go.Proofs.Yteokepnkgdhkkaa
