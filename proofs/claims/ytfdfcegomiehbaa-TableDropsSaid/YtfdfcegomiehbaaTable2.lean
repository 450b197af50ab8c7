/- The walks of package table, second part: what turns it. -/
import Derived.Test.YtfdfcegomiehbaaRows
import Derived.WalkKit
import Derived.ProofKit
import Derived.Handy
import Derived.Test.YtfdfcegomiehbaaMem
import Derived.Test.YtfdfcegomiehbaaLift
import Derived.Test.YtfdfcegomiehbaaApp
import Derived.Test.YtfdfcegomiehbaaReads
import Derived.Test.YtfdfcegomiehbaaOrd
import Derived.Test.YtfdfcegomiehbaaRow
import Derived.Test.YtfdfcegomiehbaaIns
import Derived.Test.YtfdfcegomiehbaaTable
import Derived.Deep.QuietTactic
import Derived.BigQuiet
import Derived.Deep.RegionWith
import Derived.Deep.RegionHeld3
import Derived.Deep.AppendLies
import Derived.WalkLawsBesides
import Derived.WalkSmall
namespace Go.Proofs.Ytfdfcegomiehbaa
open Go.RowKit
set_option linter.unusedVariables false

theorem own_len (A : Option Addr) (n c m d : Nat) : (Value.slice A n c).ownBlock = (Value.slice A m d).ownBlock := by cases A <;> rfl
def blks (v : Value) : List Nat := v.ownBlock.toList
theorem mem_blks {v : Value} {x : Nat} : x ∈ blks v ↔ v.ownBlock = some x := by simp [blks]
theorem Only.of_grown {w w' : World} {v : Value} (h : w.grownBy w' v.ownBlock) : Only (blks v) w w' :=
  ⟨h.os, h.tape, h.output, h.size, fun k hk hn => h.block k hk (fun e => hn (mem_blks.2 e.symm))⟩

/-- A list with one more, one other, one less, at place k. -/
def ins (l : List (Int × Int)) (k : Nat) (p : Int × Int) : List (Int × Int) := l.take k ++ [p] ++ l.drop k
def chg (l : List (Int × Int)) (k : Nat) (p : Int × Int) : List (Int × Int) := l.set k p
def del (l : List (Int × Int)) (k : Nat) : List (Int × Int) := l.take k ++ l.drop (k + 1)
theorem ins_length (l : List (Int × Int)) (k : Nat) (p : Int × Int) (hk : k ≤ l.length) : (ins l k p).length = l.length + 1 := by simp [ins]; omega
theorem srt_iff {l : List (Int × Int)} : Srt l ↔ l.Pairwise fun a b => a.1 < b.1 := by
  rw [List.pairwise_iff_getElem]
  exact ⟨fun h i j hi hj hij => h i j hi hj hij, fun h i j hi hj hij => h i j hi hj hij⟩
theorem ins_srt {l : List (Int × Int)} {k : Nat} {x v : Int} (hs : Srt l) (hp : Place l x k) (hn : ∀ (j : Nat) (hj : j < l.length), l[j].1 ≠ x) : Srt (ins l k (x, v)) := by
  obtain ⟨h1, h2, h3⟩ := hp
  rw [srt_iff] at hs ⊢
  have e : l.take k ++ l.drop k = l := List.take_append_drop k l
  rw [← e, List.pairwise_append] at hs
  obtain ⟨p1, p2, p3⟩ := hs
  unfold ins
  rw [List.append_assoc, List.pairwise_append, List.singleton_append, List.pairwise_cons]
  refine ⟨p1, ⟨fun b hb => ?_, p2⟩, fun a ha b hb => ?_⟩
  · obtain ⟨i, hi, rfl⟩ := List.mem_iff_getElem.1 hb
    rw [List.getElem_drop]
    simp only [List.length_drop] at hi
    have := h3 (k + i) (by omega) (by omega)
    have := hn (k + i) (by omega)
    simp only
    omega
  · rcases List.mem_cons.1 hb with rfl | hb
    · obtain ⟨i, hi, rfl⟩ := List.mem_iff_getElem.1 ha
      rw [List.getElem_take]
      simp only [List.length_take] at hi
      exact h2 i (by omega) (by omega)
    · exact p3 a ha b hb
theorem del_length (l : List (Int × Int)) (k : Nat) (hk : k < l.length) : (del l k).length = l.length - 1 := by simp [del]; omega
theorem del_srt {l : List (Int × Int)} {k : Nat} (hs : Srt l) : Srt (del l k) := by
  rw [srt_iff] at hs ⊢
  refine hs.sublist ?_
  have e : l.take k ++ l.drop k = l := List.take_append_drop k l
  conv => rhs; rw [← e]
  exact List.Sublist.append (List.Sublist.refl _) (by rw [← List.tail_drop]; exact List.tail_sublist _)
theorem chg_srt {l : List (Int × Int)} {k : Nat} {x v : Int} (hs : Srt l) (hk : k < l.length) (hx : l[k].1 = x) : Srt (chg l k (x, v)) := by
  intro i j hi hj hij
  simp only [chg, List.length_set] at hi hj
  simp only [chg, List.getElem_set]
  have h := hs i j hi hj hij
  split <;> split
  · omega
  · next a b => subst a; rw [hx] at h; exact h
  · next a b => subst b; rw [hx] at h; exact h
  · exact h
theorem prs_set (l : List (Int × Int)) (k : Nat) (x v : Int) (hk : k < l.length) (hx : l[k].1 = x) : (prs l).set (k * 2 + 1) (.int .i64 v) = prs (l.set k (x, v)) := by
  have e : prs l = prs (l.take k) ++ prs (l.drop k) := by rw [← prs_append, List.take_append_drop]
  have hl : (prs (l.take k)).length = k * 2 := by rw [prs_length, List.length_take]; omega
  have e3 : l.drop k = (x, l[k].2) :: l.drop (k + 1) := by rw [List.drop_eq_getElem_cons hk, ← hx]
  have e2 : l.set k (x, v) = l.take k ++ (x, v) :: l.drop (k + 1) := by rw [List.set_eq_take_append_cons_drop, if_pos hk]
  rw [e, List.set_append_right _ _ (by omega), hl, Nat.add_sub_cancel_left, e2, prs_append, e3]
  rfl

/-- What a call leaves of a table. -/
def TabTurn (base : Nat) (w : World) (g : Nat) (most : Int) (v : Value) (l' : List (Int × Int)) (w' : World) : Prop := (∃ A' cap', TabAt base w' g most A' cap' l' ∧ ∀ z, (Value.slice A' l'.length cap').ownBlock = some z → v.ownBlock = some z ∨ w.heap.size ≤ z) ∧ Only (g :: blks v) w w'
theorem TabTurn.of_below {base : Nat} {w w' : World} {g cap : Nat} {most : Int} {A : Option Addr} {l : List (Int × Int)} (k : TabAt base w g most A cap l) (b : Below w.heap.size w w') : TabTurn base w g most (.slice A l.length cap) l w' :=
  ⟨⟨A, cap, k.below b, fun z hz => .inl hz⟩, Only.of_below b⟩
def PutIs (base : Nat) (w : World) (g : Nat) (most : Int) (v : Value) (l : List (Int × Int)) (x y : Int) (e : Ending) (w' : World) : Prop :=
  ∃ c l', e = .returned (.int .i64 c) ∧ TabTurn base w g most v l' w' ∧
    ((c = 8 ∧ l' = l ∧ ∃ (k : Nat) (hk : k < l.length), l[k].1 = x) ∨ ((∀ (j : Nat) (hj : j < l.length), l[j].1 ≠ x) ∧ ((c = 16 ∧ l' = l ∧ most ≤ l.length) ∨ (c = 0 ∧ (l.length : Int) < most ∧ ∃ k, Place l x k ∧ l' = ins l k (x, y)))))
set_option maxHeartbeats 2000000 in
theorem put_any (base g cap : Nat) (most x y : Int) (A : Option Addr) (l : List (Int × Int)) (w : World) (k : TabAt base w g most A cap l) (hm : most ≤ 1024) :
    Calls Try.prog 19 #[.pointer (some ⟨g, 0, none⟩), .int .i64 x, .int .i64 y] w (PutIs base w g most (.slice A l.length cap) l x y) := by
  have HF := Lib.hid (find_any base g cap most x A l w k)
  have HK := Lib.hid k
  have hlen := k.few
  clear k
  go_enter Try.func19, Try.ntmps19
  go_wp2_with fail
  refine HF.out.mono ?_
  rintro e w1 ⟨k, b, rfl, hf, b1⟩
  have HK1 := Lib.hid (HK.out.below b1)
  have HB := Lib.hid b1
  clear b1
  cases b with
  | true =>
    obtain ⟨hk, hx⟩ := hf.yes
    have HX := Lib.hid hx
    clear hf hx
    go_wp2_with fail
    go_ret
    exact ⟨8, l, rfl, TabTurn.of_below HK.out HB.out, .inl ⟨rfl, rfl, k, hk, HX.out⟩⟩
  | false =>
    have HN := Lib.hid (hf.no HK.out.srt)
    have HPL := Lib.hid hf.1
    have hkl := hf.1.1
    have ct := Blk.cell HK1.out.blk 1
    have cm := Blk.cell HK1.out.blk 0
    simp at ct cm
    clear hf
    by_cases hfull : most ≤ l.length
    · have hfd : decide (most ≤ (l.length : Int)) = true := by simp [hfull]
      go_wp2_with fail
      go_quiet (fail)
      go_wp2_with fail
      go_ret
      exact ⟨16, l, rfl, TabTurn.of_below HK.out (below_drewN HB.out _), .inr ⟨HN.out, .inl ⟨rfl, rfl, hfull⟩⟩⟩
    · have hfl : (l.length : Int) < most := by omega
      go_wp2_with fail
      go_quiet (fail)
      go_wp2_with fail
      generalize hW : w1.drewN nq = W at *
      have KW : TabAt base W g most A cap l := by rw [← hW]; exact HK1.out.drewN nq
      have hWs : w1.heap.size = W.heap.size := by rw [← hW]; rfl
      have BW : Below w.heap.size w W := by rw [← hW]; exact below_drewN HB.out nq
      rw [hWs]
      have hbs := KW.bas
      have hgl := KW.lt
      have HW := Lib.hid (And.intro KW BW)
      clear hW hWs BW
      refine (insert_any base A l.length cap k W.heap.size k (prs l) [.int .i64 x, .int .i64 y] _ (KW.own.alloc _) (prs_one l) (by exact Blk.new W 58 #[.int .i64 x, .int .i64 y]) rfl (by intro u hu; simp at hu; rcases hu with rfl | rfl <;> rfl)
        (fun hb => by have := own_lt KW.own hb; omega) hkl rfl (by omega) KW.capb.2 (by simp; omega)).mono ?_
      rintro e w3 ⟨A3, c3, rfl, o3, g3, d3⟩
      have OW : Only (g :: blks (.slice A l.length cap)) w w3 := ((Only.of_below (S := g :: blks (.slice A l.length cap)) HW.out.2).alloc _).trans (Only.of_grown g3) (fun i hi => .inl (by simp [hi]))
      have B3 := Blk.grown (Blk.alloc HW.out.1.blk (.cells #[.int .i64 x, .int .i64 y] 58)) g3 (fun e => HW.out.1.ne e.symm)
      have ho3 : w3.ownsRow base 58 2 (.slice A3 (ins l k (x, y)).length c3) (ins l k (x, y)).length (prs (ins l k (x, y))) := by
        rw [ins_length l k (x, y) hkl]
        have e1 : prs (ins l k (x, y)) = (prs l).take (k * 2) ++ [.int .i64 x, .int .i64 y] ++ (prs l).drop (k * 2) := by
          rw [prs_take, prs_drop l k hkl]; simp [ins, prs]
        rw [e1]; exact o3
      have f1 := Blk.frozen B3 1
      have c1 := Blk.cell B3 1
      simp at c1
      have D3 : ∀ z, (Value.slice A3 (ins l k (x, y)).length c3).ownBlock = some z → (Value.slice A l.length cap).ownBlock = some z ∨ w.heap.size ≤ z := by
        intro z hz
        rw [own_len A3 _ c3 (l.length + 1) c3] at hz
        have hs := HW.out.2.size
        rcases d3 with h | h
        · exact .inl (by rw [← h]; exact hz)
        · have := h z hz; simp at this; exact .inr (by omega)
      have H3 := Lib.hid (And.intro OW (And.intro B3 (And.intro ho3 D3)))
      have HLN := Lib.hid (ins_length l k (x, y) hkl)
      clear KW o3 g3 d3 OW B3 ho3 D3
      go_wp2_with fail
      go_ret
      refine ⟨0, ins l k (x, y), rfl, ⟨⟨A3, c3, ⟨?_, ?_, ins_srt HK.out.srt HPL.out HN.out, by rw [HLN.out]; omega, hbs⟩, H3.out.2.2.2⟩, H3.out.1.setCell (.inl (by simp)) _⟩, .inr ⟨HN.out, .inr ⟨rfl, hfl, k, HPL.out, rfl⟩⟩⟩
      · have e := Blk.set_ H3.out.2.1 1 (.slice A3 (l.length + 1) c3)
        rw [HLN.out]
        simpa using e
      · exact own_only H3.out.2.2.1 ((Only.refl [g] w3).setCell (.inl (by simp)) _) (fun z hz => by simp; rintro rfl; exact own_blk_ne H3.out.2.2.1 H3.out.2.1 (by decide) hz)
theorem put_nil (x y : Int) (w : World) : Calls Try.prog 19 #[.pointer none, .int .i64 x, .int .i64 y] w fun e w' => e = .returned (.int .i64 1) ∧ w = w' := by
  go_enter Try.func19, Try.ntmps19
  go_wp2_with fail
  go_ret
  exact ⟨rfl, rfl⟩
theorem set_nil (x y : Int) (w : World) : Calls Try.prog 20 #[.pointer none, .int .i64 x, .int .i64 y] w fun e w' => e = .returned (.int .i64 1) ∧ w = w' := by
  go_enter Try.func20, Try.ntmps20
  go_wp2_with fail
  go_ret
  exact ⟨rfl, rfl⟩
def SetIs (base : Nat) (w : World) (g : Nat) (most : Int) (v : Value) (l : List (Int × Int)) (x y : Int) (e : Ending) (w' : World) : Prop :=
  ∃ c l', e = .returned (.int .i64 c) ∧ TabTurn base w g most v l' w' ∧
    ((c = 0 ∧ ∃ (k : Nat) (hk : k < l.length), l[k].1 = x ∧ l' = chg l k (x, y)) ∨ (c = 7 ∧ l' = l ∧ ∀ (j : Nat) (hj : j < l.length), l[j].1 ≠ x))
set_option maxHeartbeats 2000000 in
theorem set_any (base g cap : Nat) (most x y : Int) (A : Option Addr) (l : List (Int × Int)) (w : World) (k : TabAt base w g most A cap l) :
    Calls Try.prog 20 #[.pointer (some ⟨g, 0, none⟩), .int .i64 x, .int .i64 y] w (SetIs base w g most (.slice A l.length cap) l x y) := by
  have HF := Lib.hid (find_any base g cap most x A l w k)
  have HK := Lib.hid k
  have hlen := k.few
  clear k
  go_enter Try.func20, Try.ntmps20
  go_wp2_with fail
  refine HF.out.mono ?_
  rintro e w1 ⟨k, b, rfl, hf, b1⟩
  have HK1 := Lib.hid (HK.out.below b1)
  have HB := Lib.hid b1
  clear b1
  cases b with
  | false =>
    have HN := Lib.hid (hf.no HK.out.srt)
    clear hf
    go_wp2_with fail
    go_ret
    exact ⟨7, l, rfl, TabTurn.of_below HK.out HB.out, .inr ⟨rfl, rfl, HN.out⟩⟩
  | true =>
    obtain ⟨hk, hx⟩ := hf.yes
    have HX := Lib.hid hx
    obtain ⟨gb, hA, hgb, _, c1⟩ := HK1.out.cells k hk
    have ct := Blk.cell HK1.out.blk 1
    simp at ct
    have hk0 : (0 : Int) ≤ k := by omega
    have hk1 : (k : Int) < l.length := by omega
    have hbs := HK1.out.bas
    generalize hv : l[k].2 = v at *
    subst hA
    obtain ⟨fz, hst⟩ : w1.frozen? ⟨gb, k * 2 + 1, none⟩ = false ∧ Hid (∀ u, (w1.setCell ⟨gb, k * 2 + 1, none⟩ u).ownsRow base 58 2 (.slice (some ⟨gb, 0, none⟩) l.length cap) l.length ((prs l).set (k * 2 + 1) u)) := by
      refine ⟨?_, fun u => (HK1.out.own.stored _ u).1⟩
      rcases HK1.out.own.2 with ⟨hh, _⟩ | ⟨gb', c, cur, hh, _, hc, _⟩
      · cases hh
      · injection hh with hh
        injection hh with hh
        injection hh with hh
        subst hh
        simp [World.frozen?, hc]
    have hne : g ≠ gb := fun e => HK1.out.ne (by rw [e]; rfl)
    clear hf hx hv
    go_wp2_with fail
    go_ret
    have OW : Only (g :: blks (.slice (some ⟨gb, 0, none⟩) l.length cap)) w (w1.setCell ⟨gb, k * 2 + 1, none⟩ (.int .i64 y)) := (Only.of_below HB.out).setCell (.inl (by simp [blks, Value.ownBlock])) _
    refine ⟨0, chg l k (x, y), rfl, ⟨⟨some ⟨gb, 0, none⟩, cap, ⟨?_, ?_, chg_srt HK.out.srt hk HX.out, by simp [chg]; omega, hbs⟩, fun z hz => .inl hz⟩, OW⟩, .inl ⟨rfl, k, hk, HX.out, rfl⟩⟩
    · have e := HK1.out.blk.far (p := ⟨gb, k * 2 + 1, none⟩) hne (.int .i64 y)
      simpa [chg] using e
    · have e := hst.out (.int .i64 y)
      rw [prs_set l k x y hk HX.out] at e
      simpa [chg] using e
def DelIs (base : Nat) (w : World) (g : Nat) (most : Int) (v : Value) (l : List (Int × Int)) (x : Int) (e : Ending) (w' : World) : Prop :=
  ∃ y b l', e = .returned (.tuple #[.int .i64 y, .bool b]) ∧ TabTurn base w g most v l' w' ∧
    ((b = true ∧ ∃ (k : Nat) (hk : k < l.length), l[k].1 = x ∧ l[k].2 = y ∧ l' = del l k) ∨ (b = false ∧ y = 0 ∧ l' = l ∧ ∀ (j : Nat) (hj : j < l.length), l[j].1 ≠ x))
theorem srt_one {l : List (Int × Int)} (hs : Srt l) {i j : Nat} (hi : i < l.length) (hj : j < l.length) (e : l[i].1 = l[j].1) : i = j := by
  rcases Nat.lt_trichotomy i j with h | h | h
  · have := hs i j hi hj h; omega
  · exact h
  · have := hs j i hj hi h; omega
set_option maxHeartbeats 2000000 in
theorem del_any (base g cap : Nat) (most x : Int) (A : Option Addr) (l : List (Int × Int)) (w : World) (k : TabAt base w g most A cap l) :
    Calls Try.prog 17 #[.pointer (some ⟨g, 0, none⟩), .int .i64 x] w (DelIs base w g most (.slice A l.length cap) l x) := by
  have HG := Lib.hid (get_any base g cap most x A l w k)
  have HK := Lib.hid k
  have hlen := k.few
  clear k
  go_enter Try.func17, Try.ntmps17
  go_wp2_with fail
  refine HG.out.mono ?_
  rintro e w1 ⟨y, b, rfl, hcase, b1⟩
  have HK1 := Lib.hid (HK.out.below b1)
  have HB := Lib.hid b1
  clear b1
  rcases hcase with ⟨rfl, k, hk, hx, hy⟩ | ⟨rfl, rfl, hno⟩
  · have HXY := Lib.hid (And.intro hx hy)
    have HF := Lib.hid (find_any base g cap most x A l w1 HK1.out)
    clear hx hy
    go_wp2_with fail
    refine HF.out.mono ?_
    rintro e w2 ⟨k2, b2, rfl, hf, b2'⟩
    have hk2 : k2 = k ∧ b2 = true := by
      cases b2 with
      | false => exact absurd HXY.out.1 (hf.no HK.out.srt k hk)
      | true =>
        obtain ⟨hk2, hx2⟩ := hf.yes
        exact ⟨srt_one HK.out.srt hk2 hk (hx2.trans HXY.out.1.symm), rfl⟩
    obtain ⟨rfl, rfl⟩ := hk2
    have HK2 := Lib.hid (HK1.out.below b2')
    have HB2 := Lib.hid (HB.out.trans (b2'.mono HB.out.size))
    clear b2' hf
    have ct := Blk.cell HK2.out.blk 1
    simp at ct
    have hbs := HK2.out.bas
    have hk0 : (0 : Int) ≤ k2 := by omega
    have hk1 : (k2 : Int) < l.length := by omega
    have hne := HK2.out.ne
    rcases HK2.out.own.2 with ⟨hh, h0⟩ | ⟨gb, c, cur, hh, hgb, hc, hnc, hcm, hsz, ht⟩
    · omega
    · injection hh with e1 e2 e3
      subst e1 e3
      have HCR := Lib.hid (And.intro hc (And.intro hsz (And.intro ht hcm)))
      clear hc hsz ht hcm
      go_wp2_with fail
      refine (delete_any gb l.length cap k2 _ cur w2 HCR.out.1 HCR.out.2.1 hnc (by have := HCR.out.2.2.2; unfold maxLen at this; omega) hk rfl (by rw [HCR.out.2.2.1]; exact prs_one l)).mono ?_
      rintro e w3 ⟨rfl, ⟨⟨cur', q1, q2, q3⟩, o3⟩⟩
      have hg3 : g ≠ gb := fun e => hne (by rw [e]; rfl)
      have B3 := HK2.out.blk.only o3 (by simpa using hg3)
      have hdl := del_length l k2 hk
      have ho3 : w3.ownsRow base 58 2 (.slice (some ⟨gb, 0, none⟩) (del l k2).length cap) (del l k2).length (prs (del l k2)) := by
        rw [hdl]
        refine own_of_row q1 hgb (by omega) HCR.out.2.2.2 (by rw [q2, HCR.out.2.1]) ?_
        rw [q3, HCR.out.2.2.1]
        have e0 : cur.toList.take (k2 * 2) = (prs l).take (k2 * 2) := by
          rw [← HCR.out.2.2.1, List.take_take]
          congr 1
          omega
        rw [e0, prs_take, prs_drop l (k2 + 1) (by omega), ← prs_append]
        rfl
      have OW : Only (g :: blks (.slice (some ⟨gb, 0, none⟩) l.length cap)) w w3 := (Only.of_below HB2.out).trans o3 (fun i hi => .inl (by simp at hi; simp [blks, Value.ownBlock, hi]))
      have f1 := Blk.frozen B3 1
      have c1 := Blk.cell B3 1
      simp at c1
      have H3 := Lib.hid (And.intro OW (And.intro B3 (And.intro ho3 hdl)))
      clear q1 q2 q3 o3 B3 ho3 OW hdl
      go_wp2_with fail
      go_ret2
      refine ⟨y, true, del l k2, rfl, ⟨⟨some ⟨gb, 0, none⟩, cap, ⟨?_, ?_, del_srt HK.out.srt, by rw [H3.out.2.2.2]; omega, hbs⟩, fun z hz => .inl hz⟩, H3.out.1.setCell (.inl (by simp)) _⟩, .inl ⟨rfl, k2, hk, HXY.out.1, HXY.out.2, rfl⟩⟩
      · have e := Blk.set_ H3.out.2.1 1 (.slice (some ⟨gb, 0, none⟩) (l.length - 1) cap)
        rw [H3.out.2.2.2]
        simpa using e
      · exact own_only H3.out.2.2.1 ((Only.refl [g] w3).setCell (.inl (by simp)) _) (fun z hz => by simp; rintro rfl; exact own_blk_ne H3.out.2.2.1 H3.out.2.1 (by decide) hz)
  · have HN := Lib.hid hno
    clear hno
    go_wp2_with fail
    go_ret2
    exact ⟨0, false, l, rfl, TabTurn.of_below HK.out HB.out, .inr ⟨rfl, rfl, rfl, HN.out⟩⟩
theorem del_nil (x : Int) (w : World) : Calls Try.prog 17 #[.pointer none, .int .i64 x] w fun e w' => e = .returned (.tuple #[.int .i64 0, .bool false]) ∧ Below w.heap.size w w' := by
  go_enter Try.func17, Try.ntmps17
  go_wp2_with fail
  refine (get_nil x w).mono ?_
  rintro e w1 ⟨rfl, b1⟩
  have HB := Lib.hid b1
  clear b1
  go_wp2_with fail
  go_ret2
  exact ⟨rfl, HB.out⟩
end Go.Proofs.Ytfdfcegomiehbaa
