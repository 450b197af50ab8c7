/- The walks of package credit: Open, Close. -/
import Derived.Test.YtpbahmnlhckgbaaCred5
import Derived.Deep.QuietTactic
import Derived.BigQuiet
import Derived.Deep.RegionWith
import Derived.Deep.RegionHeld3
import Derived.WalkLawsBesides
import Derived.WalkSmall
namespace Go.Proofs.Ytpbahmnlhckgbaa
open Go.RowKit
set_option linter.unusedVariables false
theorem own_len (A : Option Addr) (n c m d : Nat) : (Value.slice A n c).ownBlock = (Value.slice A m d).ownBlock := by cases A <;> rfl
def blks (v : Value) : List Nat := v.ownBlock.toList
theorem mem_blks {v : Value} {x : Nat} : x ∈ blks v ↔ v.ownBlock = some x := by simp [blks]
theorem Only.of_grown {w w' : World} {v : Value} (h : w.grownBy w' v.ownBlock) : Only (blks v) w w' :=
  ⟨h.os, h.tape, h.output, h.size, fun k hk hn => h.block k hk (fun e => hn (mem_blks.2 e.symm))⟩
def ins (l : List Ln) (k : Nat) (p : Ln) : List Ln := l.take k ++ [p] ++ l.drop k
def del (l : List Ln) (k : Nat) : List Ln := l.take k ++ l.drop (k + 1)
theorem ins_length (l : List Ln) (k : Nat) (p : Ln) (hk : k ≤ l.length) : (ins l k p).length = l.length + 1 := by simp [ins]; omega
theorem srt_iff {l : List Ln} : Srt l ↔ l.Pairwise fun a b => a.id < b.id := by
  rw [List.pairwise_iff_getElem]
  exact ⟨fun h i j hi hj hij => h i j hi hj hij, fun h i j hi hj hij => h i j hi hj hij⟩
theorem ins_srt {l : List Ln} {k : Nat} {p : Ln} (hs : Srt l) (hp : Place l p.id k) (hn : ∀ (j : Nat) (hj : j < l.length), l[j].id ≠ p.id) : Srt (ins l k p) := by
  obtain ⟨h1, h2, h3⟩ := hp
  rw [srt_iff] at hs ⊢
  have e : l.take k ++ l.drop k = l := List.take_append_drop k l
  rw [← e, List.pairwise_append] at hs
  obtain ⟨p1, p2, p3⟩ := hs
  unfold ins
  rw [List.append_assoc, List.pairwise_append, List.singleton_append, List.pairwise_cons]
  refine ⟨p1, ⟨fun b hb => ?_, p2⟩, fun a ha b hb => ?_⟩
  · obtain ⟨i, hi, rfl⟩ := List.mem_iff_getElem.1 hb
    rw [List.getElem_drop]
    simp only [List.length_drop] at hi
    have := h3 (k + i) (by omega) (by omega)
    have := hn (k + i) (by omega)
    omega
  · rcases List.mem_cons.1 hb with rfl | hb
    · obtain ⟨i, hi, rfl⟩ := List.mem_iff_getElem.1 ha
      rw [List.getElem_take]
      simp only [List.length_take] at hi
      exact h2 i (by omega) (by omega)
    · exact p3 a ha b hb
theorem mem_ins {l : List Ln} {k : Nat} {p x : Ln} (h : x ∈ ins l k p) : x = p ∨ x ∈ l := by
  simp only [ins, List.mem_append, List.mem_singleton] at h
  rcases h with (h | h) | h
  · exact .inr (List.mem_of_mem_take h)
  · exact .inl h
  · exact .inr (List.mem_of_mem_drop h)
theorem ins_nodup {l : List Ln} {k : Nat} {p : Ln} (h : (l.map (·.w)).Nodup) (hn : ∀ x ∈ l, x.w ≠ p.w) : ((ins l k p).map (·.w)).Nodup := by
  have e : (l.take k).map (·.w) ++ (l.drop k).map (·.w) = l.map (·.w) := by rw [← List.map_append, List.take_append_drop]
  rw [← e, List.nodup_append] at h
  obtain ⟨p1, p2, p3⟩ := h
  simp only [ins, List.map_append, List.map_cons, List.map_nil]
  rw [List.append_assoc, List.nodup_append, List.singleton_append, List.nodup_cons]
  refine ⟨p1, ⟨fun hm => ?_, p2⟩, fun a ha b hb => ?_⟩
  · obtain ⟨y, hy, e⟩ := List.mem_map.1 hm
    exact hn y (List.mem_of_mem_drop hy) e
  · rcases List.mem_cons.1 hb with rfl | hb
    · obtain ⟨y, hy, e⟩ := List.mem_map.1 ha
      rintro rfl
      exact hn y (List.mem_of_mem_take hy) e
    · exact p3 a ha b hb
theorem del_length (l : List Ln) (k : Nat) (hk : k < l.length) : (del l k).length = l.length - 1 := by simp [del]; omega
theorem del_sub (l : List Ln) (k : Nat) : (del l k).Sublist l := by
  have e : l.take k ++ l.drop k = l := List.take_append_drop k l
  conv => rhs; rw [← e]
  exact List.Sublist.append (List.Sublist.refl _) (by rw [← List.tail_drop]; exact List.tail_sublist _)
theorem del_srt {l : List Ln} {k : Nat} (hs : Srt l) : Srt (del l k) := by
  rw [srt_iff] at hs ⊢
  exact hs.sublist (del_sub l k)
section
variable (base g cw cap : Nat) (cn sp M x : Int) (A : Option Addr) (l : List Ln) (w : World) (k : Led base w g cw cn sp A cap l M)
include k
theorem found_at (i : Nat) (hi : i < l.length) : Calls Try.prog 22 #[.pointer (some ⟨g, 0, none⟩), .int .i64 l[i].id] w fun e w' => e = .returned (.tuple #[.int .i64 (i : Nat), .bool true]) ∧ Below w.heap.size w w' := by
  refine (find_any base g cw cap cn sp M l[i].id A l w k).mono ?_
  rintro e w1 ⟨j, b, rfl, hf, hb⟩
  cases b with
  | false => exact absurd rfl (hf.no k.srt i hi)
  | true =>
    obtain ⟨hj, hx⟩ := hf.yes
    obtain rfl := srt_one k.srt hj hi hx
    exact ⟨rfl, hb⟩
theorem found_no (hn : ∀ (j : Nat) (hj : j < l.length), l[j].id ≠ x) : Calls Try.prog 22 #[.pointer (some ⟨g, 0, none⟩), .int .i64 x] w fun e w' => (∃ i : Nat, e = .returned (.tuple #[.int .i64 i, .bool false]) ∧ Place l x i) ∧ Below w.heap.size w w' := by
  refine (find_any base g cw cap cn sp M x A l w k).mono ?_
  rintro e w1 ⟨j, b, rfl, hf, hb⟩
  cases b with
  | false => exact ⟨⟨j, rfl, hf.1⟩, hb⟩
  | true =>
    obtain ⟨hj, hx⟩ := hf.yes
    exact absurd hx (hn j hj)
theorem open_exist (n : Int) (i : Nat) (hi : i < l.length) (h0 : 0 ≤ n) (h1 : n ≤ 2147483647) : Calls Try.prog 8 #[.pointer (some ⟨g, 0, none⟩), .int .i64 l[i].id, .int .i64 n] w fun e w' => e = .returned (.int .i64 8) ∧ Below w.heap.size w w' := by
  have hb := (k.bds l[i] (List.getElem_mem _)).2.2.2.2
  have HN := Lib.hid (new_yes n w h0 h1)
  have HF := Lib.hid (fun (w1 : World) (b : Below w.heap.size w w1) => found_at base g cw cap cn sp M A l w1 (k.below b) i hi)
  clear k
  generalize l[i].id = x at *
  obtain ⟨hx1, hx2⟩ := hb
  go_enter Try.func8, Try.ntmps8
  go_wp2_with fail
  refine HN.out.mono ?_
  rintro e w1 ⟨rfl, hw, b⟩
  have HB := Lib.hid b
  clear hw b
  go_wp2_with fail
  refine (HF.out w1 HB.out).mono ?_
  rintro e w2 ⟨rfl, b⟩
  have HB2 := Lib.hid (HB.out.trans (b.mono HB.out.size))
  clear b
  go_wp2_with fail
  go_ret
  exact ⟨rfl, HB2.out⟩
theorem open_full (n : Int) (hn : ∀ (j : Nat) (hj : j < l.length), l[j].id ≠ x) (hx1 : 1 ≤ x) (hx2 : x ≤ 2147483647) (h0 : 0 ≤ n) (h1 : n ≤ 2147483647) (hl : 64 ≤ l.length) : Calls Try.prog 8 #[.pointer (some ⟨g, 0, none⟩), .int .i64 x, .int .i64 n] w fun e w' => e = .returned (.int .i64 16) ∧ Below w.heap.size w w' := by
  have HN := Lib.hid (new_yes n w h0 h1)
  have HF := Lib.hid (fun (w1 : World) (b : Below w.heap.size w w1) => found_no base g cw cap cn sp M x A l w1 (k.below b) hn)
  have HC := Lib.hid (fun (w1 : World) (b : Below w.heap.size w w1) => Blk.cell (k.below b).blk 2)
  have hf := k.few
  clear k hn
  have hl2 : (64 : Int) ≤ l.length := by omega
  go_enter Try.func8, Try.ntmps8
  go_wp2_with fail
  refine HN.out.mono ?_
  rintro e w1 ⟨rfl, hw, b⟩
  have HB := Lib.hid b
  clear hw b
  go_wp2_with fail
  refine (HF.out w1 HB.out).mono ?_
  rintro e w2 ⟨⟨i, rfl, _⟩, b⟩
  have HB2 := Lib.hid (HB.out.trans (b.mono HB.out.size))
  have c2 := HC.out w2 HB2.out
  simp at c2
  clear b
  go_wp2_with fail
  go_ret
  exact ⟨rfl, HB2.out⟩
set_option maxHeartbeats 2000000 in
theorem open_ok (n : Int) (hn : ∀ (j : Nat) (hj : j < l.length), l[j].id ≠ x) (hx1 : 1 ≤ x) (hx2 : x ≤ 2147483647) (h0 : 0 ≤ n) (h1 : n ≤ 2147483647) (hl : l.length < 64) : Calls Try.prog 8 #[.pointer (some ⟨g, 0, none⟩), .int .i64 x, .int .i64 n] w fun e w' => e = .returned (.int .i64 0) ∧ (∃ A' cap' wb i, Place l x i ∧ Led base w' g cw cn sp A' cap' (ins l i ⟨x, wb, n, 0⟩) M) ∧ Below base w w' ∧ Still w w' := by
  have HN := Lib.hid (new_yes n w h0 h1)
  have HF := Lib.hid (fun (w1 : World) (b : Below w.heap.size w w1) => found_no base g cw cap cn sp M x A l w1 (k.below b) hn)
  have HNO := Lib.hid hn
  have HK := Lib.hid k
  have hM0 : 0 ≤ M := by have := k.spb; omega
  have hws : base ≤ w.heap.size := Nat.le_trans k.bas.1 (Nat.le_of_lt k.lt)
  clear k hn
  have hl2 : (l.length : Int) < 64 := by omega
  go_enter Try.func8, Try.ntmps8
  go_wp2_with fail
  refine HN.out.mono ?_
  rintro e w1 ⟨rfl, hw, b⟩
  have HB := Lib.hid (And.intro hw b)
  clear hw b
  go_wp2_with fail
  refine (HF.out w1 HB.out.2).mono ?_
  rintro e w2 ⟨⟨i, rfl, hpl⟩, b⟩
  have HPL := Lib.hid hpl
  have hil := hpl.1
  have HB2 := Lib.hid (And.intro (Blk.below HB.out.1 b (Blk.lt HB.out.1)) (HB.out.2.trans (b.mono HB.out.2.size)))
  have hwl := Blk.lt HB2.out.1
  have K2 := HK.out.below HB2.out.2
  have c2 := Blk.cell K2.blk 2
  simp at c2
  have hcb := K2.capb
  clear b hpl
  go_wp2_with fail
  have K2H := Lib.hid K2
  refine (insert_any base A l.length cap i w2.heap.size i (prl l) [.int .i64 x, .pointer (some ⟨w.heap.size, 0, none⟩), .int .i64 0] _ (K2H.out.own.alloc _) (prl_one l) (by exact Blk.new w2 60 #[.int .i64 x, .pointer (some ⟨w.heap.size, 0, none⟩), .int .i64 0]) rfl (by intro u hu; simp at hu; rcases hu with rfl | rfl | rfl <;> rfl)
    (fun hb => by have := own_lt K2H.out.own hb; omega) hil rfl (by omega) hcb.2 (by simp; have := HB2.out.2.size; omega)).mono ?_
  rintro e w3 ⟨A3, c3, rfl, o3, g3, d3⟩
  have hrow : ∀ b ∈ blks (.slice A l.length cap), ∃ cur, w.heap[b]? = some (.cells cur 60 (0, 0)) := fun b hb => by
    rw [mem_blks] at hb
    rcases HK.out.own.2 with ⟨hv, _⟩ | ⟨gb, c, cur, hv, _, hc, _⟩
    · rw [hv] at hb; cases hb
    · rw [hv] at hb
      injection hb with hb
      simp only at hb
      subst hb
      exact ⟨cur, hc⟩
  have hrb : ∀ b ∈ blks (.slice A l.length cap), base ≤ b := fun b hb => by
    rw [mem_blks] at hb
    rcases HK.out.own.2 with ⟨hv, _⟩ | ⟨gb, c, cur, hv, hg, hc, _⟩
    · rw [hv] at hb; cases hb
    · rw [hv] at hb
      injection hb with hb
      simp only at hb
      subst hb
      exact hg
  have OW : Only (blks (.slice A l.length cap)) w w3 := ((Only.of_below (S := blks (.slice A l.length cap)) HB2.out.2).alloc _).trans (Only.of_grown g3) (fun i hi => .inl (by simpa using hi))
  have nrow : ∀ {b : Nat} {t : TypeId} {cs : Array Value}, Blk w b t cs → t ≠ 60 → b ∉ blks (.slice A l.length cap) := fun hb ht hm => by
    obtain ⟨cur, hc⟩ := hrow _ hm
    unfold Blk at hb
    rw [hb] at hc
    injection hc with hc
    injection hc with _ hc
    exact ht hc
  have B3 := Blk.only HK.out.blk OW (nrow HK.out.blk (by decide))
  have W3 : Win w3 w.heap.size n := Blk.grown (Blk.alloc HB2.out.1 _) g3 (fun e => by
    have := own_lt HK.out.own (g := w.heap.size) e.symm
    omega)
  have ho3 : w3.ownsRow base 60 3 (.slice A3 (ins l i ⟨x, w.heap.size, n, 0⟩).length c3) (ins l i ⟨x, w.heap.size, n, 0⟩).length (prl (ins l i ⟨x, w.heap.size, n, 0⟩)) := by
    rw [ins_length l i _ hil]
    have e1 : prl (ins l i ⟨x, w.heap.size, n, 0⟩) = (prl l).take (i * 3) ++ [.int .i64 x, .pointer (some ⟨w.heap.size, 0, none⟩), .int .i64 0] ++ (prl l).drop (i * 3) := by
      rw [prl_take, prl_drop]; simp [ins, prl, cell3]
    rw [e1]; exact o3
  have S3 : Still w w3 := Still.of_only OW (fun z hz _ => by obtain ⟨cur, hc⟩ := hrow z hz; exact ⟨_, _, _, hc, .inr (.inl rfl)⟩)
  have BB3 : Below base w w3 := OW.below hws hrb
  have f1 := Blk.frozen B3 2
  have cc1 := Blk.cell B3 2
  simp at cc1
  have hlt3 : ∀ y ∈ l, y.w ≠ w.heap.size := fun y hy => by have := Blk.lt (HK.out.wins y hy).1; omega
  have gw : ∀ {a : Nat} {v : Int}, Win w3 a v → a ≠ g := fun h => (win_ne h B3 (by decide)).symm
  have kf : Led base (w3.setCell ⟨g, 2, none⟩ (.slice A3 (l.length + 1) c3)) g cw cn sp A3 c3 (ins l i ⟨x, w.heap.size, n, 0⟩) M := by
    have CW := Blk.only HK.out.con OW (nrow HK.out.con (by decide))
    refine ⟨?_, own_only ho3 ((Only.refl [g] w3).setCell (.inl (by simp)) _) (fun z hz => by simp; rintro rfl; exact own_blk_ne ho3 B3 (by decide) hz), CW.far (p := ⟨g, 2, none⟩) (gw CW) _, fun y hy => ?_, fun y hy => ?_, ins_nodup HK.out.dis hlt3, ins_srt HK.out.srt HPL.out HNO.out, by rw [ins_length l i _ hil]; omega, HK.out.cnb, HK.out.spb, HK.out.mb, HK.out.bas⟩
    · have e := Blk.set_ B3 2 (.slice A3 (l.length + 1) c3)
      rw [ins_length l i _ hil]
      simpa using e
    · rcases mem_ins hy with rfl | hy
      · exact ⟨W3.far (p := ⟨g, 2, none⟩) (gw W3) _, hws, fun e => by have := Blk.lt HK.out.con; simp only at e; omega⟩
      · have hz := HK.out.wins y hy
        have WY : Win w3 y.w y.n := Blk.only hz.1 OW (nrow hz.1 (by decide))
        exact ⟨WY.far (p := ⟨g, 2, none⟩) (gw WY) _, hz.2⟩
    · rcases mem_ins hy with rfl | hy
      · simp only; omega
      · exact HK.out.bds y hy
  have KF := Lib.hid (And.intro kf (And.intro (BB3.setCell (p := ⟨g, 2, none⟩) HK.out.bas.1 (.slice A3 (l.length + 1) c3)) (S3.setCell (o := 2) (u := .slice A3 (l.length + 1) c3) B3 (.inl rfl))))
  clear K2 c2 o3 g3 d3 hrow hrb OW nrow B3 W3 ho3 S3 BB3 hlt3 gw kf
  go_wp2_with fail
  go_ret
  exact ⟨rfl, ⟨A3, c3, w.heap.size, i, HPL.out, KF.out.1⟩, KF.out.2⟩
theorem close_no (hn : ∀ (j : Nat) (hj : j < l.length), l[j].id ≠ x) : Calls Try.prog 9 #[.pointer (some ⟨g, 0, none⟩), .int .i64 x] w fun e w' => e = .returned (.int .i64 7) ∧ Below w.heap.size w w' := by
  have HF := Lib.hid (found_no base g cw cap cn sp M x A l w k hn)
  clear k hn
  go_enter Try.func9, Try.ntmps9
  go_wp2_with fail
  refine HF.out.mono ?_
  rintro e w2 ⟨⟨i, rfl, _⟩, b⟩
  have HB := Lib.hid b
  clear b
  go_wp2_with fail
  go_ret
  exact ⟨rfl, HB.out⟩
set_option maxHeartbeats 2000000 in
theorem close_at (i : Nat) (hi : i < l.length) : Calls Try.prog 9 #[.pointer (some ⟨g, 0, none⟩), .int .i64 l[i].id] w fun e w' => e = .returned (.int .i64 0) ∧ (∃ A' cap', Led base w' g cw cn sp A' cap' (del l i) M) ∧ Below base w w' ∧ Still w w' := by
  have HF := Lib.hid (found_at base g cw cap cn sp M A l w k i hi)
  have HK := Lib.hid k
  have hws : base ≤ w.heap.size := Nat.le_trans k.bas.1 (Nat.le_of_lt k.lt)
  have hfew := k.few
  clear k
  generalize l[i].id = x at *
  go_enter Try.func9, Try.ntmps9
  go_wp2_with fail
  refine HF.out.mono ?_
  rintro e w2 ⟨rfl, b⟩
  have K2 := HK.out.below b
  have HB := Lib.hid b
  have c2 := Blk.cell K2.blk 2
  simp at c2
  have hi0 : (0 : Int) ≤ i := by omega
  have hi1 : (i : Int) < l.length := by omega
  have hne := K2.ne
  rcases K2.own.2 with ⟨hh, h0⟩ | ⟨gb, c, cur, hh, hgb, hc, hnc, hcm, hsz, ht⟩
  · omega
  · injection hh with e1 e2 e3
    subst e1 e3
    have HCR := Lib.hid (And.intro hc (And.intro hsz (And.intro ht (And.intro hcm K2))))
    clear hc hsz ht hcm b K2
    go_wp2_with fail
    refine (delete_any gb l.length cap i _ cur w2 HCR.out.1 HCR.out.2.1 hnc (by have := HCR.out.2.2.2.1; unfold maxLen at this; omega) hi rfl (by rw [HCR.out.2.2.1]; exact prl_one l)).mono ?_
    rintro e w3 ⟨rfl, ⟨⟨cur', q1, q2, q3⟩, o3⟩⟩
    have hdl := del_length l i hi
    have ho3 : w3.ownsRow base 60 3 (.slice (some ⟨gb, 0, none⟩) (del l i).length cap) (del l i).length (prl (del l i)) := by
      rw [hdl]
      refine own_of_row q1 hgb (by omega) HCR.out.2.2.2.1 (by rw [q2, HCR.out.2.1]) ?_
      rw [q3, HCR.out.2.2.1]
      have e0 : cur.toList.take (i * 3) = (prl l).take (i * 3) := by
        rw [← HCR.out.2.2.1, List.take_take]
        congr 1
        omega
      rw [e0, prl_take, prl_drop, ← prl_append]
      rfl
    have nrow : ∀ {b : Nat} {t : TypeId} {cs : Array Value}, Blk w2 b t cs → t ≠ 60 → b ∉ [gb] := fun hb ht hm => by
      simp at hm
      subst hm
      have hq := HCR.out.1
      unfold Blk at hb
      rw [hb] at hq
      injection hq with hq
      injection hq with _ hq
      exact ht hq
    have K2 := HCR.out.2.2.2.2
    have B3 := Blk.only K2.blk o3 (nrow K2.blk (by decide))
    have f1 := Blk.frozen B3 2
    have cc1 := Blk.cell B3 2
    simp at cc1
    have gw : ∀ {a : Nat} {v : Int}, Win w3 a v → a ≠ g := fun h => (win_ne h B3 (by decide)).symm
    have S3 : Still w w3 := (Still.of_below HB.out).trans (Still.of_only o3 (fun z hz _ => by simp at hz; subst hz; exact ⟨_, _, _, HCR.out.1, .inr (.inl rfl)⟩))
    have BB3 : Below base w w3 := (HB.out.mono hws).trans (o3.below (Nat.le_trans hws HB.out.size) (by simpa using hgb))
    have kf : Led base (w3.setCell ⟨g, 2, none⟩ (.slice (some ⟨gb, 0, none⟩) (l.length - 1) cap)) g cw cn sp (some ⟨gb, 0, none⟩) cap (del l i) M := by
      have CW := Blk.only K2.con o3 (nrow K2.con (by decide))
      refine ⟨?_, own_only ho3 ((Only.refl [g] w3).setCell (.inl (by simp)) _) (fun z hz => by simp; rintro rfl; exact own_blk_ne ho3 B3 (by decide) hz), CW.far (p := ⟨g, 2, none⟩) (gw CW) _, fun y hy => ?_, fun y hy => ?_, K2.dis.sublist ((del_sub l i).map _), del_srt K2.srt, by rw [hdl]; omega, K2.cnb, K2.spb, K2.mb, K2.bas⟩
      · have e := Blk.set_ B3 2 (.slice (some ⟨gb, 0, none⟩) (l.length - 1) cap)
        rw [hdl]
        simpa using e
      · have hz := K2.wins y ((del_sub l i).subset hy)
        have WY : Win w3 y.w y.n := Blk.only hz.1 o3 (nrow hz.1 (by decide))
        exact ⟨WY.far (p := ⟨g, 2, none⟩) (gw WY) _, hz.2⟩
      · exact K2.bds y ((del_sub l i).subset hy)
    have KF := Lib.hid (And.intro kf (And.intro (BB3.setCell (p := ⟨g, 2, none⟩) K2.bas.1 (.slice (some ⟨gb, 0, none⟩) (l.length - 1) cap)) (S3.setCell (o := 2) (u := .slice (some ⟨gb, 0, none⟩) (l.length - 1) cap) B3 (.inl rfl))))
    clear q1 q2 q3 o3 ho3 nrow B3 gw S3 BB3 kf K2
    go_wp2_with fail
    go_ret
    exact ⟨rfl, ⟨_, _, KF.out.1⟩, KF.out.2⟩
end
theorem open_arg (g : Nat) (x n : Int) (w : World) (h : x < 1 ∨ 2147483647 < x) : Calls Try.prog 8 #[.pointer (some ⟨g, 0, none⟩), .int .i64 x, .int .i64 n] w fun e w' => e = .returned (.int .i64 2) ∧ w = w' := by
  rcases Int.lt_or_le x 1 with h1 | h1
  · clear h
    go_enter Try.func8, Try.ntmps8
    go_wp2_with fail
    go_ret
    exact ⟨rfl, rfl⟩
  · have h2 : 2147483647 < x := by omega
    clear h
    go_enter Try.func8, Try.ntmps8
    go_wp2_with fail
    go_ret
    exact ⟨rfl, rfl⟩
theorem open_range (g : Nat) (x n : Int) (w : World) (h1 : 1 ≤ x) (h2 : x ≤ 2147483647) (h : n < 0 ∨ 2147483647 < n) : Calls Try.prog 8 #[.pointer (some ⟨g, 0, none⟩), .int .i64 x, .int .i64 n] w fun e w' => e = .returned (.int .i64 3) ∧ w = w' := by
  have HN := Lib.hid (new_no n w h)
  clear h
  go_enter Try.func8, Try.ntmps8
  go_wp2_with fail
  refine HN.out.mono ?_
  rintro e w1 ⟨rfl, rfl⟩
  go_wp2_with fail
  go_ret
  exact ⟨rfl, rfl⟩
theorem open_none (x n : Int) (w : World) : Calls Try.prog 8 #[.pointer none, .int .i64 x, .int .i64 n] w fun e w' => e = .returned (.int .i64 1) ∧ w = w' := by
  go_enter Try.func8, Try.ntmps8
  go_wp2_with fail
  go_ret
  exact ⟨rfl, rfl⟩
theorem close_none (x : Int) (w : World) : Calls Try.prog 9 #[.pointer none, .int .i64 x] w fun e w' => e = .returned (.int .i64 1) ∧ w = w' := by
  go_enter Try.func9, Try.ntmps9
  go_wp2_with fail
  go_ret
  exact ⟨rfl, rfl⟩
end Go.Proofs.Ytpbahmnlhckgbaa
