/- The walk of tree's lay. -/
import Derived.Test.YtifgbnjpiphidaaRows
import Derived.WalkKit
import Derived.ProofKit
import Derived.Handy
import Derived.Deep.QuietTactic
import Derived.BigQuiet
import Derived.Deep.RegionWith
import Derived.Deep.RegionHeld3
import Derived.Deep.AppendLies
import Derived.WalkLawsBesides
import Derived.WalkSmall
import Derived.Deep.Cut
import Derived.Test.YtifgbnjpiphidaaTre3
namespace Go.Proofs.Ytifgbnjpiphidaa
open Go.RowKit
set_option linter.unusedVariables false
theorem held_mapOnly {w w' : World} {e : TypeId} {sz n cap b cnt : Nat} {A : Option Addr} {xs : List Value} {G : Int → Option Nd} (h : Held w e sz A n cap xs) (hm : MapN w b G cnt) (o : Only [b] w w') : Held w' e sz A n cap xs :=
  h.keep fun b' cur hb => o.block b' (lt_of_blk hb) (fun hmem => by
    simp at hmem
    subst hmem
    obtain ⟨es, c, hh⟩ := MapV.obj hm
    rw [hh] at hb
    cases hb)
theorem trs_put (g b : Nat) (most : Int) (l : List Nd) (w : World) (k : Trs w g b most l) (v : Nd) (hv : Ndok v) (hroom : (getN l v.id).isSome = true ∨ l.length < 256) :
    ∃ w5, (Instr.mapUpdate 52 (.map (some b)) (.int .i64 v.id) (enN v)).run Try.prog w.drew = .ok () w5 ∧ Trs w5 g b most (putN l v) ∧ Only [b] w w5 := by
  have m1 : MapN w.drew b (getN l) l.length := MapV.drew k.map
  obtain ⟨w5, hrun, hm5, hg5⟩ := m1.write (x := v.id) (v := v) (by have := k.few; simp only [maxLen]; omega) (wf31 (by have := hv.1; omega) (by have := hv.1; omega))
  refine ⟨w5, hrun, ⟨(hg5.block g k.lt.1 (by simp; exact k.ne)).trans k.blk, ?_, k.uq.put v, ?_, fun q hq => ?_, k.mst⟩, ⟨hg5.os, hg5.tape, hg5.output, hg5.size, fun q hq hn => hg5.block q hq (by simp at hn; simp; exact hn)⟩⟩
  · rw [length_put]
    refine hm5.ext fun j => ?_
    rw [getN_put]
    unfold upd
    split <;> rfl
  · rw [length_put]
    have := k.few
    split
    · omega
    · next h =>
      rcases hroom with h1 | h1
      · exact absurd h1 h
      · omega
  · unfold putN at hq
    split at hq
    · obtain ⟨q0, hq0, rfl⟩ := List.mem_map.1 hq
      split
      · exact hv
      · exact k.nd q0 hq0
    · rcases List.mem_append.1 hq with h | h
      · exact k.nd q h
      · simp at h
        subst h
        exact hv
set_option maxHeartbeats 4000000 in
theorem lay_any (g b : Nat) (most : Int) (l : List Nd) (w : World) (k : Trs w g b most l) (i : Int) (d : Dp) (hi : 1 ≤ i ∧ i ≤ 2147483647) (hd : mayB d = true) (hroom : (getN l i).isSome = true ∨ l.length < 256) :
    Calls Try.prog 23 #[.pointer (some ⟨g, 0, none⟩), .int .i64 i, .agg (da d)] w fun e w' => e = .returned (.tuple #[]) ∧ Turned w g b most (layL l i d) w' := by
  obtain ⟨on, wt, ex⟩ := d
  have hd' : (0 ≤ on ∧ on ≤ 2147483647) ∧ (1 ≤ wt ∧ wt ≤ 256) := by
    have := of_decide_eq_true hd
    simp only at this
    omega
  have HD := Lib.hid hd'
  have HI := Lib.hid hi
  have HR := Lib.hid hroom
  have z1 := Blk.new w 30 #[.int .i64 on, .int .i64 wt, .bool ex]
  have k1 := k.alloc (.cells #[.int .i64 on, .int .i64 wt, .bool ex] 30)
  have o1 : Only [b] w (w.alloc (.cells #[.int .i64 on, .int .i64 wt, .bool ex] 30)) := (Only.refl _ _).alloc _
  have H1 := Lib.hid (And.intro k1 (And.intro z1 o1))
  have hbw := k.lt
  have c0' : (w.alloc (.cells #[.int .i64 on, .int .i64 wt, .bool ex] 30)).cell? ⟨w.heap.size, 0, none⟩ = some (.int .i64 on) := Blk.cell z1 0
  have c2' : (w.alloc (.cells #[.int .i64 on, .int .i64 wt, .bool ex] 30)).cell? ⟨w.heap.size, 2, none⟩ = some (.bool ex) := Blk.cell z1 2
  clear hd hd' hroom z1 k1 o1 hi k
  unfold da
  cases ex with
  | false =>
    have HL : Hid (layL l i ⟨on, wt, false⟩ = putN l ⟨i, on, wt⟩) := rfl
    go_enter Try.func23, Try.ntmps23
    go_upto_region 8 with fail
    generalize w.alloc (.cells #[.int .i64 on, .int .i64 wt, .bool false] 30) = W at *
    have c1 := Blk.cell H1.out.1.blk 1
    have x0 := Blk.cell H1.out.2.1 0
    have x1 := Blk.cell H1.out.2.1 1
    simp at c1 x0 x1
    obtain ⟨w5, hrun, ht5, ho5⟩ := trs_put g b most l W H1.out.1 ⟨i, on, wt⟩ ⟨HI.out, HD.out.1, HD.out.2⟩ HR.out
    have hfin := Lib.hid (And.intro ht5 ((H1.out.2.2.trans ho5 (fun q hq => .inl hq))))
    have HS := Lib.hid (And.intro H1.out.1.map H1.out.2.1)
    unfold enN at hrun
    simp only at hrun
    clear ht5 ho5
    refine wp_region_ord (fun w' => w'.cell? ⟨g, 1, none⟩ = some (.map (some b)) ∧ w'.cell? ⟨w.heap.size, 0, none⟩ = some (.int .i64 on) ∧ w'.cell? ⟨w.heap.size, 1, none⟩ = some (.int .i64 wt)) 10
      [(true, 0), (true, 1), (true, 2), (true, 3), (true, 4), (true, 5), (true, 6), (true, 7), (true, 8), (true, 9)]
      default (by kernel_rfl) (by kernel_rfl) (fun d _ _ _ _ h => by cases d <;> exact h) ?_ ?_
    · exact ⟨c1, x0, x1⟩
    simp only [List.map_cons, List.map_nil, List.getD_cons_succ, List.getD_cons_zero]
    repeat
      (refine heldL_take ?_ ?_ ?_
       rotate_left
       · intro w' hw'
         try dsimp only at hw'
         obtain ⟨q1, q2, q3⟩ := hw'
         go_simp
         try with_reducible rfl
       try simp only [Act.put, List.setIfInBounds_toArray, List.set_cons_zero, List.set_cons_succ])
    refine heldL_last (fun K hK => ?_)
    go_simp
    refine hK _ _ ?_
    clear hK K
    try simp only [Act.put, List.setIfInBounds_toArray, List.set_cons_zero, List.set_cons_succ]
    go_wp2_with fail
    go_end0
    exact ⟨rfl, by rw [HL.out]; exact hfin.out⟩
  | true =>
    have HL : Hid (layL l i ⟨on, wt, true⟩ = putN (takeN l i on) ⟨i, on, wt⟩) := rfl
    have HKK := Lib.hid (kids_any g b most l _ H1.out.1 on)
    go_enter Try.func23, Try.ntmps23
    go_wp2_with fail
    generalize w.alloc (.cells #[.int .i64 on, .int .i64 wt, .bool true] 30) = W at *
    refine HKK.out.mono ?_
    rintro e w1 ⟨A, c, rfl, hh, hb⟩
    have hbs := H1.out.1.lt
    have o2 : Only [b] w w1 := H1.out.2.2.trans (Only.of_below (S := [b]) hb) (fun q hq => .inl hq)
    have H2 := Lib.hid (And.intro (H1.out.1.below hb) (And.intro (H1.out.2.1.below hb H1.out.2.1.lt) (And.intro o2 hh)))
    have hc := hh.2.1
    have hkl := kids_length l on
    have hfew := H1.out.1.few
    have HMK := Lib.hid (fun k => @mem_kids l on k)
    have HUQ := Lib.hid (hangAll_kids H1.out.1.uq i on)
    clear hb o2 hh HKK c0' c2'
    generalize kidsL l on = ks at *
    go_wp2_with fail
    go_loopw [15] (fun iv wr => ∃ j : Nat, j ≤ ks.length ∧ iv = .int .i64 j ∧ Trs wr g b most (hangAll l (ks.take j) i) ∧ Blk wr w.heap.size 30 #[.int .i64 on, .int .i64 wt, .bool true] ∧ Only [b] w wr ∧ Held wr 3 1 A ks.length c (nums ks)) (fun iv _ => ks.length - (intOf iv).toNat)
    case atStart => exact ⟨0, by omega, rfl, by rw [List.take_zero, hangAll_nil]; exact H2.out.1, H2.out.2.1, H2.out.2.2.1, H2.out.2.2.2⟩
    case round =>
      obtain ⟨j, hj, rfl, kt, kb, ko, kh⟩ := hrel
      have HM := Lib.hid (And.intro kt (And.intro kb (And.intro ko kh)))
      clear kt kb ko kh
      have hj0 : (0 : Int) ≤ j := by omega
      by_cases hlt : j < ks.length
      · obtain ⟨ab, ao, rfl, hal, x0⟩ := HM.out.2.2.2.at_ (j := j) (u := .int .i64 ks[j]) (by simp [nums, hlt])
        have hj1 : (j : Int) < ks.length := by omega
        have HT := Lib.hid (show ks.take (j + 1) = ks.take j ++ [ks[j]] from List.take_succ_eq_append_getElem hlt)
        have HE : Hid (∃ p, getN (hangAll l (ks.take j) i) ks[j] = some p) := by
          obtain ⟨p, hp, _, hpi⟩ := (HMK.out ks[j]).1 (List.getElem_mem hlt)
          have e := getN_of_mem H1.out.1.uq hp
          rw [hpi] at e
          have e2 : getN (hangAll l (ks.take j) i) ks[j] = (getN l ks[j]).map (fun p => if p.id ∈ ks.take j ∧ p.id ≠ i then ⟨p.id, i, p.wt⟩ else p) := getN_map l _ (hangAll_id _ i) _
          rw [e] at e2
          exact ⟨_, e2⟩
        generalize ks[j] = q at *
        by_cases hq : q = i
        · subst hq
          go_wp2_with fail
          go_roundw
          case rel => exact ⟨j + 1, by omega, by go_num, by rw [HT.out, hangAll_skip]; exact HM.out.1, HM.out.2⟩
          case measure => simp [intOf]; omega
        · have hqi : (q != i) = true := by simp [hq]
          obtain ⟨p, hp⟩ := HE.out
          have HC := Lib.hid (hang_any g b most _ wr HM.out.1 q i p hp (by have := HI.out; omega))
          clear hp
          have HQ := Lib.hid hq
          clear hq
          go_wp2_with fail
          refine HC.out.mono ?_
          rintro e w3 ⟨rfl, ht3, ho3⟩
          have kh3 := held_mapOnly HM.out.2.2.2 HM.out.1.map ho3
          have kb3 : Blk w3 w.heap.size 30 #[.int .i64 on, .int .i64 wt, .bool true] := HM.out.2.1.only ho3 (by simp; omega)
          have H3 := Lib.hid (And.intro ht3 (And.intro kb3 (And.intro (HM.out.2.2.1.trans_ ho3) kh3)))
          clear ht3 ho3 kh3 kb3
          go_wp2_with fail
          go_roundw
          case rel => exact ⟨j + 1, by omega, by go_num, by rw [HT.out, hangAll_snoc _ _ _ _ HQ.out]; exact H3.out.1, H3.out.2⟩
          case measure => simp [intOf]; omega
      · obtain rfl : ks.length = j := by omega
        have e0 := Lib.hid (show ks.take ks.length = ks from List.take_of_length_le (Nat.le_refl _))
        have ht := HM.out.1
        rw [e0.out, HUQ.out] at ht
        have H4 := Lib.hid (And.intro ht (And.intro HM.out.2.1 HM.out.2.2.1))
        clear ht HM
        have HRo : Hid ((getN (takeN l i on) i).isSome = true ∨ (takeN l i on).length < 256) := by
          rcases HR.out with h | h
          · left
            rw [getN_take]
            cases hg : getN l i with
            | none => rw [hg] at h; cases h
            | some p => rfl
          · right
            rw [length_take]
            exact h
        go_upto_region 8 with fail
        have c1 := Blk.cell H4.out.1.blk 1
        have x0 := Blk.cell H4.out.2.1 0
        have x1 := Blk.cell H4.out.2.1 1
        simp at c1 x0 x1
        obtain ⟨w5, hrun, ht5, ho5⟩ := trs_put g b most (takeN l i on) wr H4.out.1 ⟨i, on, wt⟩ ⟨HI.out, HD.out.1, HD.out.2⟩ HRo.out
        have hfin := Lib.hid (And.intro ht5 ((H4.out.2.2.trans ho5 (fun q hq => .inl hq))))
        have HS := Lib.hid (And.intro H4.out.1.map H4.out.2.1)
        unfold enN at hrun
        simp only at hrun
        clear ht5 ho5
        refine wp_region_ord (fun w' => w'.cell? ⟨g, 1, none⟩ = some (.map (some b)) ∧ w'.cell? ⟨w.heap.size, 0, none⟩ = some (.int .i64 on) ∧ w'.cell? ⟨w.heap.size, 1, none⟩ = some (.int .i64 wt)) 10
          [(true, 0), (true, 1), (true, 2), (true, 3), (true, 4), (true, 5), (true, 6), (true, 7), (true, 8), (true, 9)]
          default (by kernel_rfl) (by kernel_rfl) (fun d _ _ _ _ h => by cases d <;> exact h) ?_ ?_
        · exact ⟨c1, x0, x1⟩
        simp only [List.map_cons, List.map_nil, List.getD_cons_succ, List.getD_cons_zero]
        repeat
          (refine heldL_take ?_ ?_ ?_
           rotate_left
           · intro w' hw'
             try dsimp only at hw'
             obtain ⟨q1, q2, q3⟩ := hw'
             go_simp
             try with_reducible rfl
           try simp only [Act.put, List.setIfInBounds_toArray, List.set_cons_zero, List.set_cons_succ])
        refine heldL_last (fun K hK => ?_)
        go_simp
        refine hK _ _ ?_
        clear hK K
        try simp only [Act.put, List.setIfInBounds_toArray, List.set_cons_zero, List.set_cons_succ]
        go_wp2_with fail
        go_end0
        exact ⟨rfl, by rw [HL.out]; exact hfin.out⟩
end Go.Proofs.Ytifgbnjpiphidaa
