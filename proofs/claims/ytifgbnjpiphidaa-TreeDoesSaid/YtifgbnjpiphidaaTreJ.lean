/- The walk of the laws' do: both trees are asked the same. -/
import Derived.Test.YtifgbnjpiphidaaTreH
namespace Go.Proofs.Ytifgbnjpiphidaa
open Go.RowKit
set_option linter.unusedVariables false
/-- Both trees, of the same nodes. -/
structure Bth (w : World) (g b : Nat) (most : Int) (h : Nat) (B : Option Addr) (c : Nat) (l : List Nd) : Prop where
  t : Trs w g b most l
  r : Rt w h B c l
  ok : OkT l
section
variable {w w' : World} {g b h c : Nat} {most : Int} {B : Option Addr} {l : List Nd}
theorem Bth.below (k : Bth w g b most h B c l) (hb : Below w.heap.size w w') : Bth w' g b most h B c l := ⟨k.t.below hb, k.r.below hb, k.ok⟩
theorem Bth.alloc (k : Bth w g b most h B c l) (o : Obj) : Bth (w.alloc o) g b most h B c l := k.below ((Below.refl _ _).alloc (Nat.le_refl _) o)
theorem Bth.drewN (k : Bth w g b most h B c l) (n : Nat) : Bth (w.drewN n) g b most h B c l := k.below (below_drewN (Below.refl _ _) n)
theorem rt_only_map (k : Rt w h B c l) {b' cnt : Nat} {G : Int → Option Nd} (hm : MapN w b' G cnt) (o : Only [b'] w w') : Rt w' h B c l :=
  ⟨k.blk.only o (by simp; exact MapV.blk_ne hm k.blk), held_mapOnly k.row hm o, k.few⟩
theorem trs_only_blk (k : Trs w g b most l) {cs : Array Value} (hb : Blk w h 39 cs) (o : Only [h] w w') : Trs w' g b most l :=
  k.same (o.block g k.lt.1 (by simp; exact blk_ty_ne k.blk hb (by decide))) (o.block b k.lt.2 (by simp; exact fun e => MapV.blk_ne k.map hb e.symm))
end
def DoE (w : World) (g b : Nat) (most : Int) (h : Nat) (e : Ending) (w' : World) : Prop :=
  e = .returned (.bool true) ∧ ∃ (B : Option Addr) (c : Nat) (l : List Nd), Bth w' g b most h B c l ∧ Only [b, h] w w'
set_option maxHeartbeats 8000000 in
theorem do_any (g b : Nat) (most : Int) (h c : Nat) (B : Option Addr) (l : List Nd) (w : World) (k : Bth w g b most h B c l) (a : Ac) (hin : AcIn a) :
    Calls Try.prog 14 #[.pointer (some ⟨g, 0, none⟩), .pointer (some ⟨h, 0, none⟩), .int .i64 most, .agg (av a).toArray] w (DoE w g b most h) := by
  obtain ⟨kd, id, ⟨on, wt, ex⟩⟩ := a
  have z1 := Blk.new w 42 #[.int .i64 kd, .int .i64 id, .int .i64 on, .int .i64 wt, .bool ex]
  have B1 : Below w.heap.size w (w.alloc (.cells #[.int .i64 kd, .int .i64 id, .int .i64 on, .int .i64 wt, .bool ex] 42)) := (Below.refl _ _).alloc (Nat.le_refl _) _
  have d0 : (w.alloc (.cells #[.int .i64 kd, .int .i64 id, .int .i64 on, .int .i64 wt, .bool ex] 42)).cell? ⟨w.heap.size, 0, none⟩ = some (.int .i64 kd) := Blk.cell z1 0
  have d1 : (w.alloc (.cells #[.int .i64 kd, .int .i64 id, .int .i64 on, .int .i64 wt, .bool ex] 42)).cell? ⟨w.heap.size, 1, none⟩ = some (.int .i64 id) := Blk.cell z1 1
  have d2 : (w.alloc (.cells #[.int .i64 kd, .int .i64 id, .int .i64 on, .int .i64 wt, .bool ex] 42)).cell? ⟨w.heap.size, 2, none⟩ = some (.int .i64 on) := Blk.cell z1 2
  have d3 : (w.alloc (.cells #[.int .i64 kd, .int .i64 id, .int .i64 on, .int .i64 wt, .bool ex] 42)).cell? ⟨w.heap.size, 3, none⟩ = some (.int .i64 wt) := Blk.cell z1 3
  have d4 : (w.alloc (.cells #[.int .i64 kd, .int .i64 id, .int .i64 on, .int .i64 wt, .bool ex] 42)).cell? ⟨w.heap.size, 4, none⟩ = some (.bool ex) := Blk.cell z1 4
  have H1 := Lib.hid (And.intro (k.below B1) (And.intro z1 B1))
  have HIN := Lib.hid hin
  have hbw : w.heap.size ≠ b := fun e => by have := k.t.lt; omega
  have hmo := k.t.mst.2
  have hl2 := k.t.few
  clear k z1 B1 hin
  unfold av
  simp only
  by_cases h3 : kd = 3
  · subst h3
    go_enter Try.func14, Try.ntmps14
    go_upto_region 4 with fail
    generalize w.alloc (.cells #[.int .i64 3, .int .i64 id, .int .i64 on, .int .i64 wt, .bool ex] 42) = W at *
    refine wp_region_ord (fun w' => w'.cell? ⟨w.heap.size, 1, none⟩ = some (.int .i64 id) ∧ w'.cell? ⟨w.heap.size, 2, none⟩ = some (.int .i64 on) ∧ w'.cell? ⟨w.heap.size, 3, none⟩ = some (.int .i64 wt) ∧ w'.cell? ⟨w.heap.size, 4, none⟩ = some (.bool ex)) 13
      [(true, 0), (true, 1), (true, 2), (true, 3), (true, 4), (true, 6), (true, 7), (true, 8), (true, 9), (true, 10), (false, 5), (false, 11), (true, 12)]
      default (by kernel_rfl) (by kernel_rfl) (fun d _ _ _ _ h => by cases d <;> exact h) ?_ ?_
    · exact ⟨d1, d2, d3, d4⟩
    simp only [List.map_cons, List.map_nil, List.getD_cons_succ, List.getD_cons_zero]
    repeat
      (refine heldL_take ?_ ?_ ?_
       rotate_left
       · intro w' hw'
         try dsimp only at hw'
         obtain ⟨q1, q2, q3, q4⟩ := hw'
         go_simp
         try with_reducible rfl
       try simp only [Act.put, List.setIfInBounds_toArray, List.set_cons_zero, List.set_cons_succ])
    refine heldL_move (fun K hK => ?_)
    go_simp
    refine (move_all g b most l _ (H1.out.1.t.drewN 1) id ⟨on, wt, ex⟩ H1.out.1.ok HIN.out.2.1).mono ?_
    rintro e w1 ⟨rfl, t1⟩
    have o1 : Only [b] W w1 := ⟨t1.2.os, t1.2.tape, t1.2.output, t1.2.size, t1.2.block⟩
    have HR1 := Lib.hid (rt_only_map H1.out.1.r H1.out.1.t.map o1)
    have z2 := H1.out.2.1.only o1 (by simp; exact hbw)
    have HT1 := Lib.hid (And.intro t1.1 (And.intro o1 z2))
    have y1 := Blk.cell z2 1
    have y2 := Blk.cell z2 2
    have y3 := Blk.cell z2 3
    have y4 := Blk.cell z2 4
    simp at y1 y2 y3 y4
    refine hK.out _ _ ?_ (fun hS => ?_)
    · exact ⟨y1, y2, y3, y4⟩
    clear hK K o1 z2 t1
    try simp only [Act.put, List.setIfInBounds_toArray, List.set_cons_zero, List.set_cons_succ]
    refine heldL_move (fun K hK => ?_)
    go_simp
    refine (rmove_any h c B l w1 HR1.out H1.out.1.ok id ⟨on, wt, ex⟩).mono ?_
    rintro e w2 ⟨rfl, B2, c2, k2, o2⟩
    have HB : Hid (Bth w2 g b most h B2 c2 (moveS l id ⟨on, wt, ex⟩).2) := ⟨trs_only_blk HT1.out.1 HR1.out.blk o2, k2, ok_moveS H1.out.1.ok id ⟨on, wt, ex⟩⟩
    have HO : Hid (Only [b, h] w w2) := ((Only.of_below (S := [b, h]) H1.out.2.2).trans_ (HT1.out.2.1.mono (fun i hi => .inl (by simp at hi; simp [hi])))).trans_ (o2.mono (fun i hi => .inl (by simp at hi; simp [hi])))
    have hh2 : w.heap.size ≠ h := blk_ty_ne HT1.out.2.2 HR1.out.blk (by decide)
    have z3 := HT1.out.2.2.only o2 (by simp; exact hh2)
    have u1 := Blk.cell z3 1
    have u2 := Blk.cell z3 2
    have u3 := Blk.cell z3 3
    have u4 := Blk.cell z3 4
    simp at u1 u2 u3 u4
    refine hK.out _ _ ?_ (fun hS => ?_)
    · exact ⟨u1, u2, u3, u4⟩
    clear hK K k2 o2 z3 hh2
    generalize (moveS l id ⟨on, wt, ex⟩).1 = er at *
    generalize (moveS l id ⟨on, wt, ex⟩).2 = l2 at *
    try simp only [Act.put, List.setIfInBounds_toArray, List.set_cons_zero, List.set_cons_succ]
    repeat
      (refine heldL_take ?_ ?_ ?_
       rotate_left
       · intro w' hw'
         try dsimp only at hw'
         obtain ⟨q1, q2, q3, q4⟩ := hw'
         go_simp
         try with_reducible rfl
       try simp only [Act.put, List.setIfInBounds_toArray, List.set_cons_zero, List.set_cons_succ])
    refine heldL_last (fun K hK => ?_)
    go_simp
    refine hK _ _ ?_
    clear hK K
    try simp only [Act.put, List.setIfInBounds_toArray, List.set_cons_zero, List.set_cons_succ]
    go_wp2_with fail
    go_ret
    exact ⟨rfl, B2, c2, l2, HB.out, HO.out⟩
  · by_cases h4 : kd = 4
    · subst h4
      go_enter Try.func14, Try.ntmps14
      go_upto_region 4 with fail
      generalize w.alloc (.cells #[.int .i64 4, .int .i64 id, .int .i64 on, .int .i64 wt, .bool ex] 42) = W at *
      refine wp_region_ord (fun w' => w'.cell? ⟨w.heap.size, 1, none⟩ = some (.int .i64 id) ∧ w'.cell? ⟨w.heap.size, 2, none⟩ = some (.int .i64 on) ∧ w'.cell? ⟨w.heap.size, 3, none⟩ = some (.int .i64 wt) ∧ w'.cell? ⟨w.heap.size, 4, none⟩ = some (.bool ex)) 13
        [(true, 0), (true, 1), (true, 2), (true, 3), (true, 4), (true, 6), (true, 7), (true, 8), (true, 9), (true, 10), (false, 5), (false, 11), (true, 12)]
        default (by kernel_rfl) (by kernel_rfl) (fun d _ _ _ _ h => by cases d <;> exact h) ?_ ?_
      · exact ⟨d1, d2, d3, d4⟩
      simp only [List.map_cons, List.map_nil, List.getD_cons_succ, List.getD_cons_zero]
      repeat
        (refine heldL_take ?_ ?_ ?_
         rotate_left
         · intro w' hw'
           try dsimp only at hw'
           obtain ⟨q1, q2, q3, q4⟩ := hw'
           go_simp
           try with_reducible rfl
         try simp only [Act.put, List.setIfInBounds_toArray, List.set_cons_zero, List.set_cons_succ])
      refine heldL_move (fun K hK => ?_)
      go_simp
      refine (move_all g b most l _ (H1.out.1.t.drewN 1) id ⟨on, wt, ex⟩ H1.out.1.ok HIN.out.2.1).mono ?_
      rintro e w1 ⟨rfl, t1⟩
      have o1 : Only [b] W w1 := ⟨t1.2.os, t1.2.tape, t1.2.output, t1.2.size, t1.2.block⟩
      have HR1 := Lib.hid (rt_only_map H1.out.1.r H1.out.1.t.map o1)
      have z2 := H1.out.2.1.only o1 (by simp; exact hbw)
      have HT1 := Lib.hid (And.intro t1.1 (And.intro o1 z2))
      have y1 := Blk.cell z2 1
      have y2 := Blk.cell z2 2
      have y3 := Blk.cell z2 3
      have y4 := Blk.cell z2 4
      simp at y1 y2 y3 y4
      refine hK.out _ _ ?_ (fun hS => ?_)
      · exact ⟨y1, y2, y3, y4⟩
      clear hK K o1 z2 t1
      try simp only [Act.put, List.setIfInBounds_toArray, List.set_cons_zero, List.set_cons_succ]
      refine heldL_move (fun K hK => ?_)
      go_simp
      refine (rmove_any h c B l w1 HR1.out H1.out.1.ok id ⟨on, wt, ex⟩).mono ?_
      rintro e w2 ⟨rfl, B2, c2, k2, o2⟩
      have HB : Hid (Bth w2 g b most h B2 c2 (moveS l id ⟨on, wt, ex⟩).2) := ⟨trs_only_blk HT1.out.1 HR1.out.blk o2, k2, ok_moveS H1.out.1.ok id ⟨on, wt, ex⟩⟩
      have HO : Hid (Only [b, h] w w2) := ((Only.of_below (S := [b, h]) H1.out.2.2).trans_ (HT1.out.2.1.mono (fun i hi => .inl (by simp at hi; simp [hi])))).trans_ (o2.mono (fun i hi => .inl (by simp at hi; simp [hi])))
      have hh2 : w.heap.size ≠ h := blk_ty_ne HT1.out.2.2 HR1.out.blk (by decide)
      have z3 := HT1.out.2.2.only o2 (by simp; exact hh2)
      have u1 := Blk.cell z3 1
      have u2 := Blk.cell z3 2
      have u3 := Blk.cell z3 3
      have u4 := Blk.cell z3 4
      simp at u1 u2 u3 u4
      refine hK.out _ _ ?_ (fun hS => ?_)
      · exact ⟨u1, u2, u3, u4⟩
      clear hK K k2 o2 z3 hh2
      generalize (moveS l id ⟨on, wt, ex⟩).1 = er at *
      generalize (moveS l id ⟨on, wt, ex⟩).2 = l2 at *
      try simp only [Act.put, List.setIfInBounds_toArray, List.set_cons_zero, List.set_cons_succ]
      repeat
        (refine heldL_take ?_ ?_ ?_
         rotate_left
         · intro w' hw'
           try dsimp only at hw'
           obtain ⟨q1, q2, q3, q4⟩ := hw'
           go_simp
           try with_reducible rfl
         try simp only [Act.put, List.setIfInBounds_toArray, List.set_cons_zero, List.set_cons_succ])
      refine heldL_last (fun K hK => ?_)
      go_simp
      refine hK _ _ ?_
      clear hK K
      try simp only [Act.put, List.setIfInBounds_toArray, List.set_cons_zero, List.set_cons_succ]
      go_wp2_with fail
      go_ret
      exact ⟨rfl, B2, c2, l2, HB.out, HO.out⟩
    · have h3b : (kd == 3) = false := by simp [h3]
      have h4b : (kd == 4) = false := by simp [h4]
      by_cases h5 : kd = 5
      · subst h5
        clear h3 h4
        go_enter Try.func14, Try.ntmps14
        go_upto_region 6 with fail
        generalize w.alloc (.cells #[.int .i64 5, .int .i64 id, .int .i64 on, .int .i64 wt, .bool ex] 42) = W at *
        refine wp_region_ord (fun w' => w'.cell? ⟨w.heap.size, 1, none⟩ = some (.int .i64 id) ∧ w'.cell? ⟨w.heap.size, 2, none⟩ = some (.int .i64 on) ∧ w'.cell? ⟨w.heap.size, 3, none⟩ = some (.int .i64 wt) ∧ w'.cell? ⟨w.heap.size, 4, none⟩ = some (.bool ex)) 9
          [(true, 0), (true, 1), (true, 2), (true, 4), (true, 5), (true, 6), (false, 3), (false, 7), (true, 8)]
          default (by kernel_rfl) (by kernel_rfl) (fun d _ _ _ _ h => by cases d <;> exact h) ?_ ?_
        · exact ⟨d1, d2, d3, d4⟩
        simp only [List.map_cons, List.map_nil, List.getD_cons_succ, List.getD_cons_zero]
        repeat
          (refine heldL_take ?_ ?_ ?_
           rotate_left
           · intro w' hw'
             try dsimp only at hw'
             obtain ⟨q1, q2, q3, q4⟩ := hw'
             go_simp
             try with_reducible rfl
           try simp only [Act.put, List.setIfInBounds_toArray, List.set_cons_zero, List.set_cons_succ])
        refine heldL_move (fun K hK => ?_)
        go_simp
        refine (remove_all g b most l _ (H1.out.1.t.drewN 1) id HIN.out.2.1).mono ?_
        rintro e w1 ⟨rfl, t1⟩
        have o1 : Only [b] W w1 := ⟨t1.2.os, t1.2.tape, t1.2.output, t1.2.size, t1.2.block⟩
        have HR1 := Lib.hid (rt_only_map H1.out.1.r H1.out.1.t.map o1)
        have z2 := H1.out.2.1.only o1 (by simp; exact hbw)
        have HT1 := Lib.hid (And.intro t1.1 (And.intro o1 z2))
        have y1 := Blk.cell z2 1
        have y2 := Blk.cell z2 2
        have y3 := Blk.cell z2 3
        have y4 := Blk.cell z2 4
        simp at y1 y2 y3 y4
        refine hK.out _ _ ?_ (fun hS => ?_)
        · exact ⟨y1, y2, y3, y4⟩
        clear hK K o1 z2 t1
        try simp only [Act.put, List.setIfInBounds_toArray, List.set_cons_zero, List.set_cons_succ]
        refine heldL_move (fun K hK => ?_)
        go_simp
        refine (rremove_any h c B l w1 HR1.out H1.out.1.ok H1.out.1.t.nd hl2 id).mono ?_
        rintro e w2 ⟨rfl, B2, c2, k2, o2⟩
        have HB : Hid (Bth w2 g b most h B2 c2 (removeS l id).2) := ⟨trs_only_blk HT1.out.1 HR1.out.blk o2, k2, ok_removeS H1.out.1.ok id⟩
        have HO : Hid (Only [b, h] w w2) := ((Only.of_below (S := [b, h]) H1.out.2.2).trans_ (HT1.out.2.1.mono (fun i hi => .inl (by simp at hi; simp [hi])))).trans_ (o2.mono (fun i hi => .inl (by simp at hi; simp [hi])))
        have hh2 : w.heap.size ≠ h := blk_ty_ne HT1.out.2.2 HR1.out.blk (by decide)
        have z3 := HT1.out.2.2.only o2 (by simp; exact hh2)
        have u1 := Blk.cell z3 1
        have u2 := Blk.cell z3 2
        have u3 := Blk.cell z3 3
        have u4 := Blk.cell z3 4
        simp at u1 u2 u3 u4
        refine hK.out _ _ ?_ (fun hS => ?_)
        · exact ⟨u1, u2, u3, u4⟩
        clear hK K k2 o2 z3 hh2
        generalize (removeS l id).1 = er at *
        generalize (removeS l id).2 = l2 at *
        try simp only [Act.put, List.setIfInBounds_toArray, List.set_cons_zero, List.set_cons_succ]
        repeat
          (refine heldL_take ?_ ?_ ?_
           rotate_left
           · intro w' hw'
             try dsimp only at hw'
             obtain ⟨q1, q2, q3, q4⟩ := hw'
             go_simp
             try with_reducible rfl
           try simp only [Act.put, List.setIfInBounds_toArray, List.set_cons_zero, List.set_cons_succ])
        refine heldL_last (fun K hK => ?_)
        go_simp
        refine hK _ _ ?_
        clear hK K
        try simp only [Act.put, List.setIfInBounds_toArray, List.set_cons_zero, List.set_cons_succ]
        go_wp2_with fail
        go_ret
        exact ⟨rfl, B2, c2, l2, HB.out, HO.out⟩
      · have h5b : (kd == 5) = false := by simp [h5]
        clear h3 h4 h5
        go_enter Try.func14, Try.ntmps14
        go_upto_region 7 with fail
        generalize w.alloc (.cells #[.int .i64 kd, .int .i64 id, .int .i64 on, .int .i64 wt, .bool ex] 42) = W at *
        refine wp_region_ord (fun w' => w'.cell? ⟨w.heap.size, 1, none⟩ = some (.int .i64 id) ∧ w'.cell? ⟨w.heap.size, 2, none⟩ = some (.int .i64 on) ∧ w'.cell? ⟨w.heap.size, 3, none⟩ = some (.int .i64 wt) ∧ w'.cell? ⟨w.heap.size, 4, none⟩ = some (.bool ex)) 14
          [(true, 0), (true, 1), (true, 2), (true, 3), (true, 4), (true, 6), (true, 7), (true, 8), (true, 9), (true, 10), (true, 11), (false, 5), (false, 12), (true, 13)]
          default (by kernel_rfl) (by kernel_rfl) (fun d _ _ _ _ h => by cases d <;> exact h) ?_ ?_
        · exact ⟨d1, d2, d3, d4⟩
        simp only [List.map_cons, List.map_nil, List.getD_cons_succ, List.getD_cons_zero]
        repeat
          (refine heldL_take ?_ ?_ ?_
           rotate_left
           · intro w' hw'
             try dsimp only at hw'
             obtain ⟨q1, q2, q3, q4⟩ := hw'
             go_simp
             try with_reducible rfl
           try simp only [Act.put, List.setIfInBounds_toArray, List.set_cons_zero, List.set_cons_succ])
        refine heldL_move (fun K hK => ?_)
        go_simp
        refine (insert_all g b most l _ (H1.out.1.t.drewN 1) id ⟨on, wt, ex⟩).mono ?_
        rintro e w1 ⟨rfl, t1⟩
        have o1 : Only [b] W w1 := ⟨t1.2.os, t1.2.tape, t1.2.output, t1.2.size, t1.2.block⟩
        have HR1 := Lib.hid (rt_only_map H1.out.1.r H1.out.1.t.map o1)
        have z2 := H1.out.2.1.only o1 (by simp; exact hbw)
        have HT1 := Lib.hid (And.intro t1.1 (And.intro o1 z2))
        have y1 := Blk.cell z2 1
        have y2 := Blk.cell z2 2
        have y3 := Blk.cell z2 3
        have y4 := Blk.cell z2 4
        simp at y1 y2 y3 y4
        refine hK.out _ _ ?_ (fun hS => ?_)
        · exact ⟨y1, y2, y3, y4⟩
        clear hK K o1 z2 t1
        try simp only [Act.put, List.setIfInBounds_toArray, List.set_cons_zero, List.set_cons_succ]
        refine heldL_move (fun K hK => ?_)
        go_simp
        refine (rinsert_any h c B l w1 HR1.out H1.out.1.ok hl2 most id hmo ⟨on, wt, ex⟩).mono ?_
        rintro e w2 ⟨rfl, B2, c2, k2, o2⟩
        have HB : Hid (Bth w2 g b most h B2 c2 (insertS l most id ⟨on, wt, ex⟩).2) := ⟨trs_only_blk HT1.out.1 HR1.out.blk o2, k2, ok_insertS H1.out.1.ok most id ⟨on, wt, ex⟩⟩
        have HO : Hid (Only [b, h] w w2) := ((Only.of_below (S := [b, h]) H1.out.2.2).trans_ (HT1.out.2.1.mono (fun i hi => .inl (by simp at hi; simp [hi])))).trans_ (o2.mono (fun i hi => .inl (by simp at hi; simp [hi])))
        have hh2 : w.heap.size ≠ h := blk_ty_ne HT1.out.2.2 HR1.out.blk (by decide)
        have z3 := HT1.out.2.2.only o2 (by simp; exact hh2)
        have u1 := Blk.cell z3 1
        have u2 := Blk.cell z3 2
        have u3 := Blk.cell z3 3
        have u4 := Blk.cell z3 4
        simp at u1 u2 u3 u4
        refine hK.out _ _ ?_ (fun hS => ?_)
        · exact ⟨u1, u2, u3, u4⟩
        clear hK K k2 o2 z3 hh2
        generalize (insertS l most id ⟨on, wt, ex⟩).1 = er at *
        generalize (insertS l most id ⟨on, wt, ex⟩).2 = l2 at *
        try simp only [Act.put, List.setIfInBounds_toArray, List.set_cons_zero, List.set_cons_succ]
        repeat
          (refine heldL_take ?_ ?_ ?_
           rotate_left
           · intro w' hw'
             try dsimp only at hw'
             obtain ⟨q1, q2, q3, q4⟩ := hw'
             go_simp
             try with_reducible rfl
           try simp only [Act.put, List.setIfInBounds_toArray, List.set_cons_zero, List.set_cons_succ])
        refine heldL_last (fun K hK => ?_)
        go_simp
        refine hK _ _ ?_
        clear hK K
        try simp only [Act.put, List.setIfInBounds_toArray, List.set_cons_zero, List.set_cons_succ]
        go_wp2_with fail
        go_ret
        exact ⟨rfl, B2, c2, l2, HB.out, HO.out⟩
end Go.Proofs.Ytifgbnjpiphidaa
