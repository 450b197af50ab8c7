/- The walk of the answer's Lay. -/
import Derived.Test.YtifgbnjpiphidaaTreE
import Derived.Test.YtifgbnjpiphidaaOrd
namespace Go.Proofs.Ytifgbnjpiphidaa
open Go.RowKit
set_option linter.unusedVariables false
theorem set_map {l : List Nd} (hu : Uq l) (i : Nat) (hi : i < l.length) (x : Nd) (f : Nd → Nd) (hf : ∀ p ∈ l, p.id ≠ l[i].id → f p = p) (hx : f l[i] = x) : l.set i x = l.map f := by
  apply List.ext_getElem
  · simp
  · intro j h1 h2
    rw [List.getElem_set, List.getElem_map]
    have hj : j < l.length := by simpa using h2
    by_cases e : i = j
    · subst e
      rw [if_pos rfl, hx]
    · rw [if_neg e]
      refine (hf l[j] (List.getElem_mem hj) ?_).symm
      rcases Nat.lt_or_ge i j with h | h
      · exact fun he => List.pairwise_iff_getElem.1 hu i j hi hj h he.symm
      · exact List.pairwise_iff_getElem.1 hu j i hj hi (by omega)
theorem set_hang {l : List Nd} (hu : Uq l) (i : Nat) (hi : i < l.length) {q : Nd} (hq : l[i] = q) (o : Int) : l.set i ⟨q.id, o, q.wt⟩ = hangN l q.id o :=
  set_map hu i hi _ _ (fun p _ hne => by rw [hq] at hne; simp [hne]) (by rw [hq]; simp)
theorem set_put {l : List Nd} (hu : Uq l) (i : Nat) (hi : i < l.length) {q : Nd} (hq : l[i] = q) (o t : Int) (hg : getN l q.id = some q) : l.set i ⟨q.id, o, t⟩ = putN l ⟨q.id, o, t⟩ := by
  rw [put_is_hang hg]
  exact set_map hu i hi _ _ (fun p _ hne => by rw [hq] at hne; simp [hne]) (by rw [hq]; simp)
/-- The first j turned. -/
def mixJ (f : Nd → Nd) (l : List Nd) (j : Nat) : List Nd := (l.take j).map f ++ l.drop j
theorem mix_zero (f : Nd → Nd) (l : List Nd) : mixJ f l 0 = l := by simp [mixJ]
theorem mix_all (f : Nd → Nd) (l : List Nd) : mixJ f l l.length = l.map f := by simp [mixJ]
theorem mix_length (f : Nd → Nd) (l : List Nd) (j : Nat) : (mixJ f l j).length = l.length := by
  unfold mixJ
  rw [List.length_append, List.length_map, List.length_take, List.length_drop]
  omega
theorem mix_at (f : Nd → Nd) (l : List Nd) (j : Nat) (hj : j < l.length) : (mixJ f l j)[j]'(by rw [mix_length]; exact hj) = l[j] := by
  unfold mixJ
  rw [List.getElem_append_right (by rw [List.length_map, List.length_take]; omega)]
  simp only [List.length_map, List.length_take, List.getElem_drop]
  congr 1
  omega
theorem mix_set (f : Nd → Nd) (l : List Nd) (j : Nat) (hj : j < l.length) : (mixJ f l j).set j (f l[j]) = mixJ f l (j + 1) := by
  unfold mixJ
  have e : ((l.take j).map f).length = j := by rw [List.length_map, List.length_take]; omega
  have ht : l.take (j + 1) = l.take j ++ [l[j]] := List.take_succ_eq_append_getElem hj
  rw [List.set_append_right _ _ (by rw [e]; exact Nat.le_refl _), e, Nat.sub_self, List.drop_eq_getElem_cons hj, List.set_cons_zero, ht, List.map_append, List.append_assoc]
  rfl
theorem mix_same (f : Nd → Nd) (l : List Nd) (j : Nat) (hj : j < l.length) (h : f l[j] = l[j]) : mixJ f l (j + 1) = mixJ f l j := by
  rw [← mix_set f l j hj, h]
  apply List.ext_getElem
  · simp
  · intro i h1 h2
    rw [List.getElem_set]
    by_cases e : j = i
    · subst e
      rw [if_pos rfl, mix_at f l j hj]
    · rw [if_neg e]
theorem mix_uq {f : Nd → Nd} {l : List Nd} (hu : Uq l) (hf : ∀ p, (f p).id = p.id) (j : Nat) : Uq (mixJ f l j) := by
  have e : (mixJ f l j).map (·.id) = l.map (·.id) := by
    unfold mixJ
    rw [List.map_append, List.map_map, show (fun x : Nd => x.id) ∘ f = (fun x => x.id) from funext hf, ← List.map_append, List.take_append_drop]
  have h := nodup_ids hu
  rw [← e] at h
  unfold List.Nodup at h
  rw [List.pairwise_map] at h
  exact h
theorem blk_ty_ne {w : World} {a b : Nat} {t t' : TypeId} {cs cs' : Array Value} (h1 : Blk w a t cs) (h2 : Blk w b t' cs') (ht : t ≠ t') : a ≠ b := by
  rintro rfl
  unfold Blk at h1 h2
  rw [h1] at h2
  injection h2 with h2
  injection h2 with _ h3
  exact ht h3
theorem Rt.drew {w : World} {h c : Nat} {B : Option Addr} {l : List Nd} (k : Rt w h B c l) : Rt w.drew h B c l := k.drewN 1
def TurnR (w : World) (h : Nat) (l' : List Nd) (w' : World) : Prop := ∃ B c, Rt w' h B c l' ∧ Only [h] w w'
/-- The answer's block written: its row is another one. -/
theorem rt_store {w w2 : World} {h c n c' : Nat} {B B' : Option Addr} {l l' : List Nd} (k : Rt w h B c l) (hb : Below w.heap.size w w2) (hr : Held w2 63 3 B' n c' (prq l')) (hn : n = l'.length) (hf : l'.length ≤ 257) :
    Rt (w2.setCell ⟨h, 0, none⟩ (.slice B' n c')) h B' c' l' ∧ Only [h] w (w2.setCell ⟨h, 0, none⟩ (.slice B' n c')) := by
  subst hn
  have kb := (k.below hb).blk
  have z := Blk.set_ kb 0 (.slice B' l'.length c')
  have o : Only [h] w2 (w2.setCell ⟨h, 0, none⟩ (.slice B' l'.length c')) := (Only.refl _ _).setCell (by simp) _
  refine ⟨⟨z, hr.keep fun b' cur hb' => o.block b' (lt_of_blk hb') (fun hm => ?_), hf⟩, (Only.of_below (S := [h]) hb).trans_ o⟩
  simp at hm
  subst hm
  unfold Blk at kb
  rw [hb'] at kb
  injection kb with kb
  injection kb with _ kt
  exact absurd kt (by decide)
def LayE (w : World) (h : Nat) (l : List Nd) (id : Int) (p : Nd) (d : Dp) (e : Ending) (w' : World) : Prop :=
  e = .returned (.tuple #[]) ∧ (Abv l id (knownL l d).on → TurnR w h (layL (hangN l (knownL l d).on p.on) id (knownL l d)) w') ∧ (¬ Abv l id (knownL l d).on → TurnR w h (layL l id (knownL l d)) w')
set_option maxRecDepth 20000 in
set_option maxHeartbeats 16000000 in
theorem rlay_any (h c : Nat) (B : Option Addr) (l : List Nd) (w : World) (k : Rt w h B c l) (r : Int → Nat) (hu : Uq l) (hr : Rk l r) (hroot : getN l 0 = none) (id : Int) (d : Dp) (p : Nd) (hp : getN l id = some p) :
    Calls Try.prog 37 #[.pointer (some ⟨h, 0, none⟩), .int .i64 id, .agg (da d)] w (LayE w h l id p d) := by
  obtain ⟨on, wt, ex⟩ := d
  have z1 := Blk.new w 30 #[.int .i64 on, .int .i64 wt, .bool ex]
  have k1 := k.alloc (.cells #[.int .i64 on, .int .i64 wt, .bool ex] 30)
  have o1 : Only [h] w (w.alloc (.cells #[.int .i64 on, .int .i64 wt, .bool ex] 30)) := (Only.refl _ _).alloc _
  obtain ⟨bD, hbD⟩ : ∃ bD, bD = w.heap.size := ⟨_, rfl⟩
  have HU := Lib.hid (And.intro hu hr)
  have HP := Lib.hid hp
  have HRO := Lib.hid hroot
  have d0 : (w.alloc (.cells #[.int .i64 on, .int .i64 wt, .bool ex] 30)).cell? ⟨w.heap.size, 0, none⟩ = some (.int .i64 on) := Blk.cell z1 0
  have d2 : (w.alloc (.cells #[.int .i64 on, .int .i64 wt, .bool ex] 30)).cell? ⟨w.heap.size, 2, none⟩ = some (.bool ex) := Blk.cell z1 2
  have H0 := Lib.hid (And.intro k1 (And.intro z1 o1))
  clear k hu hr hroot hp z1 k1 o1
  unfold da
  go_enter Try.func37, Try.ntmps37
  go_upto_region 1 with fail
  go_quiet (fail)
  have H1 : Hid (Rt ((w.alloc (.cells #[.int .i64 on, .int .i64 wt, .bool ex] 30)).drewN nq) h B c l ∧ Blk ((w.alloc (.cells #[.int .i64 on, .int .i64 wt, .bool ex] 30)).drewN nq) w.heap.size 30 #[.int .i64 on, .int .i64 wt, .bool ex] ∧ Only [h] w ((w.alloc (.cells #[.int .i64 on, .int .i64 wt, .bool ex] 30)).drewN nq)) := ⟨H0.out.1.drewN nq, H0.out.2.1.drewN nq, H0.out.2.2.drewN nq⟩
  clear d0 d2 H0
  generalize (w.alloc (.cells #[.int .i64 on, .int .i64 wt, .bool ex] 30)).drewN nq = W1 at *
  rw [← hbD] at H1 ⊢
  clear hbD
  have hcap := H1.out.1.capb
  have hfew := H1.out.1.few
  by_cases h0 : on = 0
  · subst h0
    cases ex with
    | false =>
      have HDE : Hid (knownL l ⟨0, wt, false⟩ = ⟨0, wt, false⟩) := by
        show knownL l ⟨0, wt, false⟩ = _
        unfold knownL
        rw [if_neg (fun h => h.1 rfl)]
      go_upto_region 5 with fail
      go_wp2_with fail
      refine (rbelow_any h c B l W1 H1.out.1 r HU.out.1 HU.out.2 0 id).mono ?_
      rintro e w2 ⟨⟨v, rfl, hv⟩, rfl⟩
      obtain rfl : v = false := by
        cases v with
        | false => rfl
        | true => exact absurd (hv.1 rfl) (abv_none HRO.out)
      have HNV : Hid (¬ Abv l id 0) := abv_none HRO.out
      clear hv
      have HRES : Hid (∀ W, TurnR w h (putN (l) ⟨id, 0, wt⟩) W → (Abv l id (knownL l ⟨0, wt, false⟩).on → TurnR w h (layL (hangN l (knownL l ⟨0, wt, false⟩).on p.on) id (knownL l ⟨0, wt, false⟩)) W) ∧ (¬ Abv l id (knownL l ⟨0, wt, false⟩).on → TurnR w h (layL l id (knownL l ⟨0, wt, false⟩)) W)) := fun W t => ⟨fun ha => absurd (by rw [HDE.out] at ha; exact ha) HNV.out, fun _ => by rw [HDE.out]; exact t⟩
      have H5 : Hid (Rt W1 h B c l ∧ Uq l ∧ getN l id = some p ∧ Blk W1 bD 30 #[.int .i64 0, .int .i64 wt, .bool false] ∧ Only [h] w W1) := ⟨H1.out.1, HU.out.1, HP.out, H1.out.2⟩
      clear H1 HDE HNV
      go_wp2_with fail
      refine wp_loop_rounds 1 ?_
      rw [rounds_succ]
      have e5 := Blk.cell H5.out.1.blk 0
      simp at e5
      have hcap5 := H5.out.1.capb
      have hpos5 : 0 < l.length := List.length_pos_of_mem (getN_mem H5.out.2.2.1).1
      have hpos6 : (0 : Int) < l.length := by omega
      go_wp2_with fail
      clear e5 hcap5 hpos5 hpos6
      have H9 : Hid (Rt W1 h B c l ∧ Uq l ∧ getN l id = some p ∧ Blk W1 bD 30 #[.int .i64 0, .int .i64 wt, .bool false] ∧ Only [h] w W1) := H5.out
      obtain ⟨i9, hi9, hp9, hF9⟩ := rfind_fix (h := h) (c := c) (B := B) H9.out.2.1 H9.out.2.2.1
      have e0 := Blk.cell H9.out.1.blk 0
      have f0 := Blk.frozen H9.out.1.blk 0
      have y1 := Blk.cell H9.out.2.2.2.1 1
      simp at e0 y1
      have HF9 := Lib.hid (fun W k => hF9 W k)
      have HP9 := Lib.hid hp9
      have hcap9 := H9.out.1.capb
      have hfew9 := H9.out.1.few
      clear hF9 hp9
      go_upto_region 13 with fail
      refine wp_region_ord (fun w' => w'.cell? ⟨h, 0, none⟩ = some (.slice B l.length c) ∧ w'.cell? ⟨bD, 1, none⟩ = some (.int .i64 wt)) 16
        [(true, 0), (true, 1), (true, 2), (true, 3), (true, 4), (true, 5), (true, 6), (true, 8), (true, 9), (true, 10), (true, 11), (true, 12), (false, 7), (false, 13), (true, 14), (true, 15)]
        default (by kernel_rfl) (by kernel_rfl) (fun d _ _ _ _ h => by cases d <;> exact h) ?_ ?_
      · exact ⟨e0, y1⟩
      simp only [List.map_cons, List.map_nil, List.getD_cons_succ, List.getD_cons_zero]
      repeat
        (refine heldL_take ?_ ?_ ?_
         rotate_left
         · intro w' hw'
           try dsimp only at hw'
           obtain ⟨q0, q1⟩ := hw'
           go_simp
           try with_reducible rfl
         try simp only [Act.put, List.setIfInBounds_toArray, List.set_cons_zero, List.set_cons_succ])
      refine heldL_move (fun K hK => ?_)
      go_simp
      refine (HF9.out _ (H9.out.1.drewN 1)).mono ?_
      rintro e w9 ⟨rfl, rfl⟩
      refine hK.out _ _ ?_ (fun hS => ?_)
      · exact ⟨e0, y1⟩
      clear hK K
      try simp only [Act.put, List.setIfInBounds_toArray, List.set_cons_zero, List.set_cons_succ]
      repeat
        (refine heldL_take ?_ ?_ ?_
         rotate_left
         · intro w' hw'
           try dsimp only at hw'
           obtain ⟨q0, q1⟩ := hw'
           go_simp
           try with_reducible rfl
         try simp only [Act.put, List.setIfInBounds_toArray, List.set_cons_zero, List.set_cons_succ])
      refine heldL_move (fun K hK => ?_)
      go_simp
      refine (set_any B c i9 id 0 wt l _ (H9.out.1.drewN 1).row hfew9 hi9).mono ?_
      rintro e w10 ⟨B10, c10, rfl, h10, b10⟩
      have b10' : Below W1.heap.size W1 w10 := ⟨b10.os, b10.tape, b10.output, b10.size, b10.block⟩
      rw [List.length_set] at h10 ⊢
      have HZ := Lib.hid (rt_store H9.out.1 b10' h10 (by rw [List.length_set]) (by rw [List.length_set]; exact hfew9))
      have k10 := H9.out.1.below b10'
      have y10 := H9.out.2.2.2.1.below b10' H9.out.2.2.2.1.lt
      have e1 := Blk.cell k10.blk 0
      have f1 := Blk.frozen k10.blk 0
      have y2 := Blk.cell y10 1
      simp at e1 y2
      refine hK.out _ _ ?_ (fun hS => ?_)
      · exact ⟨e1, y2⟩
      clear hK K h10 b10 b10' k10 y10
      try simp only [Act.put, List.setIfInBounds_toArray, List.set_cons_zero, List.set_cons_succ]
      repeat
        (refine heldL_take ?_ ?_ ?_
         rotate_left
         · intro w' hw'
           try dsimp only at hw'
           obtain ⟨q0, q1⟩ := hw'
           go_simp
           try with_reducible rfl
         try simp only [Act.put, List.setIfInBounds_toArray, List.set_cons_zero, List.set_cons_succ])
      refine heldL_last (fun K hK => ?_)
      go_simp
      refine hK _ _ ?_
      clear hK K
      try simp only [Act.put, List.setIfInBounds_toArray, List.set_cons_zero, List.set_cons_succ]
      have HW := Lib.hid (set_put H9.out.2.1 i9 hi9 HP9.out 0 wt (by have e := getN_mem H9.out.2.2.1; rw [e.2]; exact H9.out.2.2.1))
      have hid9 := (getN_mem H9.out.2.2.1).2
      go_wp2_with fail
      go_end0
      rw [hid9] at HW
      have z1 := HZ.out.1
      rw [HW.out] at z1
      first
        | exact ⟨rfl, HRES.out _ ⟨B10, c10, z1.drew, H9.out.2.2.2.2.trans_ HZ.out.2.drew⟩⟩
        | exact ⟨rfl, HRES.out _ ⟨B10, c10, z1, H9.out.2.2.2.2.trans_ HZ.out.2⟩⟩
    | true =>
      have HDE : Hid (knownL l ⟨0, wt, true⟩ = ⟨0, wt, true⟩) := by
        show knownL l ⟨0, wt, true⟩ = _
        unfold knownL
        rw [if_neg (fun h => h.1 rfl)]
      go_upto_region 5 with fail
      go_wp2_with fail
      refine (rbelow_any h c B l W1 H1.out.1 r HU.out.1 HU.out.2 0 id).mono ?_
      rintro e w2 ⟨⟨v, rfl, hv⟩, rfl⟩
      obtain rfl : v = false := by
        cases v with
        | false => rfl
        | true => exact absurd (hv.1 rfl) (abv_none HRO.out)
      have HNV : Hid (¬ Abv l id 0) := abv_none HRO.out
      clear hv
      have HRES : Hid (∀ W, TurnR w h (putN (takeN l id 0) ⟨id, 0, wt⟩) W → (Abv l id (knownL l ⟨0, wt, true⟩).on → TurnR w h (layL (hangN l (knownL l ⟨0, wt, true⟩).on p.on) id (knownL l ⟨0, wt, true⟩)) W) ∧ (¬ Abv l id (knownL l ⟨0, wt, true⟩).on → TurnR w h (layL l id (knownL l ⟨0, wt, true⟩)) W)) := fun W t => ⟨fun ha => absurd (by rw [HDE.out] at ha; exact ha) HNV.out, fun _ => by rw [HDE.out]; exact t⟩
      have H5 : Hid (Rt W1 h B c l ∧ Uq l ∧ getN l id = some p ∧ Blk W1 bD 30 #[.int .i64 0, .int .i64 wt, .bool true] ∧ Only [h] w W1) := ⟨H1.out.1, HU.out.1, HP.out, H1.out.2⟩
      clear H1 HDE HNV
      have HUF := Lib.hid (fun j => mix_uq (l := l) H5.out.2.1 (takeN_id id 0) j)
      have hl1 : l.length ≤ 257 := H5.out.1.few
      go_wp2_with fail
      go_loopw [10] (fun iv wr => ∃ (j : Nat) (B c : _), iv = .int .i64 j ∧ j ≤ l.length ∧ Rt wr h B c (mixJ (fun p => if p.on = 0 ∧ p.id ≠ id then ⟨p.id, id, p.wt⟩ else p) l j) ∧ Blk wr bD 30 #[.int .i64 0, .int .i64 wt, .bool true] ∧ Only [h] w wr) (fun iv _ => l.length - (intOf iv).toNat)
      case atStart => exact ⟨0, B, c, by first | rfl | trivial | simp, by omega, by rw [mix_zero]; exact H5.out.1, H5.out.2.2.2.1, H5.out.2.2.2.2⟩
      case round =>
        obtain ⟨j, B6, c6, rfl, hj, kr, ky, ko⟩ := hrel
        have H6 := Lib.hid (And.intro kr (And.intro ky ko))
        have hln := mix_length (fun p : Nd => if p.on = 0 ∧ p.id ≠ id then (⟨p.id, id, p.wt⟩ : Nd) else p) l j
        have e0 := Blk.cell kr.blk 0
        simp at e0
        have hcap6 := kr.capb
        have hfew6 := kr.few
        rw [hln] at e0 hcap6 hfew6
        have HLN := Lib.hid hln
        clear kr ky ko hln
        have hj0 : (0 : Int) ≤ j := by omega
        by_cases hlt : j < l.length
        · have hj1 : (j : Int) < l.length := by omega
          have hlt6 : j < (mixJ (fun p : Nd => if p.on = 0 ∧ p.id ≠ id then (⟨p.id, id, p.wt⟩ : Nd) else p) l j).length := by rw [HLN.out]; exact hlt
          obtain ⟨bq, off, hB, hbq, x0, x1, x2⟩ := H6.out.1.cells j hlt6
          rw [mix_at _ l j hlt] at x0 x1 x2
          have HS := Lib.hid (mix_set (fun p : Nd => if p.on = 0 ∧ p.id ≠ id then (⟨p.id, id, p.wt⟩ : Nd) else p) l j hlt)
          have HN := Lib.hid (mix_same (fun p : Nd => if p.on = 0 ∧ p.id ≠ id then (⟨p.id, id, p.wt⟩ : Nd) else p) l j hlt)
          subst hB
          generalize l[j] = q at *
          obtain ⟨qi, qo, qw⟩ := q
          simp only at x0 x1 x2
          by_cases hy : qo = 0 ∧ qi ≠ id
          · have HS2 : Hid ((mixJ (fun p : Nd => if p.on = 0 ∧ p.id ≠ id then (⟨p.id, id, p.wt⟩ : Nd) else p) l j).set j ⟨qi, id, qw⟩ = mixJ (fun p : Nd => if p.on = 0 ∧ p.id ≠ id then (⟨p.id, id, p.wt⟩ : Nd) else p) l (j + 1)) := by
              show _ = _
              rw [← HS.out]
              congr 1
              exact (if_pos hy).symm
            obtain ⟨hy1, hy2⟩ := hy
            have hb1 : (qo == 0) = true := by simp [hy1]
            have hb2 : (qi != id) = true := by simp [hy2]
            clear hy1 hy2 HS HN
            have f0 := Blk.frozen H6.out.1.blk 0
            go_upto_region 12 with fail
            refine wp_region_ord (fun w' => w'.cell? ⟨h, 0, none⟩ = some (.slice (some ⟨bq, off, none⟩) l.length c6) ∧ w'.cell? ⟨bq, off + j * 3, none⟩ = some (.int .i64 qi) ∧ w'.cell? ⟨bq, off + j * 3 + 2, none⟩ = some (.int .i64 qw)) 27
              [(true, 0), (true, 1), (true, 2), (true, 3), (true, 4), (true, 5), (true, 6), (true, 7), (true, 8), (true, 9), (true, 10), (true, 11), (true, 12), (true, 13), (true, 14), (true, 15), (true, 16), (true, 17), (true, 18), (true, 19), (true, 20), (true, 21), (true, 22), (true, 23), (false, 24), (true, 25), (true, 26)]
              default (by kernel_rfl) (by kernel_rfl) (fun d _ _ _ _ h => by cases d <;> exact h) ?_ ?_
            · exact ⟨e0, x0, x2⟩
            simp only [List.map_cons, List.map_nil, List.getD_cons_succ, List.getD_cons_zero]
            repeat
              (refine heldL_take ?_ ?_ ?_
               rotate_left
               · intro w' hw'
                 try dsimp only at hw'
                 obtain ⟨q0, q1, q2⟩ := hw'
                 go_simp
                 try with_reducible rfl
               try simp only [Act.put, List.setIfInBounds_toArray, List.set_cons_zero, List.set_cons_succ])
            refine heldL_move (fun K hK => ?_)
            go_simp
            have HSET := set_any (some ⟨bq, off, none⟩) c6 j qi id qw _ _ (H6.out.1.drewN 1).row H6.out.1.few hlt6
            rw [HLN.out] at HSET
            refine HSET.mono ?_
            rintro e w10 ⟨B10, c10, rfl, h10, b10⟩
            have b10' : Below wr.heap.size wr w10 := ⟨b10.os, b10.tape, b10.output, b10.size, b10.block⟩
            rw [List.length_set, HLN.out] at h10 ⊢
            have HZ := Lib.hid (rt_store H6.out.1 b10' h10 (by rw [List.length_set, HLN.out]) (by rw [List.length_set]; exact H6.out.1.few))
            have k10 := H6.out.1.below b10'
            have y10 := H6.out.2.1.below b10' H6.out.2.1.lt
            have e1 := Blk.cell k10.blk 0
            have f1 := Blk.frozen k10.blk 0
            simp at e1
            rw [HLN.out] at e1
            have x0' : w10.cell? ⟨bq, off + j * 3, none⟩ = some (.int .i64 qi) := (b10'.cell (p := ⟨bq, off + j * 3, none⟩) hbq).trans x0
            have x2' : w10.cell? ⟨bq, off + j * 3 + 2, none⟩ = some (.int .i64 qw) := (b10'.cell (p := ⟨bq, off + j * 3 + 2, none⟩) hbq).trans x2
            refine hK.out _ _ ?_ (fun hS => ?_)
            · exact ⟨e1, x0', x2'⟩
            have hhD : bD ≠ h := blk_ty_ne H6.out.2.1 H6.out.1.blk (by decide)
            have HY10 := Lib.hid (y10.only (show Only [h] w10 (w10.setCell ⟨h, 0, none⟩ (.slice B10 l.length c10)) from (Only.refl _ _).setCell (by simp) _) (by simp; exact hhD))
            clear hK K h10 b10 b10' k10 y10
            try simp only [Act.put, List.setIfInBounds_toArray, List.set_cons_zero, List.set_cons_succ]
            repeat
              (refine heldL_take ?_ ?_ ?_
               rotate_left
               · intro w' hw'
                 try dsimp only at hw'
                 obtain ⟨q0, q1, q2⟩ := hw'
                 go_simp
                 try with_reducible rfl
               try simp only [Act.put, List.setIfInBounds_toArray, List.set_cons_zero, List.set_cons_succ])
            refine heldL_last (fun K hK => ?_)
            go_simp
            refine hK _ _ ?_
            clear hK K
            try simp only [Act.put, List.setIfInBounds_toArray, List.set_cons_zero, List.set_cons_succ]
            have z1 := HZ.out.1
            rw [HS2.out] at z1
            have H7 := Lib.hid (And.intro z1 (And.intro HY10.out (H6.out.2.2.trans_ HZ.out.2)))
            clear z1 HZ HY10 e1 f1 x0' x2' HSET
            go_wp2_with fail
            go_roundw
            case rel => exact ⟨j + 1, B10, c10, by go_num, by omega, H7.out⟩
            case measure => simp [intOf]; omega
          · have HN2 := Lib.hid (HN.out (by simp only; rw [if_neg hy]))
            by_cases hy1 : qo = 0
            · have hy2 : qi = id := by
                by_cases h : qi = id
                · exact h
                · exact absurd ⟨hy1, h⟩ hy
              have hb1 : (qo == 0) = true := by simp [hy1]
              have hb2 : (qi != id) = false := by simp [hy2]
              clear hy1 hy2 hy HS HN
              go_wp2_with fail
              go_roundw
              case rel => exact ⟨j + 1, _, c6, by go_num, by omega, by rw [HN2.out]; exact H6.out.1, H6.out.2⟩
              case measure => simp [intOf]; omega
            · have hb1 : (qo == 0) = false := by simp [hy1]
              clear hy1 hy HS HN
              go_wp2_with fail
              go_roundw
              case rel => exact ⟨j + 1, _, c6, by go_num, by omega, by rw [HN2.out]; exact H6.out.1, H6.out.2⟩
              case measure => simp [intOf]; omega
        · obtain rfl : l.length = j := by omega
          have HU9 := HUF.out l.length
          have kr := H6.out.1
          rw [mix_all] at kr HU9
          have hg9 : ∃ p9, getN (takeN l id 0) id = some p9 := by rw [getN_take, H5.out.2.2.1]; exact ⟨_, rfl⟩
          obtain ⟨p9, hg9⟩ := hg9
          have H9 : Hid (Rt wr h B6 c6 (takeN l id 0) ∧ Uq (takeN l id 0) ∧ getN (takeN l id 0) id = some p9 ∧ Blk wr bD 30 #[.int .i64 0, .int .i64 wt, .bool true] ∧ Only [h] w wr) := ⟨kr, HU9, hg9, H6.out.2⟩
          clear kr HU9 hg9 H6
          go_wp2_with fail
          generalize takeN l id 0 = l9 at *
          obtain ⟨i9, hi9, hp9, hF9⟩ := rfind_fix (h := h) (c := c6) (B := B6) H9.out.2.1 H9.out.2.2.1
          have e0 := Blk.cell H9.out.1.blk 0
          have f0 := Blk.frozen H9.out.1.blk 0
          have y1 := Blk.cell H9.out.2.2.2.1 1
          simp at e0 y1
          have HF9 := Lib.hid (fun W k => hF9 W k)
          have HP9 := Lib.hid hp9
          have hcap9 := H9.out.1.capb
          have hfew9 := H9.out.1.few
          clear hF9 hp9
          go_upto_region 13 with fail
          refine wp_region_ord (fun w' => w'.cell? ⟨h, 0, none⟩ = some (.slice B6 l9.length c6) ∧ w'.cell? ⟨bD, 1, none⟩ = some (.int .i64 wt)) 16
            [(true, 0), (true, 1), (true, 2), (true, 3), (true, 4), (true, 5), (true, 6), (true, 8), (true, 9), (true, 10), (true, 11), (true, 12), (false, 7), (false, 13), (true, 14), (true, 15)]
            default (by kernel_rfl) (by kernel_rfl) (fun d _ _ _ _ h => by cases d <;> exact h) ?_ ?_
          · exact ⟨e0, y1⟩
          simp only [List.map_cons, List.map_nil, List.getD_cons_succ, List.getD_cons_zero]
          repeat
            (refine heldL_take ?_ ?_ ?_
             rotate_left
             · intro w' hw'
               try dsimp only at hw'
               obtain ⟨q0, q1⟩ := hw'
               go_simp
               try with_reducible rfl
             try simp only [Act.put, List.setIfInBounds_toArray, List.set_cons_zero, List.set_cons_succ])
          refine heldL_move (fun K hK => ?_)
          go_simp
          refine (HF9.out _ (H9.out.1.drewN 1)).mono ?_
          rintro e w9 ⟨rfl, rfl⟩
          refine hK.out _ _ ?_ (fun hS => ?_)
          · exact ⟨e0, y1⟩
          clear hK K
          try simp only [Act.put, List.setIfInBounds_toArray, List.set_cons_zero, List.set_cons_succ]
          repeat
            (refine heldL_take ?_ ?_ ?_
             rotate_left
             · intro w' hw'
               try dsimp only at hw'
               obtain ⟨q0, q1⟩ := hw'
               go_simp
               try with_reducible rfl
             try simp only [Act.put, List.setIfInBounds_toArray, List.set_cons_zero, List.set_cons_succ])
          refine heldL_move (fun K hK => ?_)
          go_simp
          refine (set_any B6 c6 i9 id 0 wt l9 _ (H9.out.1.drewN 1).row hfew9 hi9).mono ?_
          rintro e w10 ⟨B10, c10, rfl, h10, b10⟩
          have b10' : Below wr.heap.size wr w10 := ⟨b10.os, b10.tape, b10.output, b10.size, b10.block⟩
          rw [List.length_set] at h10 ⊢
          have HZ := Lib.hid (rt_store H9.out.1 b10' h10 (by rw [List.length_set]) (by rw [List.length_set]; exact hfew9))
          have k10 := H9.out.1.below b10'
          have y10 := H9.out.2.2.2.1.below b10' H9.out.2.2.2.1.lt
          have e1 := Blk.cell k10.blk 0
          have f1 := Blk.frozen k10.blk 0
          have y2 := Blk.cell y10 1
          simp at e1 y2
          refine hK.out _ _ ?_ (fun hS => ?_)
          · exact ⟨e1, y2⟩
          clear hK K h10 b10 b10' k10 y10
          try simp only [Act.put, List.setIfInBounds_toArray, List.set_cons_zero, List.set_cons_succ]
          repeat
            (refine heldL_take ?_ ?_ ?_
             rotate_left
             · intro w' hw'
               try dsimp only at hw'
               obtain ⟨q0, q1⟩ := hw'
               go_simp
               try with_reducible rfl
             try simp only [Act.put, List.setIfInBounds_toArray, List.set_cons_zero, List.set_cons_succ])
          refine heldL_last (fun K hK => ?_)
          go_simp
          refine hK _ _ ?_
          clear hK K
          try simp only [Act.put, List.setIfInBounds_toArray, List.set_cons_zero, List.set_cons_succ]
          have HW := Lib.hid (set_put H9.out.2.1 i9 hi9 HP9.out 0 wt (by have e := getN_mem H9.out.2.2.1; rw [e.2]; exact H9.out.2.2.1))
          have hid9 := (getN_mem H9.out.2.2.1).2
          go_wp2_with fail
          go_end0
          rw [hid9] at HW
          have z1 := HZ.out.1
          rw [HW.out] at z1
          first
            | exact ⟨rfl, HRES.out _ ⟨B10, c10, z1.drew, H9.out.2.2.2.2.trans_ HZ.out.2.drew⟩⟩
            | exact ⟨rfl, HRES.out _ ⟨B10, c10, z1, H9.out.2.2.2.2.trans_ HZ.out.2⟩⟩
  · have hb0 : (on != 0) = true := by simp [h0]
    cases hg : getN l on with
    | none =>
      have HDE : Hid (knownL l ⟨on, wt, ex⟩ = ⟨0, wt, false⟩) := by
        show knownL l ⟨on, wt, ex⟩ = _
        unfold knownL
        rw [if_pos ⟨h0, hg⟩]
      have HC := Lib.hid (rfind_no h c on B l W1 H1.out.1 hg)
      clear hg h0
      go_wp2_with fail
      refine HC.out.mono ?_
      rintro e w2 ⟨rfl, rfl⟩
      go_upto_region 5 with fail
      go_wp2_with fail
      refine (rbelow_any h c B l W1 H1.out.1 r HU.out.1 HU.out.2 0 id).mono ?_
      rintro e w2 ⟨⟨v, rfl, hv⟩, rfl⟩
      obtain rfl : v = false := by
        cases v with
        | false => rfl
        | true => exact absurd (hv.1 rfl) (abv_none HRO.out)
      have HNV : Hid (¬ Abv l id 0) := abv_none HRO.out
      clear hv
      have HRES : Hid (∀ W, TurnR w h (putN (l) ⟨id, 0, wt⟩) W → (Abv l id (knownL l ⟨on, wt, ex⟩).on → TurnR w h (layL (hangN l (knownL l ⟨on, wt, ex⟩).on p.on) id (knownL l ⟨on, wt, ex⟩)) W) ∧ (¬ Abv l id (knownL l ⟨on, wt, ex⟩).on → TurnR w h (layL l id (knownL l ⟨on, wt, ex⟩)) W)) := fun W t => ⟨fun ha => absurd (by rw [HDE.out] at ha; exact ha) HNV.out, fun _ => by rw [HDE.out]; exact t⟩
      have H5 : Hid (Rt W1 h B c l ∧ Uq l ∧ getN l id = some p ∧ Blk W1 bD 30 #[.int .i64 on, .int .i64 wt, .bool ex] ∧ Only [h] w W1) := ⟨H1.out.1, HU.out.1, HP.out, H1.out.2⟩
      clear H1 HDE HNV
      go_wp2_with fail
      refine wp_loop_rounds 1 ?_
      rw [rounds_succ]
      have e5 := Blk.cell H5.out.1.blk 0
      simp at e5
      have hcap5 := H5.out.1.capb
      have hpos5 : 0 < l.length := List.length_pos_of_mem (getN_mem H5.out.2.2.1).1
      have hpos6 : (0 : Int) < l.length := by omega
      go_wp2_with fail
      clear e5 hcap5 hpos5 hpos6
      have H9 : Hid (Rt W1 h B c l ∧ Uq l ∧ getN l id = some p ∧ Blk W1 bD 30 #[.int .i64 on, .int .i64 wt, .bool ex] ∧ Only [h] w W1) := H5.out
      obtain ⟨i9, hi9, hp9, hF9⟩ := rfind_fix (h := h) (c := c) (B := B) H9.out.2.1 H9.out.2.2.1
      have e0 := Blk.cell H9.out.1.blk 0
      have f0 := Blk.frozen H9.out.1.blk 0
      have y1 := Blk.cell H9.out.2.2.2.1 1
      simp at e0 y1
      have HF9 := Lib.hid (fun W k => hF9 W k)
      have HP9 := Lib.hid hp9
      have hcap9 := H9.out.1.capb
      have hfew9 := H9.out.1.few
      clear hF9 hp9
      go_upto_region 13 with fail
      refine wp_region_ord (fun w' => w'.cell? ⟨h, 0, none⟩ = some (.slice B l.length c) ∧ w'.cell? ⟨bD, 1, none⟩ = some (.int .i64 wt)) 16
        [(true, 0), (true, 1), (true, 2), (true, 3), (true, 4), (true, 5), (true, 6), (true, 8), (true, 9), (true, 10), (true, 11), (true, 12), (false, 7), (false, 13), (true, 14), (true, 15)]
        default (by kernel_rfl) (by kernel_rfl) (fun d _ _ _ _ h => by cases d <;> exact h) ?_ ?_
      · exact ⟨e0, y1⟩
      simp only [List.map_cons, List.map_nil, List.getD_cons_succ, List.getD_cons_zero]
      repeat
        (refine heldL_take ?_ ?_ ?_
         rotate_left
         · intro w' hw'
           try dsimp only at hw'
           obtain ⟨q0, q1⟩ := hw'
           go_simp
           try with_reducible rfl
         try simp only [Act.put, List.setIfInBounds_toArray, List.set_cons_zero, List.set_cons_succ])
      refine heldL_move (fun K hK => ?_)
      go_simp
      refine (HF9.out _ (H9.out.1.drewN 1)).mono ?_
      rintro e w9 ⟨rfl, rfl⟩
      refine hK.out _ _ ?_ (fun hS => ?_)
      · exact ⟨e0, y1⟩
      clear hK K
      try simp only [Act.put, List.setIfInBounds_toArray, List.set_cons_zero, List.set_cons_succ]
      repeat
        (refine heldL_take ?_ ?_ ?_
         rotate_left
         · intro w' hw'
           try dsimp only at hw'
           obtain ⟨q0, q1⟩ := hw'
           go_simp
           try with_reducible rfl
         try simp only [Act.put, List.setIfInBounds_toArray, List.set_cons_zero, List.set_cons_succ])
      refine heldL_move (fun K hK => ?_)
      go_simp
      refine (set_any B c i9 id 0 wt l _ (H9.out.1.drewN 1).row hfew9 hi9).mono ?_
      rintro e w10 ⟨B10, c10, rfl, h10, b10⟩
      have b10' : Below W1.heap.size W1 w10 := ⟨b10.os, b10.tape, b10.output, b10.size, b10.block⟩
      rw [List.length_set] at h10 ⊢
      have HZ := Lib.hid (rt_store H9.out.1 b10' h10 (by rw [List.length_set]) (by rw [List.length_set]; exact hfew9))
      have k10 := H9.out.1.below b10'
      have y10 := H9.out.2.2.2.1.below b10' H9.out.2.2.2.1.lt
      have e1 := Blk.cell k10.blk 0
      have f1 := Blk.frozen k10.blk 0
      have y2 := Blk.cell y10 1
      simp at e1 y2
      refine hK.out _ _ ?_ (fun hS => ?_)
      · exact ⟨e1, y2⟩
      clear hK K h10 b10 b10' k10 y10
      try simp only [Act.put, List.setIfInBounds_toArray, List.set_cons_zero, List.set_cons_succ]
      repeat
        (refine heldL_take ?_ ?_ ?_
         rotate_left
         · intro w' hw'
           try dsimp only at hw'
           obtain ⟨q0, q1⟩ := hw'
           go_simp
           try with_reducible rfl
         try simp only [Act.put, List.setIfInBounds_toArray, List.set_cons_zero, List.set_cons_succ])
      refine heldL_last (fun K hK => ?_)
      go_simp
      refine hK _ _ ?_
      clear hK K
      try simp only [Act.put, List.setIfInBounds_toArray, List.set_cons_zero, List.set_cons_succ]
      have HW := Lib.hid (set_put H9.out.2.1 i9 hi9 HP9.out 0 wt (by have e := getN_mem H9.out.2.2.1; rw [e.2]; exact H9.out.2.2.1))
      have hid9 := (getN_mem H9.out.2.2.1).2
      go_wp2_with fail
      go_end0
      rw [hid9] at HW
      have z1 := HZ.out.1
      rw [HW.out] at z1
      first
        | exact ⟨rfl, HRES.out _ ⟨B10, c10, z1.drew, H9.out.2.2.2.2.trans_ HZ.out.2.drew⟩⟩
        | exact ⟨rfl, HRES.out _ ⟨B10, c10, z1, H9.out.2.2.2.2.trans_ HZ.out.2⟩⟩
    | some qq =>
      cases ex with
      | false =>
        have HDE : Hid (knownL l ⟨on, wt, false⟩ = ⟨on, wt, false⟩) := by
          show knownL l ⟨on, wt, false⟩ = _
          unfold knownL
          rw [if_neg (fun h => by have h2 := h.2; simp only at h2; rw [hg] at h2; cases h2)]
        obtain ⟨i0, hi0, _, hF0⟩ := rfind_fix (h := h) (c := c) (B := B) HU.out.1 hg
        have HC := Lib.hid (hF0 W1 H1.out.1)
        clear hg h0 hF0
        go_wp2_with fail
        refine HC.out.mono ?_
        rintro e w2 ⟨rfl, rfl⟩
        go_upto_region 5 with fail
        go_wp2_with fail
        refine (rbelow_any h c B l W1 H1.out.1 r HU.out.1 HU.out.2 on id).mono ?_
        rintro e w2 ⟨⟨v, rfl, hv⟩, rfl⟩
        cases v with
        | false =>
          have HNV : Hid (¬ Abv l id on) := fun h => absurd (hv.2 h) (by simp)
          clear hv
          have HRES : Hid (∀ W, TurnR w h (putN (l) ⟨id, on, wt⟩) W → (Abv l id (knownL l ⟨on, wt, false⟩).on → TurnR w h (layL (hangN l (knownL l ⟨on, wt, false⟩).on p.on) id (knownL l ⟨on, wt, false⟩)) W) ∧ (¬ Abv l id (knownL l ⟨on, wt, false⟩).on → TurnR w h (layL l id (knownL l ⟨on, wt, false⟩)) W)) := fun W t => ⟨fun ha => absurd (by rw [HDE.out] at ha; exact ha) HNV.out, fun _ => by rw [HDE.out]; exact t⟩
          have H5 : Hid (Rt W1 h B c l ∧ Uq l ∧ getN l id = some p ∧ Blk W1 bD 30 #[.int .i64 on, .int .i64 wt, .bool false] ∧ Only [h] w W1) := ⟨H1.out.1, HU.out.1, HP.out, H1.out.2⟩
          clear H1 HDE HNV
          go_wp2_with fail
          refine wp_loop_rounds 1 ?_
          rw [rounds_succ]
          have e5 := Blk.cell H5.out.1.blk 0
          simp at e5
          have hcap5 := H5.out.1.capb
          have hpos5 : 0 < l.length := List.length_pos_of_mem (getN_mem H5.out.2.2.1).1
          have hpos6 : (0 : Int) < l.length := by omega
          go_wp2_with fail
          clear e5 hcap5 hpos5 hpos6
          have H9 : Hid (Rt W1 h B c l ∧ Uq l ∧ getN l id = some p ∧ Blk W1 bD 30 #[.int .i64 on, .int .i64 wt, .bool false] ∧ Only [h] w W1) := H5.out
          obtain ⟨i9, hi9, hp9, hF9⟩ := rfind_fix (h := h) (c := c) (B := B) H9.out.2.1 H9.out.2.2.1
          have e0 := Blk.cell H9.out.1.blk 0
          have f0 := Blk.frozen H9.out.1.blk 0
          have y1 := Blk.cell H9.out.2.2.2.1 1
          simp at e0 y1
          have HF9 := Lib.hid (fun W k => hF9 W k)
          have HP9 := Lib.hid hp9
          have hcap9 := H9.out.1.capb
          have hfew9 := H9.out.1.few
          clear hF9 hp9
          go_upto_region 13 with fail
          refine wp_region_ord (fun w' => w'.cell? ⟨h, 0, none⟩ = some (.slice B l.length c) ∧ w'.cell? ⟨bD, 1, none⟩ = some (.int .i64 wt)) 16
            [(true, 0), (true, 1), (true, 2), (true, 3), (true, 4), (true, 5), (true, 6), (true, 8), (true, 9), (true, 10), (true, 11), (true, 12), (false, 7), (false, 13), (true, 14), (true, 15)]
            default (by kernel_rfl) (by kernel_rfl) (fun d _ _ _ _ h => by cases d <;> exact h) ?_ ?_
          · exact ⟨e0, y1⟩
          simp only [List.map_cons, List.map_nil, List.getD_cons_succ, List.getD_cons_zero]
          repeat
            (refine heldL_take ?_ ?_ ?_
             rotate_left
             · intro w' hw'
               try dsimp only at hw'
               obtain ⟨q0, q1⟩ := hw'
               go_simp
               try with_reducible rfl
             try simp only [Act.put, List.setIfInBounds_toArray, List.set_cons_zero, List.set_cons_succ])
          refine heldL_move (fun K hK => ?_)
          go_simp
          refine (HF9.out _ (H9.out.1.drewN 1)).mono ?_
          rintro e w9 ⟨rfl, rfl⟩
          refine hK.out _ _ ?_ (fun hS => ?_)
          · exact ⟨e0, y1⟩
          clear hK K
          try simp only [Act.put, List.setIfInBounds_toArray, List.set_cons_zero, List.set_cons_succ]
          repeat
            (refine heldL_take ?_ ?_ ?_
             rotate_left
             · intro w' hw'
               try dsimp only at hw'
               obtain ⟨q0, q1⟩ := hw'
               go_simp
               try with_reducible rfl
             try simp only [Act.put, List.setIfInBounds_toArray, List.set_cons_zero, List.set_cons_succ])
          refine heldL_move (fun K hK => ?_)
          go_simp
          refine (set_any B c i9 id on wt l _ (H9.out.1.drewN 1).row hfew9 hi9).mono ?_
          rintro e w10 ⟨B10, c10, rfl, h10, b10⟩
          have b10' : Below W1.heap.size W1 w10 := ⟨b10.os, b10.tape, b10.output, b10.size, b10.block⟩
          rw [List.length_set] at h10 ⊢
          have HZ := Lib.hid (rt_store H9.out.1 b10' h10 (by rw [List.length_set]) (by rw [List.length_set]; exact hfew9))
          have k10 := H9.out.1.below b10'
          have y10 := H9.out.2.2.2.1.below b10' H9.out.2.2.2.1.lt
          have e1 := Blk.cell k10.blk 0
          have f1 := Blk.frozen k10.blk 0
          have y2 := Blk.cell y10 1
          simp at e1 y2
          refine hK.out _ _ ?_ (fun hS => ?_)
          · exact ⟨e1, y2⟩
          clear hK K h10 b10 b10' k10 y10
          try simp only [Act.put, List.setIfInBounds_toArray, List.set_cons_zero, List.set_cons_succ]
          repeat
            (refine heldL_take ?_ ?_ ?_
             rotate_left
             · intro w' hw'
               try dsimp only at hw'
               obtain ⟨q0, q1⟩ := hw'
               go_simp
               try with_reducible rfl
             try simp only [Act.put, List.setIfInBounds_toArray, List.set_cons_zero, List.set_cons_succ])
          refine heldL_last (fun K hK => ?_)
          go_simp
          refine hK _ _ ?_
          clear hK K
          try simp only [Act.put, List.setIfInBounds_toArray, List.set_cons_zero, List.set_cons_succ]
          have HW := Lib.hid (set_put H9.out.2.1 i9 hi9 HP9.out on wt (by have e := getN_mem H9.out.2.2.1; rw [e.2]; exact H9.out.2.2.1))
          have hid9 := (getN_mem H9.out.2.2.1).2
          go_wp2_with fail
          go_end0
          rw [hid9] at HW
          have z1 := HZ.out.1
          rw [HW.out] at z1
          first
            | exact ⟨rfl, HRES.out _ ⟨B10, c10, z1.drew, H9.out.2.2.2.2.trans_ HZ.out.2.drew⟩⟩
            | exact ⟨rfl, HRES.out _ ⟨B10, c10, z1, H9.out.2.2.2.2.trans_ HZ.out.2⟩⟩
        | true =>
          have HV : Hid (Abv l id on) := hv.1 rfl
          clear hv
          have HQ : ∃ q, getN l on = some q := by
            cases hg : getN l on with
            | none => exact absurd HV.out (abv_none hg)
            | some q => exact ⟨q, rfl⟩
          obtain ⟨q, hq⟩ := HQ
          have hqi := (getN_mem hq).2
          have hne : id ≠ on := fun e => by have := abv_rk HU.out.2 HV.out; rw [e] at this; omega
          obtain ⟨po, hpo⟩ : ∃ po, po = p.on := ⟨_, rfl⟩
          have HRES : Hid (∀ W, TurnR w h (putN (hangN l on po) ⟨id, on, wt⟩) W → (Abv l id (knownL l ⟨on, wt, false⟩).on → TurnR w h (layL (hangN l (knownL l ⟨on, wt, false⟩).on p.on) id (knownL l ⟨on, wt, false⟩)) W) ∧ (¬ Abv l id (knownL l ⟨on, wt, false⟩).on → TurnR w h (layL l id (knownL l ⟨on, wt, false⟩)) W)) := fun W t => ⟨fun _ => by rw [HDE.out, ← hpo]; exact t, fun hn => absurd (by rw [HDE.out]; exact HV.out) hn⟩
          obtain ⟨i1, hi1, hp1, hF1⟩ := rfind_fix (h := h) (c := c) (B := B) HU.out.1 hq
          obtain ⟨i2, hi2, hp2, hF2⟩ := rfind_fix (h := h) (c := c) (B := B) HU.out.1 HP.out
          have HF1 := Lib.hid (hF1 W1 H1.out.1)
          have HF2 := Lib.hid (hF2 W1 H1.out.1)
          obtain ⟨bq, off, hB, hbq, _, _, x2⟩ := H1.out.1.cells i1 hi1
          obtain ⟨bq', off', hB', _, _, x1, _⟩ := H1.out.1.cells i2 hi2
          rw [hp1] at x2
          rw [hp2] at x1
          rw [hB] at hB'
          injection hB' with hB'
          injection hB' with e1 e2
          subst e1 e2 hB
          rw [← hpo] at x1
          have HSH := Lib.hid (set_hang HU.out.1 i1 hi1 hp1 po)
          rw [hqi] at HSH
          have HG : Hid (getN (hangN l on po) id = some p) := by
            show getN (hangN l on po) id = some p
            rw [getN_hang, if_neg hne]
            exact HP.out
          have HUQ := Lib.hid (HU.out.1.hang on po)
          have hi10 : (0 : Int) ≤ i1 := by omega
          have hi11 : (i1 : Int) < l.length := by omega
          have hi20 : (0 : Int) ≤ i2 := by omega
          have hi21 : (i2 : Int) < l.length := by omega
          clear hF1 hF2 hp1 hp2 hq hqi hne hpo
          generalize q.wt = qw at *
          go_wp2_with fail
          refine HF1.out.mono ?_
          rintro e w3 ⟨rfl, rfl⟩
          go_wp2_with fail
          refine HF2.out.mono ?_
          rintro e w3 ⟨rfl, rfl⟩
          have e0 := Blk.cell H1.out.1.blk 0
          have f0 := Blk.frozen H1.out.1.blk 0
          simp at e0
          go_upto_region 7 with fail
          refine wp_region_ord (fun w' => w'.cell? ⟨h, 0, none⟩ = some (.slice (some ⟨bq, off, none⟩) l.length c) ∧ w'.cell? ⟨bq, off + i2 * 3 + 1, none⟩ = some (.int .i64 po) ∧ w'.cell? ⟨bq, off + i1 * 3 + 2, none⟩ = some (.int .i64 qw)) 27
            [(true, 0), (true, 1), (true, 2), (true, 3), (true, 4), (true, 5), (true, 6), (true, 7), (true, 8), (true, 9), (true, 10), (true, 11), (true, 12), (true, 13), (true, 14), (true, 15), (true, 16), (true, 17), (true, 18), (true, 19), (true, 20), (true, 21), (true, 22), (true, 23), (false, 24), (true, 25), (true, 26)]
            default (by kernel_rfl) (by kernel_rfl) (fun d _ _ _ _ h => by cases d <;> exact h) ?_ ?_
          · exact ⟨e0, x1, x2⟩
          simp only [List.map_cons, List.map_nil, List.getD_cons_succ, List.getD_cons_zero]
          repeat
            (refine heldL_take ?_ ?_ ?_
             rotate_left
             · intro w' hw'
               try dsimp only at hw'
               obtain ⟨q0, q1, q2⟩ := hw'
               go_simp
               try with_reducible rfl
             try simp only [Act.put, List.setIfInBounds_toArray, List.set_cons_zero, List.set_cons_succ])
          refine heldL_move (fun K hK => ?_)
          go_simp
          refine (set_any (some ⟨bq, off, none⟩) c i1 on po qw l _ (H1.out.1.drewN 1).row hfew hi1).mono ?_
          rintro e w10 ⟨B10, c10, rfl, h10, b10⟩
          have b10' : Below W1.heap.size W1 w10 := ⟨b10.os, b10.tape, b10.output, b10.size, b10.block⟩
          rw [List.length_set] at h10 ⊢
          have HZ := Lib.hid (rt_store H1.out.1 b10' h10 (by rw [List.length_set]) (by rw [List.length_set]; exact hfew))
          have k10 := H1.out.1.below b10'
          have y10 := H1.out.2.1.below b10' H1.out.2.1.lt
          have e3 := Blk.cell k10.blk 0
          have f3 := Blk.frozen k10.blk 0
          simp at e3
          have x1' : w10.cell? ⟨bq, off + i2 * 3 + 1, none⟩ = some (.int .i64 po) := (b10'.cell (p := ⟨bq, off + i2 * 3 + 1, none⟩) hbq).trans x1
          have x2' : w10.cell? ⟨bq, off + i1 * 3 + 2, none⟩ = some (.int .i64 qw) := (b10'.cell (p := ⟨bq, off + i1 * 3 + 2, none⟩) hbq).trans x2
          refine hK.out _ _ ?_ (fun hS => ?_)
          · exact ⟨e3, x1', x2'⟩
          have hhD : bD ≠ h := blk_ty_ne H1.out.2.1 H1.out.1.blk (by decide)
          have HY10 := Lib.hid (y10.only (show Only [h] w10 (w10.setCell ⟨h, 0, none⟩ (.slice B10 l.length c10)) from (Only.refl _ _).setCell (by simp) _) (by simp; exact hhD))
          clear hK K h10 b10 b10' k10 y10 hhD
          try simp only [Act.put, List.setIfInBounds_toArray, List.set_cons_zero, List.set_cons_succ]
          repeat
            (refine heldL_take ?_ ?_ ?_
             rotate_left
             · intro w' hw'
               try dsimp only at hw'
               obtain ⟨q0, q1, q2⟩ := hw'
               go_simp
               try with_reducible rfl
             try simp only [Act.put, List.setIfInBounds_toArray, List.set_cons_zero, List.set_cons_succ])
          refine heldL_last (fun K hK => ?_)
          go_simp
          refine hK _ _ ?_
          clear hK K
          try simp only [Act.put, List.setIfInBounds_toArray, List.set_cons_zero, List.set_cons_succ]
          have z1 := HZ.out.1
          rw [HSH.out] at z1
          have H5 : Hid (Rt (w10.setCell ⟨h, 0, none⟩ (.slice B10 l.length c10)) h B10 c10 (hangN l on po) ∧ Uq (hangN l on po) ∧ getN (hangN l on po) id = some p ∧ Blk (w10.setCell ⟨h, 0, none⟩ (.slice B10 l.length c10)) bD 30 #[.int .i64 on, .int .i64 wt, .bool false] ∧ Only [h] w (w10.setCell ⟨h, 0, none⟩ (.slice B10 l.length c10))) := ⟨z1, HUQ.out, HG.out, HY10.out, H1.out.2.2.trans_ HZ.out.2⟩
          clear z1 HZ HY10 e3 f3 x1' x2' e0 f0 x1 x2 H1 HDE HV HSH HG HUQ HF1 HF2
          go_upto_region 8 with fail
          generalize w10.setCell ⟨h, 0, none⟩ (.slice B10 l.length c10) = W5 at *
          generalize hangN l on po = l1 at *
          go_wp2_with fail
          refine wp_loop_rounds 1 ?_
          rw [rounds_succ]
          have e5 := Blk.cell H5.out.1.blk 0
          simp at e5
          have hcap5 := H5.out.1.capb
          have hpos5 : 0 < l1.length := List.length_pos_of_mem (getN_mem H5.out.2.2.1).1
          have hpos6 : (0 : Int) < l1.length := by omega
          go_wp2_with fail
          clear e5 hcap5 hpos5 hpos6
          have H9 : Hid (Rt W5 h B10 c10 l1 ∧ Uq l1 ∧ getN l1 id = some p ∧ Blk W5 bD 30 #[.int .i64 on, .int .i64 wt, .bool false] ∧ Only [h] w W5) := H5.out
          obtain ⟨i9, hi9, hp9, hF9⟩ := rfind_fix (h := h) (c := c10) (B := B10) H9.out.2.1 H9.out.2.2.1
          have e0 := Blk.cell H9.out.1.blk 0
          have f0 := Blk.frozen H9.out.1.blk 0
          have y1 := Blk.cell H9.out.2.2.2.1 1
          simp at e0 y1
          have HF9 := Lib.hid (fun W k => hF9 W k)
          have HP9 := Lib.hid hp9
          have hcap9 := H9.out.1.capb
          have hfew9 := H9.out.1.few
          clear hF9 hp9
          go_upto_region 13 with fail
          refine wp_region_ord (fun w' => w'.cell? ⟨h, 0, none⟩ = some (.slice B10 l1.length c10) ∧ w'.cell? ⟨bD, 1, none⟩ = some (.int .i64 wt)) 16
            [(true, 0), (true, 1), (true, 2), (true, 3), (true, 4), (true, 5), (true, 6), (true, 8), (true, 9), (true, 10), (true, 11), (true, 12), (false, 7), (false, 13), (true, 14), (true, 15)]
            default (by kernel_rfl) (by kernel_rfl) (fun d _ _ _ _ h => by cases d <;> exact h) ?_ ?_
          · exact ⟨e0, y1⟩
          simp only [List.map_cons, List.map_nil, List.getD_cons_succ, List.getD_cons_zero]
          repeat
            (refine heldL_take ?_ ?_ ?_
             rotate_left
             · intro w' hw'
               try dsimp only at hw'
               obtain ⟨q0, q1⟩ := hw'
               go_simp
               try with_reducible rfl
             try simp only [Act.put, List.setIfInBounds_toArray, List.set_cons_zero, List.set_cons_succ])
          refine heldL_move (fun K hK => ?_)
          go_simp
          refine (HF9.out _ (H9.out.1.drewN 1)).mono ?_
          rintro e w9 ⟨rfl, rfl⟩
          refine hK.out _ _ ?_ (fun hS => ?_)
          · exact ⟨e0, y1⟩
          clear hK K
          try simp only [Act.put, List.setIfInBounds_toArray, List.set_cons_zero, List.set_cons_succ]
          repeat
            (refine heldL_take ?_ ?_ ?_
             rotate_left
             · intro w' hw'
               try dsimp only at hw'
               obtain ⟨q0, q1⟩ := hw'
               go_simp
               try with_reducible rfl
             try simp only [Act.put, List.setIfInBounds_toArray, List.set_cons_zero, List.set_cons_succ])
          refine heldL_move (fun K hK => ?_)
          go_simp
          refine (set_any B10 c10 i9 id on wt l1 _ (H9.out.1.drewN 1).row hfew9 hi9).mono ?_
          rintro e w10 ⟨B10, c10, rfl, h10, b10⟩
          have b10' : Below W5.heap.size W5 w10 := ⟨b10.os, b10.tape, b10.output, b10.size, b10.block⟩
          rw [List.length_set] at h10 ⊢
          have HZ := Lib.hid (rt_store H9.out.1 b10' h10 (by rw [List.length_set]) (by rw [List.length_set]; exact hfew9))
          have k10 := H9.out.1.below b10'
          have y10 := H9.out.2.2.2.1.below b10' H9.out.2.2.2.1.lt
          have e1 := Blk.cell k10.blk 0
          have f1 := Blk.frozen k10.blk 0
          have y2 := Blk.cell y10 1
          simp at e1 y2
          refine hK.out _ _ ?_ (fun hS => ?_)
          · exact ⟨e1, y2⟩
          clear hK K h10 b10 b10' k10 y10
          try simp only [Act.put, List.setIfInBounds_toArray, List.set_cons_zero, List.set_cons_succ]
          repeat
            (refine heldL_take ?_ ?_ ?_
             rotate_left
             · intro w' hw'
               try dsimp only at hw'
               obtain ⟨q0, q1⟩ := hw'
               go_simp
               try with_reducible rfl
             try simp only [Act.put, List.setIfInBounds_toArray, List.set_cons_zero, List.set_cons_succ])
          refine heldL_last (fun K hK => ?_)
          go_simp
          refine hK _ _ ?_
          clear hK K
          try simp only [Act.put, List.setIfInBounds_toArray, List.set_cons_zero, List.set_cons_succ]
          have HW := Lib.hid (set_put H9.out.2.1 i9 hi9 HP9.out on wt (by have e := getN_mem H9.out.2.2.1; rw [e.2]; exact H9.out.2.2.1))
          have hid9 := (getN_mem H9.out.2.2.1).2
          go_wp2_with fail
          go_end0
          rw [hid9] at HW
          have z1 := HZ.out.1
          rw [HW.out] at z1
          first
            | exact ⟨rfl, HRES.out _ ⟨B10, c10, z1.drew, H9.out.2.2.2.2.trans_ HZ.out.2.drew⟩⟩
            | exact ⟨rfl, HRES.out _ ⟨B10, c10, z1, H9.out.2.2.2.2.trans_ HZ.out.2⟩⟩
      | true =>
        have HDE : Hid (knownL l ⟨on, wt, true⟩ = ⟨on, wt, true⟩) := by
          show knownL l ⟨on, wt, true⟩ = _
          unfold knownL
          rw [if_neg (fun h => by have h2 := h.2; simp only at h2; rw [hg] at h2; cases h2)]
        obtain ⟨i0, hi0, _, hF0⟩ := rfind_fix (h := h) (c := c) (B := B) HU.out.1 hg
        have HC := Lib.hid (hF0 W1 H1.out.1)
        clear hg h0 hF0
        go_wp2_with fail
        refine HC.out.mono ?_
        rintro e w2 ⟨rfl, rfl⟩
        go_upto_region 5 with fail
        go_wp2_with fail
        refine (rbelow_any h c B l W1 H1.out.1 r HU.out.1 HU.out.2 on id).mono ?_
        rintro e w2 ⟨⟨v, rfl, hv⟩, rfl⟩
        cases v with
        | false =>
          have HNV : Hid (¬ Abv l id on) := fun h => absurd (hv.2 h) (by simp)
          clear hv
          have HRES : Hid (∀ W, TurnR w h (putN (takeN l id on) ⟨id, on, wt⟩) W → (Abv l id (knownL l ⟨on, wt, true⟩).on → TurnR w h (layL (hangN l (knownL l ⟨on, wt, true⟩).on p.on) id (knownL l ⟨on, wt, true⟩)) W) ∧ (¬ Abv l id (knownL l ⟨on, wt, true⟩).on → TurnR w h (layL l id (knownL l ⟨on, wt, true⟩)) W)) := fun W t => ⟨fun ha => absurd (by rw [HDE.out] at ha; exact ha) HNV.out, fun _ => by rw [HDE.out]; exact t⟩
          have H5 : Hid (Rt W1 h B c l ∧ Uq l ∧ getN l id = some p ∧ Blk W1 bD 30 #[.int .i64 on, .int .i64 wt, .bool true] ∧ Only [h] w W1) := ⟨H1.out.1, HU.out.1, HP.out, H1.out.2⟩
          clear H1 HDE HNV
          have HUF := Lib.hid (fun j => mix_uq (l := l) H5.out.2.1 (takeN_id id on) j)
          have hl1 : l.length ≤ 257 := H5.out.1.few
          go_wp2_with fail
          go_loopw [10] (fun iv wr => ∃ (j : Nat) (B c : _), iv = .int .i64 j ∧ j ≤ l.length ∧ Rt wr h B c (mixJ (fun p => if p.on = on ∧ p.id ≠ id then ⟨p.id, id, p.wt⟩ else p) l j) ∧ Blk wr bD 30 #[.int .i64 on, .int .i64 wt, .bool true] ∧ Only [h] w wr) (fun iv _ => l.length - (intOf iv).toNat)
          case atStart => exact ⟨0, B, c, by first | rfl | trivial | simp, by omega, by rw [mix_zero]; exact H5.out.1, H5.out.2.2.2.1, H5.out.2.2.2.2⟩
          case round =>
            obtain ⟨j, B6, c6, rfl, hj, kr, ky, ko⟩ := hrel
            have H6 := Lib.hid (And.intro kr (And.intro ky ko))
            have hln := mix_length (fun p : Nd => if p.on = on ∧ p.id ≠ id then (⟨p.id, id, p.wt⟩ : Nd) else p) l j
            have e0 := Blk.cell kr.blk 0
            simp at e0
            have hcap6 := kr.capb
            have hfew6 := kr.few
            rw [hln] at e0 hcap6 hfew6
            have HLN := Lib.hid hln
            clear kr ky ko hln
            have hj0 : (0 : Int) ≤ j := by omega
            by_cases hlt : j < l.length
            · have hj1 : (j : Int) < l.length := by omega
              have hlt6 : j < (mixJ (fun p : Nd => if p.on = on ∧ p.id ≠ id then (⟨p.id, id, p.wt⟩ : Nd) else p) l j).length := by rw [HLN.out]; exact hlt
              obtain ⟨bq, off, hB, hbq, x0, x1, x2⟩ := H6.out.1.cells j hlt6
              rw [mix_at _ l j hlt] at x0 x1 x2
              have HS := Lib.hid (mix_set (fun p : Nd => if p.on = on ∧ p.id ≠ id then (⟨p.id, id, p.wt⟩ : Nd) else p) l j hlt)
              have HN := Lib.hid (mix_same (fun p : Nd => if p.on = on ∧ p.id ≠ id then (⟨p.id, id, p.wt⟩ : Nd) else p) l j hlt)
              subst hB
              generalize l[j] = q at *
              obtain ⟨qi, qo, qw⟩ := q
              simp only at x0 x1 x2
              by_cases hy : qo = on ∧ qi ≠ id
              · have HS2 : Hid ((mixJ (fun p : Nd => if p.on = on ∧ p.id ≠ id then (⟨p.id, id, p.wt⟩ : Nd) else p) l j).set j ⟨qi, id, qw⟩ = mixJ (fun p : Nd => if p.on = on ∧ p.id ≠ id then (⟨p.id, id, p.wt⟩ : Nd) else p) l (j + 1)) := by
                  show _ = _
                  rw [← HS.out]
                  congr 1
                  exact (if_pos hy).symm
                obtain ⟨hy1, hy2⟩ := hy
                have hb1 : (qo == on) = true := by simp [hy1]
                have hb2 : (qi != id) = true := by simp [hy2]
                clear hy1 hy2 HS HN
                have f0 := Blk.frozen H6.out.1.blk 0
                go_upto_region 12 with fail
                refine wp_region_ord (fun w' => w'.cell? ⟨h, 0, none⟩ = some (.slice (some ⟨bq, off, none⟩) l.length c6) ∧ w'.cell? ⟨bq, off + j * 3, none⟩ = some (.int .i64 qi) ∧ w'.cell? ⟨bq, off + j * 3 + 2, none⟩ = some (.int .i64 qw)) 27
                  [(true, 0), (true, 1), (true, 2), (true, 3), (true, 4), (true, 5), (true, 6), (true, 7), (true, 8), (true, 9), (true, 10), (true, 11), (true, 12), (true, 13), (true, 14), (true, 15), (true, 16), (true, 17), (true, 18), (true, 19), (true, 20), (true, 21), (true, 22), (true, 23), (false, 24), (true, 25), (true, 26)]
                  default (by kernel_rfl) (by kernel_rfl) (fun d _ _ _ _ h => by cases d <;> exact h) ?_ ?_
                · exact ⟨e0, x0, x2⟩
                simp only [List.map_cons, List.map_nil, List.getD_cons_succ, List.getD_cons_zero]
                repeat
                  (refine heldL_take ?_ ?_ ?_
                   rotate_left
                   · intro w' hw'
                     try dsimp only at hw'
                     obtain ⟨q0, q1, q2⟩ := hw'
                     go_simp
                     try with_reducible rfl
                   try simp only [Act.put, List.setIfInBounds_toArray, List.set_cons_zero, List.set_cons_succ])
                refine heldL_move (fun K hK => ?_)
                go_simp
                have HSET := set_any (some ⟨bq, off, none⟩) c6 j qi id qw _ _ (H6.out.1.drewN 1).row H6.out.1.few hlt6
                rw [HLN.out] at HSET
                refine HSET.mono ?_
                rintro e w10 ⟨B10, c10, rfl, h10, b10⟩
                have b10' : Below wr.heap.size wr w10 := ⟨b10.os, b10.tape, b10.output, b10.size, b10.block⟩
                rw [List.length_set, HLN.out] at h10 ⊢
                have HZ := Lib.hid (rt_store H6.out.1 b10' h10 (by rw [List.length_set, HLN.out]) (by rw [List.length_set]; exact H6.out.1.few))
                have k10 := H6.out.1.below b10'
                have y10 := H6.out.2.1.below b10' H6.out.2.1.lt
                have e1 := Blk.cell k10.blk 0
                have f1 := Blk.frozen k10.blk 0
                simp at e1
                rw [HLN.out] at e1
                have x0' : w10.cell? ⟨bq, off + j * 3, none⟩ = some (.int .i64 qi) := (b10'.cell (p := ⟨bq, off + j * 3, none⟩) hbq).trans x0
                have x2' : w10.cell? ⟨bq, off + j * 3 + 2, none⟩ = some (.int .i64 qw) := (b10'.cell (p := ⟨bq, off + j * 3 + 2, none⟩) hbq).trans x2
                refine hK.out _ _ ?_ (fun hS => ?_)
                · exact ⟨e1, x0', x2'⟩
                have hhD : bD ≠ h := blk_ty_ne H6.out.2.1 H6.out.1.blk (by decide)
                have HY10 := Lib.hid (y10.only (show Only [h] w10 (w10.setCell ⟨h, 0, none⟩ (.slice B10 l.length c10)) from (Only.refl _ _).setCell (by simp) _) (by simp; exact hhD))
                clear hK K h10 b10 b10' k10 y10
                try simp only [Act.put, List.setIfInBounds_toArray, List.set_cons_zero, List.set_cons_succ]
                repeat
                  (refine heldL_take ?_ ?_ ?_
                   rotate_left
                   · intro w' hw'
                     try dsimp only at hw'
                     obtain ⟨q0, q1, q2⟩ := hw'
                     go_simp
                     try with_reducible rfl
                   try simp only [Act.put, List.setIfInBounds_toArray, List.set_cons_zero, List.set_cons_succ])
                refine heldL_last (fun K hK => ?_)
                go_simp
                refine hK _ _ ?_
                clear hK K
                try simp only [Act.put, List.setIfInBounds_toArray, List.set_cons_zero, List.set_cons_succ]
                have z1 := HZ.out.1
                rw [HS2.out] at z1
                have H7 := Lib.hid (And.intro z1 (And.intro HY10.out (H6.out.2.2.trans_ HZ.out.2)))
                clear z1 HZ HY10 e1 f1 x0' x2' HSET
                go_wp2_with fail
                go_roundw
                case rel => exact ⟨j + 1, B10, c10, by go_num, by omega, H7.out⟩
                case measure => simp [intOf]; omega
              · have HN2 := Lib.hid (HN.out (by simp only; rw [if_neg hy]))
                by_cases hy1 : qo = on
                · have hy2 : qi = id := by
                    by_cases h : qi = id
                    · exact h
                    · exact absurd ⟨hy1, h⟩ hy
                  have hb1 : (qo == on) = true := by simp [hy1]
                  have hb2 : (qi != id) = false := by simp [hy2]
                  clear hy1 hy2 hy HS HN
                  go_wp2_with fail
                  go_roundw
                  case rel => exact ⟨j + 1, _, c6, by go_num, by omega, by rw [HN2.out]; exact H6.out.1, H6.out.2⟩
                  case measure => simp [intOf]; omega
                · have hb1 : (qo == on) = false := by simp [hy1]
                  clear hy1 hy HS HN
                  go_wp2_with fail
                  go_roundw
                  case rel => exact ⟨j + 1, _, c6, by go_num, by omega, by rw [HN2.out]; exact H6.out.1, H6.out.2⟩
                  case measure => simp [intOf]; omega
            · obtain rfl : l.length = j := by omega
              have HU9 := HUF.out l.length
              have kr := H6.out.1
              rw [mix_all] at kr HU9
              have hg9 : ∃ p9, getN (takeN l id on) id = some p9 := by rw [getN_take, H5.out.2.2.1]; exact ⟨_, rfl⟩
              obtain ⟨p9, hg9⟩ := hg9
              have H9 : Hid (Rt wr h B6 c6 (takeN l id on) ∧ Uq (takeN l id on) ∧ getN (takeN l id on) id = some p9 ∧ Blk wr bD 30 #[.int .i64 on, .int .i64 wt, .bool true] ∧ Only [h] w wr) := ⟨kr, HU9, hg9, H6.out.2⟩
              clear kr HU9 hg9 H6
              go_wp2_with fail
              generalize takeN l id on = l9 at *
              obtain ⟨i9, hi9, hp9, hF9⟩ := rfind_fix (h := h) (c := c6) (B := B6) H9.out.2.1 H9.out.2.2.1
              have e0 := Blk.cell H9.out.1.blk 0
              have f0 := Blk.frozen H9.out.1.blk 0
              have y1 := Blk.cell H9.out.2.2.2.1 1
              simp at e0 y1
              have HF9 := Lib.hid (fun W k => hF9 W k)
              have HP9 := Lib.hid hp9
              have hcap9 := H9.out.1.capb
              have hfew9 := H9.out.1.few
              clear hF9 hp9
              go_upto_region 13 with fail
              refine wp_region_ord (fun w' => w'.cell? ⟨h, 0, none⟩ = some (.slice B6 l9.length c6) ∧ w'.cell? ⟨bD, 1, none⟩ = some (.int .i64 wt)) 16
                [(true, 0), (true, 1), (true, 2), (true, 3), (true, 4), (true, 5), (true, 6), (true, 8), (true, 9), (true, 10), (true, 11), (true, 12), (false, 7), (false, 13), (true, 14), (true, 15)]
                default (by kernel_rfl) (by kernel_rfl) (fun d _ _ _ _ h => by cases d <;> exact h) ?_ ?_
              · exact ⟨e0, y1⟩
              simp only [List.map_cons, List.map_nil, List.getD_cons_succ, List.getD_cons_zero]
              repeat
                (refine heldL_take ?_ ?_ ?_
                 rotate_left
                 · intro w' hw'
                   try dsimp only at hw'
                   obtain ⟨q0, q1⟩ := hw'
                   go_simp
                   try with_reducible rfl
                 try simp only [Act.put, List.setIfInBounds_toArray, List.set_cons_zero, List.set_cons_succ])
              refine heldL_move (fun K hK => ?_)
              go_simp
              refine (HF9.out _ (H9.out.1.drewN 1)).mono ?_
              rintro e w9 ⟨rfl, rfl⟩
              refine hK.out _ _ ?_ (fun hS => ?_)
              · exact ⟨e0, y1⟩
              clear hK K
              try simp only [Act.put, List.setIfInBounds_toArray, List.set_cons_zero, List.set_cons_succ]
              repeat
                (refine heldL_take ?_ ?_ ?_
                 rotate_left
                 · intro w' hw'
                   try dsimp only at hw'
                   obtain ⟨q0, q1⟩ := hw'
                   go_simp
                   try with_reducible rfl
                 try simp only [Act.put, List.setIfInBounds_toArray, List.set_cons_zero, List.set_cons_succ])
              refine heldL_move (fun K hK => ?_)
              go_simp
              refine (set_any B6 c6 i9 id on wt l9 _ (H9.out.1.drewN 1).row hfew9 hi9).mono ?_
              rintro e w10 ⟨B10, c10, rfl, h10, b10⟩
              have b10' : Below wr.heap.size wr w10 := ⟨b10.os, b10.tape, b10.output, b10.size, b10.block⟩
              rw [List.length_set] at h10 ⊢
              have HZ := Lib.hid (rt_store H9.out.1 b10' h10 (by rw [List.length_set]) (by rw [List.length_set]; exact hfew9))
              have k10 := H9.out.1.below b10'
              have y10 := H9.out.2.2.2.1.below b10' H9.out.2.2.2.1.lt
              have e1 := Blk.cell k10.blk 0
              have f1 := Blk.frozen k10.blk 0
              have y2 := Blk.cell y10 1
              simp at e1 y2
              refine hK.out _ _ ?_ (fun hS => ?_)
              · exact ⟨e1, y2⟩
              clear hK K h10 b10 b10' k10 y10
              try simp only [Act.put, List.setIfInBounds_toArray, List.set_cons_zero, List.set_cons_succ]
              repeat
                (refine heldL_take ?_ ?_ ?_
                 rotate_left
                 · intro w' hw'
                   try dsimp only at hw'
                   obtain ⟨q0, q1⟩ := hw'
                   go_simp
                   try with_reducible rfl
                 try simp only [Act.put, List.setIfInBounds_toArray, List.set_cons_zero, List.set_cons_succ])
              refine heldL_last (fun K hK => ?_)
              go_simp
              refine hK _ _ ?_
              clear hK K
              try simp only [Act.put, List.setIfInBounds_toArray, List.set_cons_zero, List.set_cons_succ]
              have HW := Lib.hid (set_put H9.out.2.1 i9 hi9 HP9.out on wt (by have e := getN_mem H9.out.2.2.1; rw [e.2]; exact H9.out.2.2.1))
              have hid9 := (getN_mem H9.out.2.2.1).2
              go_wp2_with fail
              go_end0
              rw [hid9] at HW
              have z1 := HZ.out.1
              rw [HW.out] at z1
              first
                | exact ⟨rfl, HRES.out _ ⟨B10, c10, z1.drew, H9.out.2.2.2.2.trans_ HZ.out.2.drew⟩⟩
                | exact ⟨rfl, HRES.out _ ⟨B10, c10, z1, H9.out.2.2.2.2.trans_ HZ.out.2⟩⟩
        | true =>
          have HV : Hid (Abv l id on) := hv.1 rfl
          clear hv
          have HQ : ∃ q, getN l on = some q := by
            cases hg : getN l on with
            | none => exact absurd HV.out (abv_none hg)
            | some q => exact ⟨q, rfl⟩
          obtain ⟨q, hq⟩ := HQ
          have hqi := (getN_mem hq).2
          have hne : id ≠ on := fun e => by have := abv_rk HU.out.2 HV.out; rw [e] at this; omega
          obtain ⟨po, hpo⟩ : ∃ po, po = p.on := ⟨_, rfl⟩
          have HRES : Hid (∀ W, TurnR w h (putN (takeN (hangN l on po) id on) ⟨id, on, wt⟩) W → (Abv l id (knownL l ⟨on, wt, true⟩).on → TurnR w h (layL (hangN l (knownL l ⟨on, wt, true⟩).on p.on) id (knownL l ⟨on, wt, true⟩)) W) ∧ (¬ Abv l id (knownL l ⟨on, wt, true⟩).on → TurnR w h (layL l id (knownL l ⟨on, wt, true⟩)) W)) := fun W t => ⟨fun _ => by rw [HDE.out, ← hpo]; exact t, fun hn => absurd (by rw [HDE.out]; exact HV.out) hn⟩
          obtain ⟨i1, hi1, hp1, hF1⟩ := rfind_fix (h := h) (c := c) (B := B) HU.out.1 hq
          obtain ⟨i2, hi2, hp2, hF2⟩ := rfind_fix (h := h) (c := c) (B := B) HU.out.1 HP.out
          have HF1 := Lib.hid (hF1 W1 H1.out.1)
          have HF2 := Lib.hid (hF2 W1 H1.out.1)
          obtain ⟨bq, off, hB, hbq, _, _, x2⟩ := H1.out.1.cells i1 hi1
          obtain ⟨bq', off', hB', _, _, x1, _⟩ := H1.out.1.cells i2 hi2
          rw [hp1] at x2
          rw [hp2] at x1
          rw [hB] at hB'
          injection hB' with hB'
          injection hB' with e1 e2
          subst e1 e2 hB
          rw [← hpo] at x1
          have HSH := Lib.hid (set_hang HU.out.1 i1 hi1 hp1 po)
          rw [hqi] at HSH
          have HG : Hid (getN (hangN l on po) id = some p) := by
            show getN (hangN l on po) id = some p
            rw [getN_hang, if_neg hne]
            exact HP.out
          have HUQ := Lib.hid (HU.out.1.hang on po)
          have hi10 : (0 : Int) ≤ i1 := by omega
          have hi11 : (i1 : Int) < l.length := by omega
          have hi20 : (0 : Int) ≤ i2 := by omega
          have hi21 : (i2 : Int) < l.length := by omega
          clear hF1 hF2 hp1 hp2 hq hqi hne hpo
          generalize q.wt = qw at *
          go_wp2_with fail
          refine HF1.out.mono ?_
          rintro e w3 ⟨rfl, rfl⟩
          go_wp2_with fail
          refine HF2.out.mono ?_
          rintro e w3 ⟨rfl, rfl⟩
          have e0 := Blk.cell H1.out.1.blk 0
          have f0 := Blk.frozen H1.out.1.blk 0
          simp at e0
          go_upto_region 7 with fail
          refine wp_region_ord (fun w' => w'.cell? ⟨h, 0, none⟩ = some (.slice (some ⟨bq, off, none⟩) l.length c) ∧ w'.cell? ⟨bq, off + i2 * 3 + 1, none⟩ = some (.int .i64 po) ∧ w'.cell? ⟨bq, off + i1 * 3 + 2, none⟩ = some (.int .i64 qw)) 27
            [(true, 0), (true, 1), (true, 2), (true, 3), (true, 4), (true, 5), (true, 6), (true, 7), (true, 8), (true, 9), (true, 10), (true, 11), (true, 12), (true, 13), (true, 14), (true, 15), (true, 16), (true, 17), (true, 18), (true, 19), (true, 20), (true, 21), (true, 22), (true, 23), (false, 24), (true, 25), (true, 26)]
            default (by kernel_rfl) (by kernel_rfl) (fun d _ _ _ _ h => by cases d <;> exact h) ?_ ?_
          · exact ⟨e0, x1, x2⟩
          simp only [List.map_cons, List.map_nil, List.getD_cons_succ, List.getD_cons_zero]
          repeat
            (refine heldL_take ?_ ?_ ?_
             rotate_left
             · intro w' hw'
               try dsimp only at hw'
               obtain ⟨q0, q1, q2⟩ := hw'
               go_simp
               try with_reducible rfl
             try simp only [Act.put, List.setIfInBounds_toArray, List.set_cons_zero, List.set_cons_succ])
          refine heldL_move (fun K hK => ?_)
          go_simp
          refine (set_any (some ⟨bq, off, none⟩) c i1 on po qw l _ (H1.out.1.drewN 1).row hfew hi1).mono ?_
          rintro e w10 ⟨B10, c10, rfl, h10, b10⟩
          have b10' : Below W1.heap.size W1 w10 := ⟨b10.os, b10.tape, b10.output, b10.size, b10.block⟩
          rw [List.length_set] at h10 ⊢
          have HZ := Lib.hid (rt_store H1.out.1 b10' h10 (by rw [List.length_set]) (by rw [List.length_set]; exact hfew))
          have k10 := H1.out.1.below b10'
          have y10 := H1.out.2.1.below b10' H1.out.2.1.lt
          have e3 := Blk.cell k10.blk 0
          have f3 := Blk.frozen k10.blk 0
          simp at e3
          have x1' : w10.cell? ⟨bq, off + i2 * 3 + 1, none⟩ = some (.int .i64 po) := (b10'.cell (p := ⟨bq, off + i2 * 3 + 1, none⟩) hbq).trans x1
          have x2' : w10.cell? ⟨bq, off + i1 * 3 + 2, none⟩ = some (.int .i64 qw) := (b10'.cell (p := ⟨bq, off + i1 * 3 + 2, none⟩) hbq).trans x2
          refine hK.out _ _ ?_ (fun hS => ?_)
          · exact ⟨e3, x1', x2'⟩
          have hhD : bD ≠ h := blk_ty_ne H1.out.2.1 H1.out.1.blk (by decide)
          have HY10 := Lib.hid (y10.only (show Only [h] w10 (w10.setCell ⟨h, 0, none⟩ (.slice B10 l.length c10)) from (Only.refl _ _).setCell (by simp) _) (by simp; exact hhD))
          clear hK K h10 b10 b10' k10 y10 hhD
          try simp only [Act.put, List.setIfInBounds_toArray, List.set_cons_zero, List.set_cons_succ]
          repeat
            (refine heldL_take ?_ ?_ ?_
             rotate_left
             · intro w' hw'
               try dsimp only at hw'
               obtain ⟨q0, q1, q2⟩ := hw'
               go_simp
               try with_reducible rfl
             try simp only [Act.put, List.setIfInBounds_toArray, List.set_cons_zero, List.set_cons_succ])
          refine heldL_last (fun K hK => ?_)
          go_simp
          refine hK _ _ ?_
          clear hK K
          try simp only [Act.put, List.setIfInBounds_toArray, List.set_cons_zero, List.set_cons_succ]
          have z1 := HZ.out.1
          rw [HSH.out] at z1
          have H5 : Hid (Rt (w10.setCell ⟨h, 0, none⟩ (.slice B10 l.length c10)) h B10 c10 (hangN l on po) ∧ Uq (hangN l on po) ∧ getN (hangN l on po) id = some p ∧ Blk (w10.setCell ⟨h, 0, none⟩ (.slice B10 l.length c10)) bD 30 #[.int .i64 on, .int .i64 wt, .bool true] ∧ Only [h] w (w10.setCell ⟨h, 0, none⟩ (.slice B10 l.length c10))) := ⟨z1, HUQ.out, HG.out, HY10.out, H1.out.2.2.trans_ HZ.out.2⟩
          clear z1 HZ HY10 e3 f3 x1' x2' e0 f0 x1 x2 H1 HDE HV HSH HG HUQ HF1 HF2
          go_upto_region 8 with fail
          generalize w10.setCell ⟨h, 0, none⟩ (.slice B10 l.length c10) = W5 at *
          generalize hangN l on po = l1 at *
          have HUF := Lib.hid (fun j => mix_uq (l := l1) H5.out.2.1 (takeN_id id on) j)
          have hl1 : l1.length ≤ 257 := H5.out.1.few
          go_wp2_with fail
          go_loopw [10] (fun iv wr => ∃ (j : Nat) (B c : _), iv = .int .i64 j ∧ j ≤ l1.length ∧ Rt wr h B c (mixJ (fun p => if p.on = on ∧ p.id ≠ id then ⟨p.id, id, p.wt⟩ else p) l1 j) ∧ Blk wr bD 30 #[.int .i64 on, .int .i64 wt, .bool true] ∧ Only [h] w wr) (fun iv _ => l1.length - (intOf iv).toNat)
          case atStart => exact ⟨0, B10, c10, by first | rfl | trivial | simp, by omega, by rw [mix_zero]; exact H5.out.1, H5.out.2.2.2.1, H5.out.2.2.2.2⟩
          case round =>
            obtain ⟨j, B6, c6, rfl, hj, kr, ky, ko⟩ := hrel
            have H6 := Lib.hid (And.intro kr (And.intro ky ko))
            have hln := mix_length (fun p : Nd => if p.on = on ∧ p.id ≠ id then (⟨p.id, id, p.wt⟩ : Nd) else p) l1 j
            have e0 := Blk.cell kr.blk 0
            simp at e0
            have hcap6 := kr.capb
            have hfew6 := kr.few
            rw [hln] at e0 hcap6 hfew6
            have HLN := Lib.hid hln
            clear kr ky ko hln
            have hj0 : (0 : Int) ≤ j := by omega
            by_cases hlt : j < l1.length
            · have hj1 : (j : Int) < l1.length := by omega
              have hlt6 : j < (mixJ (fun p : Nd => if p.on = on ∧ p.id ≠ id then (⟨p.id, id, p.wt⟩ : Nd) else p) l1 j).length := by rw [HLN.out]; exact hlt
              obtain ⟨bq, off, hB, hbq, x0, x1, x2⟩ := H6.out.1.cells j hlt6
              rw [mix_at _ l1 j hlt] at x0 x1 x2
              have HS := Lib.hid (mix_set (fun p : Nd => if p.on = on ∧ p.id ≠ id then (⟨p.id, id, p.wt⟩ : Nd) else p) l1 j hlt)
              have HN := Lib.hid (mix_same (fun p : Nd => if p.on = on ∧ p.id ≠ id then (⟨p.id, id, p.wt⟩ : Nd) else p) l1 j hlt)
              subst hB
              generalize l1[j] = q at *
              obtain ⟨qi, qo, qw⟩ := q
              simp only at x0 x1 x2
              by_cases hy : qo = on ∧ qi ≠ id
              · have HS2 : Hid ((mixJ (fun p : Nd => if p.on = on ∧ p.id ≠ id then (⟨p.id, id, p.wt⟩ : Nd) else p) l1 j).set j ⟨qi, id, qw⟩ = mixJ (fun p : Nd => if p.on = on ∧ p.id ≠ id then (⟨p.id, id, p.wt⟩ : Nd) else p) l1 (j + 1)) := by
                  show _ = _
                  rw [← HS.out]
                  congr 1
                  exact (if_pos hy).symm
                obtain ⟨hy1, hy2⟩ := hy
                have hb1 : (qo == on) = true := by simp [hy1]
                have hb2 : (qi != id) = true := by simp [hy2]
                clear hy1 hy2 HS HN
                have f0 := Blk.frozen H6.out.1.blk 0
                go_upto_region 12 with fail
                refine wp_region_ord (fun w' => w'.cell? ⟨h, 0, none⟩ = some (.slice (some ⟨bq, off, none⟩) l1.length c6) ∧ w'.cell? ⟨bq, off + j * 3, none⟩ = some (.int .i64 qi) ∧ w'.cell? ⟨bq, off + j * 3 + 2, none⟩ = some (.int .i64 qw)) 27
                  [(true, 0), (true, 1), (true, 2), (true, 3), (true, 4), (true, 5), (true, 6), (true, 7), (true, 8), (true, 9), (true, 10), (true, 11), (true, 12), (true, 13), (true, 14), (true, 15), (true, 16), (true, 17), (true, 18), (true, 19), (true, 20), (true, 21), (true, 22), (true, 23), (false, 24), (true, 25), (true, 26)]
                  default (by kernel_rfl) (by kernel_rfl) (fun d _ _ _ _ h => by cases d <;> exact h) ?_ ?_
                · exact ⟨e0, x0, x2⟩
                simp only [List.map_cons, List.map_nil, List.getD_cons_succ, List.getD_cons_zero]
                repeat
                  (refine heldL_take ?_ ?_ ?_
                   rotate_left
                   · intro w' hw'
                     try dsimp only at hw'
                     obtain ⟨q0, q1, q2⟩ := hw'
                     go_simp
                     try with_reducible rfl
                   try simp only [Act.put, List.setIfInBounds_toArray, List.set_cons_zero, List.set_cons_succ])
                refine heldL_move (fun K hK => ?_)
                go_simp
                have HSET := set_any (some ⟨bq, off, none⟩) c6 j qi id qw _ _ (H6.out.1.drewN 1).row H6.out.1.few hlt6
                rw [HLN.out] at HSET
                refine HSET.mono ?_
                rintro e w10 ⟨B10, c10, rfl, h10, b10⟩
                have b10' : Below wr.heap.size wr w10 := ⟨b10.os, b10.tape, b10.output, b10.size, b10.block⟩
                rw [List.length_set, HLN.out] at h10 ⊢
                have HZ := Lib.hid (rt_store H6.out.1 b10' h10 (by rw [List.length_set, HLN.out]) (by rw [List.length_set]; exact H6.out.1.few))
                have k10 := H6.out.1.below b10'
                have y10 := H6.out.2.1.below b10' H6.out.2.1.lt
                have e1 := Blk.cell k10.blk 0
                have f1 := Blk.frozen k10.blk 0
                simp at e1
                rw [HLN.out] at e1
                have x0' : w10.cell? ⟨bq, off + j * 3, none⟩ = some (.int .i64 qi) := (b10'.cell (p := ⟨bq, off + j * 3, none⟩) hbq).trans x0
                have x2' : w10.cell? ⟨bq, off + j * 3 + 2, none⟩ = some (.int .i64 qw) := (b10'.cell (p := ⟨bq, off + j * 3 + 2, none⟩) hbq).trans x2
                refine hK.out _ _ ?_ (fun hS => ?_)
                · exact ⟨e1, x0', x2'⟩
                have hhD : bD ≠ h := blk_ty_ne H6.out.2.1 H6.out.1.blk (by decide)
                have HY10 := Lib.hid (y10.only (show Only [h] w10 (w10.setCell ⟨h, 0, none⟩ (.slice B10 l1.length c10)) from (Only.refl _ _).setCell (by simp) _) (by simp; exact hhD))
                clear hK K h10 b10 b10' k10 y10
                try simp only [Act.put, List.setIfInBounds_toArray, List.set_cons_zero, List.set_cons_succ]
                repeat
                  (refine heldL_take ?_ ?_ ?_
                   rotate_left
                   · intro w' hw'
                     try dsimp only at hw'
                     obtain ⟨q0, q1, q2⟩ := hw'
                     go_simp
                     try with_reducible rfl
                   try simp only [Act.put, List.setIfInBounds_toArray, List.set_cons_zero, List.set_cons_succ])
                refine heldL_last (fun K hK => ?_)
                go_simp
                refine hK _ _ ?_
                clear hK K
                try simp only [Act.put, List.setIfInBounds_toArray, List.set_cons_zero, List.set_cons_succ]
                have z1 := HZ.out.1
                rw [HS2.out] at z1
                have H7 := Lib.hid (And.intro z1 (And.intro HY10.out (H6.out.2.2.trans_ HZ.out.2)))
                clear z1 HZ HY10 e1 f1 x0' x2' HSET
                go_wp2_with fail
                go_roundw
                case rel => exact ⟨j + 1, B10, c10, by go_num, by omega, H7.out⟩
                case measure => simp [intOf]; omega
              · have HN2 := Lib.hid (HN.out (by simp only; rw [if_neg hy]))
                by_cases hy1 : qo = on
                · have hy2 : qi = id := by
                    by_cases h : qi = id
                    · exact h
                    · exact absurd ⟨hy1, h⟩ hy
                  have hb1 : (qo == on) = true := by simp [hy1]
                  have hb2 : (qi != id) = false := by simp [hy2]
                  clear hy1 hy2 hy HS HN
                  go_wp2_with fail
                  go_roundw
                  case rel => exact ⟨j + 1, _, c6, by go_num, by omega, by rw [HN2.out]; exact H6.out.1, H6.out.2⟩
                  case measure => simp [intOf]; omega
                · have hb1 : (qo == on) = false := by simp [hy1]
                  clear hy1 hy HS HN
                  go_wp2_with fail
                  go_roundw
                  case rel => exact ⟨j + 1, _, c6, by go_num, by omega, by rw [HN2.out]; exact H6.out.1, H6.out.2⟩
                  case measure => simp [intOf]; omega
            · obtain rfl : l1.length = j := by omega
              have HU9 := HUF.out l1.length
              have kr := H6.out.1
              rw [mix_all] at kr HU9
              have hg9 : ∃ p9, getN (takeN l1 id on) id = some p9 := by rw [getN_take, H5.out.2.2.1]; exact ⟨_, rfl⟩
              obtain ⟨p9, hg9⟩ := hg9
              have H9 : Hid (Rt wr h B6 c6 (takeN l1 id on) ∧ Uq (takeN l1 id on) ∧ getN (takeN l1 id on) id = some p9 ∧ Blk wr bD 30 #[.int .i64 on, .int .i64 wt, .bool true] ∧ Only [h] w wr) := ⟨kr, HU9, hg9, H6.out.2⟩
              clear kr HU9 hg9 H6
              go_wp2_with fail
              generalize takeN l1 id on = l9 at *
              obtain ⟨i9, hi9, hp9, hF9⟩ := rfind_fix (h := h) (c := c6) (B := B6) H9.out.2.1 H9.out.2.2.1
              have e0 := Blk.cell H9.out.1.blk 0
              have f0 := Blk.frozen H9.out.1.blk 0
              have y1 := Blk.cell H9.out.2.2.2.1 1
              simp at e0 y1
              have HF9 := Lib.hid (fun W k => hF9 W k)
              have HP9 := Lib.hid hp9
              have hcap9 := H9.out.1.capb
              have hfew9 := H9.out.1.few
              clear hF9 hp9
              go_upto_region 13 with fail
              refine wp_region_ord (fun w' => w'.cell? ⟨h, 0, none⟩ = some (.slice B6 l9.length c6) ∧ w'.cell? ⟨bD, 1, none⟩ = some (.int .i64 wt)) 16
                [(true, 0), (true, 1), (true, 2), (true, 3), (true, 4), (true, 5), (true, 6), (true, 8), (true, 9), (true, 10), (true, 11), (true, 12), (false, 7), (false, 13), (true, 14), (true, 15)]
                default (by kernel_rfl) (by kernel_rfl) (fun d _ _ _ _ h => by cases d <;> exact h) ?_ ?_
              · exact ⟨e0, y1⟩
              simp only [List.map_cons, List.map_nil, List.getD_cons_succ, List.getD_cons_zero]
              repeat
                (refine heldL_take ?_ ?_ ?_
                 rotate_left
                 · intro w' hw'
                   try dsimp only at hw'
                   obtain ⟨q0, q1⟩ := hw'
                   go_simp
                   try with_reducible rfl
                 try simp only [Act.put, List.setIfInBounds_toArray, List.set_cons_zero, List.set_cons_succ])
              refine heldL_move (fun K hK => ?_)
              go_simp
              refine (HF9.out _ (H9.out.1.drewN 1)).mono ?_
              rintro e w9 ⟨rfl, rfl⟩
              refine hK.out _ _ ?_ (fun hS => ?_)
              · exact ⟨e0, y1⟩
              clear hK K
              try simp only [Act.put, List.setIfInBounds_toArray, List.set_cons_zero, List.set_cons_succ]
              repeat
                (refine heldL_take ?_ ?_ ?_
                 rotate_left
                 · intro w' hw'
                   try dsimp only at hw'
                   obtain ⟨q0, q1⟩ := hw'
                   go_simp
                   try with_reducible rfl
                 try simp only [Act.put, List.setIfInBounds_toArray, List.set_cons_zero, List.set_cons_succ])
              refine heldL_move (fun K hK => ?_)
              go_simp
              refine (set_any B6 c6 i9 id on wt l9 _ (H9.out.1.drewN 1).row hfew9 hi9).mono ?_
              rintro e w10 ⟨B10, c10, rfl, h10, b10⟩
              have b10' : Below wr.heap.size wr w10 := ⟨b10.os, b10.tape, b10.output, b10.size, b10.block⟩
              rw [List.length_set] at h10 ⊢
              have HZ := Lib.hid (rt_store H9.out.1 b10' h10 (by rw [List.length_set]) (by rw [List.length_set]; exact hfew9))
              have k10 := H9.out.1.below b10'
              have y10 := H9.out.2.2.2.1.below b10' H9.out.2.2.2.1.lt
              have e1 := Blk.cell k10.blk 0
              have f1 := Blk.frozen k10.blk 0
              have y2 := Blk.cell y10 1
              simp at e1 y2
              refine hK.out _ _ ?_ (fun hS => ?_)
              · exact ⟨e1, y2⟩
              clear hK K h10 b10 b10' k10 y10
              try simp only [Act.put, List.setIfInBounds_toArray, List.set_cons_zero, List.set_cons_succ]
              repeat
                (refine heldL_take ?_ ?_ ?_
                 rotate_left
                 · intro w' hw'
                   try dsimp only at hw'
                   obtain ⟨q0, q1⟩ := hw'
                   go_simp
                   try with_reducible rfl
                 try simp only [Act.put, List.setIfInBounds_toArray, List.set_cons_zero, List.set_cons_succ])
              refine heldL_last (fun K hK => ?_)
              go_simp
              refine hK _ _ ?_
              clear hK K
              try simp only [Act.put, List.setIfInBounds_toArray, List.set_cons_zero, List.set_cons_succ]
              have HW := Lib.hid (set_put H9.out.2.1 i9 hi9 HP9.out on wt (by have e := getN_mem H9.out.2.2.1; rw [e.2]; exact H9.out.2.2.1))
              have hid9 := (getN_mem H9.out.2.2.1).2
              go_wp2_with fail
              go_end0
              rw [hid9] at HW
              have z1 := HZ.out.1
              rw [HW.out] at z1
              first
                | exact ⟨rfl, HRES.out _ ⟨B10, c10, z1.drew, H9.out.2.2.2.2.trans_ HZ.out.2.drew⟩⟩
                | exact ⟨rfl, HRES.out _ ⟨B10, c10, z1, H9.out.2.2.2.2.trans_ HZ.out.2⟩⟩
end Go.Proofs.Ytifgbnjpiphidaa
