/- The walk of the answer's Remove. -/
import Derived.Test.YtifgbnjpiphidaaTreG
namespace Go.Proofs.Ytifgbnjpiphidaa
open Go.RowKit
set_option linter.unusedVariables false
theorem allW_snoc (l : List Nd) (i : Int) (p : Nd) : allW (l ++ [p]) i = if p.on = i then allW l i + p.wt else allW l i := by
  unfold allW
  rw [List.filter_append, List.map_append, List.sum_append]
  by_cases h : p.on = i <;> simp [h]
theorem allW_ge {l : List Nd} {i : Int} (h : ∀ p ∈ l, 0 ≤ p.wt) : ∀ p ∈ l, p.on = i → p.wt ≤ allW l i := by
  have pos : ∀ l : List Nd, (∀ p ∈ l, 0 ≤ p.wt) → 0 ≤ allW l i := by
    intro l
    induction l with
    | nil => intro _; exact Int.le_refl _
    | cons q t ih =>
      intro h
      have h1 := h q (by simp)
      have h2 := ih fun p hp => h p (List.mem_cons_of_mem _ hp)
      unfold allW at *
      rw [List.filter_cons]
      split
      · simp only [List.map_cons, List.sum_cons]; omega
      · exact h2
  induction l with
  | nil => intro p hp; cases hp
  | cons q t ih =>
    intro p hp ho
    have h1 := h q (by simp)
    have h2 := pos t fun p hp => h p (List.mem_cons_of_mem _ hp)
    unfold allW at *
    rw [List.filter_cons]
    rcases List.mem_cons.1 hp with rfl | hp
    · simp only [ho, decide_true, if_true, List.map_cons, List.sum_cons]; omega
    · have h3 := ih (fun p hp => h p (List.mem_cons_of_mem _ hp)) p hp ho
      split
      · simp only [List.map_cons, List.sum_cons]; omega
      · exact h3
/-- What becomes of a node as i, that is x, is taken out. -/
def remF (i : Int) (x : Nd) (a : Int) (p : Nd) : Nd := if p.on = i then ⟨p.id, x.on, shareI p.wt x.wt a⟩ else p
def remJ (i : Int) (x : Nd) (a : Int) (l : List Nd) : List Nd := (l.map (remF i x a)).filter (fun p => decide (p.id ≠ i))
theorem remF_id (i : Int) (x : Nd) (a : Int) (p : Nd) : (remF i x a p).id = p.id := by unfold remF; split <;> rfl
theorem remJ_snoc (i : Int) (x : Nd) (a : Int) (l : List Nd) (p : Nd) : remJ i x a (l ++ [p]) = if p.id = i then remJ i x a l else remJ i x a l ++ [remF i x a p] := by
  unfold remJ
  rw [List.map_append, List.filter_append]
  by_cases h : p.id = i <;> simp [remF_id, h]
theorem remJ_le (i : Int) (x : Nd) (a : Int) (l : List Nd) : (remJ i x a l).length ≤ l.length := by
  unfold remJ
  exact Nat.le_trans (List.length_filter_le _ _) (by rw [List.length_map]; exact Nat.le_refl _)
theorem remJ_all {l : List Nd} (hu : Uq l) (i : Int) (x : Nd) : remJ i x (allW l i) l = remL l i x := by
  unfold remJ remL dropN shareN
  congr 1
  refine List.map_congr_left fun p hp => ?_
  unfold remF
  have e := mem_kids_of hu hp (i := i)
  by_cases h : p.on = i
  · rw [if_pos h, if_pos (e.2 h)]
  · rw [if_neg h, if_neg (fun h2 => h (e.1 h2))]
set_option maxHeartbeats 8000000 in
theorem rremove_any (h c : Nat) (B : Option Addr) (l : List Nd) (w : World) (k : Rt w h B c l) (ok : OkT l) (hnd : ∀ p ∈ l, Ndok p) (hl : l.length ≤ 256) (id : Int) :
    Calls Try.prog 27 #[.pointer (some ⟨h, 0, none⟩), .int .i64 id] w (TurnRE w h (removeS l id).1 (removeS l id).2) := by
  obtain ⟨i0, hi0, hz0, hz1, hz2⟩ := info_parts info_RE
  obtain ⟨r, hr⟩ := ok
  have HK := Lib.hid k
  have HR := Lib.hid hr
  have HND := Lib.hid hnd
  have c0' := Blk.cell k.blk 0
  simp at c0'
  have hcap := k.capb
  have hhl := k.lt
  clear hr hnd k
  cases hg : getN l id with
  | none =>
    have HM : Hid (removeS l id = (7, l)) := by
      show removeS l id = _
      unfold removeS
      rw [hg]
    rw [HM.out]
    have HC := Lib.hid (rfind_no h c id B l w HK.out hg)
    have HF := Lib.hid (turnR_same HK.out (Below.refl _ _))
    clear hg
    go_enter Try.func27, Try.ntmps27
    go_wp2_with fail
    refine HC.out.mono ?_
    rintro e w2 ⟨rfl, rfl⟩
    go_wp2_with fail
    go_ret
    exact ⟨rfl, HF.out⟩
  | some x =>
    have HM : Hid (removeS l id = (0, remJ id x (allW l id) l)) := by
      show removeS l id = _
      unfold removeS
      rw [hg]
      simp only
      rw [remJ_all HR.out.uq]
    rw [HM.out]
    obtain ⟨at_, hat, hxa, hF⟩ := rfind_fix (h := h) (c := c) (B := B) HR.out.uq hg
    have HC := Lib.hid (hF w HK.out)
    have HXA := Lib.hid hxa
    have hxn := HND.out x (getN_mem hg).1
    have hxid := (getN_mem hg).2
    have HXID := Lib.hid hxid
    have hxw1 := hxn.2.2.1
    have hxw2 := hxn.2.2.2
    have hat0 : (0 : Int) ≤ at_ := by omega
    have hat1 : (at_ : Int) < l.length := by omega
    have HW := Lib.hid (fun p hp ho => allW_ge (l := l) (i := id) (fun p hp => by have := (HND.out p hp).2.2.1; omega) p hp ho)
    clear hg hF hxa hxn hxid HM
    go_enter Try.func27, Try.ntmps27
    go_wp2_with fail
    refine HC.out.mono ?_
    rintro e w2 ⟨rfl, rfl⟩
    go_wp2_with fail
    go_loop [6, 7] (fun av iv => ∃ (j : Nat) (a : Int), iv = .int .i64 j ∧ av = .int .i64 a ∧ j ≤ l.length ∧ a = allW (l.take j) id ∧ 0 ≤ a ∧ a ≤ 256 * j) (fun _ iv => l.length - (intOf iv).toNat)
    case atStart => exact ⟨0, 0, rfl, rfl, by omega, by rw [List.take_zero]; rfl, by omega, by omega⟩
    case round =>
      obtain ⟨j, a, rfl, rfl, hj, ha, ha0, ha1⟩ := hrel
      have HA := Lib.hid ha
      clear ha
      have hj0 : (0 : Int) ≤ j := by omega
      by_cases hlt : j < l.length
      · have hj1 : (j : Int) < l.length := by omega
        obtain ⟨bq, off, hB, _, x0, x1, x2⟩ := HK.out.cells j hlt
        have hpn := HND.out l[j] (List.getElem_mem hlt)
        have hw1 := hpn.2.2.1
        have hw2 := hpn.2.2.2
        have HS : Hid (allW (l.take (j + 1)) id = if l[j].on = id then a + l[j].wt else a) := by
          show _ = _
          rw [List.take_succ_eq_append_getElem hlt, allW_snoc, HA.out]
        clear hpn
        generalize l[j] = p at *
        obtain ⟨pi, po, pw⟩ := p
        simp only at x0 x1 x2 hw1 hw2 HS
        subst hB
        by_cases he : po = id
        · have HS2 := Lib.hid (show a + pw = allW (l.take (j + 1)) id by rw [HS.out, if_pos he])
          have heb : (po == id) = true := by simp [he]
          clear he HS
          go_wp2_with fail
          go_round
          case rel => exact ⟨j + 1, a + pw, by go_num, rfl, by omega, HS2.out, by omega, by omega⟩
          case measure => simp [intOf]; omega
        · have HS2 := Lib.hid (show a = allW (l.take (j + 1)) id by rw [HS.out, if_neg he])
          have heb : (po == id) = false := by simp [he]
          clear he HS
          go_wp2_with fail
          go_round
          case rel => exact ⟨j + 1, a, by go_num, rfl, by omega, HS2.out, by omega, by omega⟩
          case measure => simp [intOf]; omega
      · obtain rfl : l.length = j := by omega
        have HAA : Hid (a = allW l id) := by
          show a = allW l id
          rw [HA.out, List.take_of_length_le (Nat.le_refl _)]
        rw [← HAA.out] at HW
        clear HA
        go_wp2_with fail
        go_loopw [8, 9] (fun ov iv wr => ∃ (j m c' : Nat) (A : Option Addr), iv = .int .i64 j ∧ j ≤ l.length ∧ ov = .slice A m c' ∧ m = (remJ id x a (l.take j)).length ∧ wr.ownsRow w.heap.size 63 3 (.slice A m c') m (prq (remJ id x a (l.take j))) ∧ Below w.heap.size w wr) (fun _ iv _ => l.length - (intOf iv).toNat)
        case atStart => exact ⟨0, 0, 0, none, rfl, by omega, rfl, rfl, own_nil _ _ _ _, Below.refl _ _⟩
        case round =>
          obtain ⟨j, m, c', A, rfl, hj, rfl, hm, ho, hb⟩ := hrel
          have hmj : m ≤ j := by rw [hm]; exact Nat.le_trans (remJ_le _ _ _ _) (by rw [List.length_take]; omega)
          have hbs := hb.size
          have c0 : wr.cell? ⟨h, 0, none⟩ = some (.slice B l.length c) := (hb.cell (p := ⟨h, 0, none⟩) hhl).trans c0'
          have HM := Lib.hid (And.intro hm (And.intro ho hb))
          clear hm ho hb
          have hj0 : (0 : Int) ≤ j := by omega
          by_cases hlt : j < l.length
          · have hj1 : (j : Int) < l.length := by omega
            have HKR := Lib.hid (HK.out.below HM.out.2.2)
            obtain ⟨bq, off, hB, hbq, x0, x1, x2⟩ := HKR.out.cells j hlt
            obtain ⟨bq', off', hB', _, _, y1, y2⟩ := HKR.out.cells at_ hat
            rw [HXA.out] at y1 y2
            rw [hB] at hB'
            injection hB' with hB'
            injection hB' with e1 e2
            subst e1 e2
            have hpn := HND.out l[j] (List.getElem_mem hlt)
            have hw1 := hpn.2.2.1
            have hw2 := hpn.2.2.2
            have hrk := HR.out.rk l[j] (List.getElem_mem hlt)
            have hle := HW.out l[j] (List.getElem_mem hlt)
            have HS : Hid (remJ id x a (l.take (j + 1)) = if l[j].id = id then remJ id x a (l.take j) else remJ id x a (l.take j) ++ [remF id x a l[j]]) := by
              show _ = _
              rw [List.take_succ_eq_append_getElem hlt, remJ_snoc]
            clear hpn
            generalize l[j] = p at *
            obtain ⟨pi, po, pw⟩ := p
            simp only at x0 x1 x2 hw1 hw2 HS hrk hle
            subst hB
            have z1 := Blk.new wr 63 #[.int .i64 pi, .int .i64 po, .int .i64 pw]
            have B1 : Below wr.heap.size wr (wr.alloc (.cells #[.int .i64 pi, .int .i64 po, .int .i64 pw] 63)) := (Below.refl _ _).alloc (Nat.le_refl _) _
            have o1 := HM.out.2.1.alloc (.cells #[.int .i64 pi, .int .i64 po, .int .i64 pw] 63)
            have d0 : (wr.alloc (.cells #[.int .i64 pi, .int .i64 po, .int .i64 pw] 63)).cell? ⟨h, 0, none⟩ = some (.slice (some ⟨bq, off, none⟩) l.length c) := (B1.cell (p := ⟨h, 0, none⟩) (by show h < wr.heap.size; omega)).trans c0
            have d1 : (wr.alloc (.cells #[.int .i64 pi, .int .i64 po, .int .i64 pw] 63)).cell? ⟨bq, off + at_ * 3 + 1, none⟩ = some (.int .i64 x.on) := (B1.cell (p := ⟨bq, off + at_ * 3 + 1, none⟩) hbq).trans y1
            have d2 : (wr.alloc (.cells #[.int .i64 pi, .int .i64 po, .int .i64 pw] 63)).cell? ⟨bq, off + at_ * 3 + 2, none⟩ = some (.int .i64 x.wt) := (B1.cell (p := ⟨bq, off + at_ * 3 + 2, none⟩) hbq).trans y2
            have H1 := Lib.hid (And.intro z1 (And.intro o1 (HM.out.2.2.trans (B1.mono hbs))))
            obtain ⟨bX, hbX⟩ : ∃ bX, bX = wr.heap.size := ⟨_, rfl⟩
            have hsW : w.heap.size ≤ (wr.alloc (.cells #[.int .i64 pi, .int .i64 po, .int .i64 pw] 63)).heap.size := by simp; omega
            have hbXw : w.heap.size ≤ bX := by omega
            have HOW := Lib.hid (fun q hq => by have := own_lt HM.out.2.1 (g := q) hq; rw [← hbX] at this; exact this)
            have hhX : h < bX := by omega
            have hqX : bq < bX := by omega
            have hAt := Lib.hid (fun v : Int => show remF id x v ⟨pi, po, pw⟩ = if po = id then ⟨pi, x.on, shareI pw x.wt v⟩ else ⟨pi, po, pw⟩ from rfl)
            clear z1 B1 o1 y1 y2 HKR
            go_upto_region 15 with fail
            clear x0 x1 x2 c0
            generalize wr.alloc (.cells #[.int .i64 pi, .int .i64 po, .int .i64 pw] 63) = wb at *
            rw [← hbX] at H1 ⊢
            clear hbX
            have e0 := Blk.cell H1.out.1 0
            have e1 := Blk.cell H1.out.1 1
            have e2 := Blk.cell H1.out.1 2
            simp at e0 e1 e2
            by_cases he : po = id
            · have hpi : pi ≠ id := fun e => by rw [he, e] at hrk; omega
              have hle' := hle he
              have HS2 : Hid (remJ id x a (l.take (j + 1)) = remJ id x a (l.take j) ++ [⟨pi, x.on, shareI pw x.wt a⟩]) := by
                show _ = _
                rw [HS.out, if_neg hpi, hAt.out, if_pos he]
              obtain ⟨P, hP⟩ : ∃ P, P = pw * x.wt := ⟨_, rfl⟩
              have hP0 : 0 ≤ P := by rw [hP]; exact Int.mul_nonneg (by omega) (by omega)
              have hP1 : P ≤ 256 * 256 := by
                rw [hP]
                exact Int.le_trans (Int.mul_le_mul_of_nonneg_right hw2 (by omega)) (Int.mul_le_mul_of_nonneg_left hxw2 (by omega))
              have hPw : IntKind.i64.wrap (pw * x.wt) = P := by rw [← hP, IntKind.wrap_i64]; omega
              obtain ⟨Q, hQ⟩ : ∃ Q, P / a = Q := ⟨_, rfl⟩
              have hQ0 : 0 ≤ Q := by rw [← hQ]; exact Int.ediv_nonneg hP0 (by omega)
              have hQ1 : Q ≤ 65536 := by rw [← hQ]; exact Int.le_trans (Int.ediv_le_self _ hP0) (by omega)
              have hQt : P.tdiv a = Q := by rw [← hQ]; exact Int.tdiv_eq_ediv_of_nonneg hP0
              have hQw : IntKind.i64.wrap Q = Q := by rw [IntKind.wrap_i64]; omega
              have ha2 : 1 ≤ a := by omega
              have HSI : Hid (shareI pw x.wt a = max 1 Q) := by
                show shareI pw x.wt a = _
                unfold shareI
                rw [← hP, hQ]
              have heb : (po == id) = true := by simp [he]
              have hpib : (pi != id) = true := by simp [hpi]
              have haz : (a == 0) = false := by simp; omega
              clear he hpi hrk hle hle' HS hAt hP
              go_upto_region 16 with fail
              go_quiet (fail)
              have H2 : Hid (Blk (wb.drewN nq) bX 63 #[.int .i64 pi, .int .i64 po, .int .i64 pw] ∧ (wb.drewN nq).ownsRow w.heap.size 63 3 (.slice A m c') m (prq (remJ id x a (l.take j))) ∧ Below w.heap.size w (wb.drewN nq)) := ⟨H1.out.1.drewN nq, H1.out.2.1, below_drewN H1.out.2.2 nq⟩
              have g0 : (wb.drewN nq).cell? ⟨h, 0, none⟩ = some (.slice (some ⟨bq, off, none⟩) l.length c) := d0
              have g1 : (wb.drewN nq).cell? ⟨bq, off + at_ * 3 + 1, none⟩ = some (.int .i64 x.on) := d1
              have hsW2 : w.heap.size ≤ (wb.drewN nq).heap.size := hsW
              clear d0 d1 d2 e0 e1 e2 H1 hsW hPw hQt hQw hQ
              generalize wb.drewN nq = W2 at *
              have e0 := Blk.cell H2.out.1 0
              have f0 := Blk.frozen H2.out.1 0
              have f1 := Blk.frozen H2.out.1 1
              have f2 := Blk.frozen H2.out.1 2
              have e1 := Blk.cell H2.out.1 1
              have e2 := Blk.cell H2.out.1 2
              simp at e0 e1 e2
              by_cases hq1 : Q < 1
              · have HV := Lib.hid (show shareI pw x.wt a = 1 by rw [HSI.out]; omega)
                go_upto_region 19 with fail
                refine wp_region_ord (fun w' => w'.cell? ⟨bX, 0, none⟩ = some (.int .i64 pi) ∧ w'.cell? ⟨h, 0, none⟩ = some (.slice (some ⟨bq, off, none⟩) l.length c) ∧ w'.cell? ⟨bq, off + at_ * 3 + 1, none⟩ = some (.int .i64 x.on)) 12
                  [(true, 0), (true, 1), (true, 2), (true, 3), (true, 4), (true, 5), (true, 6), (true, 7), (true, 8), (true, 9), (true, 10), (true, 11)]
                  default (by kernel_rfl) (by kernel_rfl) (fun d _ _ _ _ h => by cases d <;> exact h) ?_ ?_
                · exact ⟨e0, g0, g1⟩
                simp only [List.map_cons, List.map_nil, List.getD_cons_succ, List.getD_cons_zero]
                repeat
                  (refine heldL_take ?_ ?_ ?_
                   rotate_left
                   · intro w' hw'
                     try dsimp only at hw'
                     obtain ⟨q1, q2, q3⟩ := hw'
                     go_simp
                     try with_reducible rfl
                   try simp only [Act.put, List.setIfInBounds_toArray, List.set_cons_zero, List.set_cons_succ])
                refine heldL_last (fun K hK => ?_)
                go_simp
                refine hK _ _ ?_
                clear hK K
                try simp only [Act.put, List.setIfInBounds_toArray, List.set_cons_zero, List.set_cons_succ]
                have kb := set3_blk H2.out.1 rfl (.int .i64 pi) (.int .i64 x.on) (.int .i64 1)
                have oo : Only [bX] W2 (((W2.setCell ⟨bX, 0, none⟩ (.int .i64 pi)).setCell ⟨bX, 1, none⟩ (.int .i64 x.on)).setCell ⟨bX, 2, none⟩ (.int .i64 1)) := (((Only.refl _ _).setCell (by simp) _).setCell (by simp) _).setCell (by simp) _
                have ho3 := own_only H2.out.2.1 oo (fun q hq => by have := HOW.out q hq; simp; omega)
                have b3 := ((H2.out.2.2.setCell (p := ⟨bX, 0, none⟩) hbXw (.int .i64 pi)).setCell (p := ⟨bX, 1, none⟩) hbXw (.int .i64 x.on)).setCell (p := ⟨bX, 2, none⟩) hbXw (.int .i64 1)
                have HX : Hid ((((W2.setCell ⟨bX, 0, none⟩ (.int .i64 pi)).setCell ⟨bX, 1, none⟩ (.int .i64 x.on)).setCell ⟨bX, 2, none⟩ (.int .i64 1)).drew.ownsRow w.heap.size 63 3 (.slice A m c') m (prq (remJ id x a (l.take j))) ∧ Below w.heap.size w (((W2.setCell ⟨bX, 0, none⟩ (.int .i64 pi)).setCell ⟨bX, 1, none⟩ (.int .i64 x.on)).setCell ⟨bX, 2, none⟩ (.int .i64 1)).drew) := ⟨ho3.drew, b3.drew⟩
                have HB3 : Hid (Blk (((W2.setCell ⟨bX, 0, none⟩ (.int .i64 pi)).setCell ⟨bX, 1, none⟩ (.int .i64 x.on)).setCell ⟨bX, 2, none⟩ (.int .i64 1)).drew bX 63 #[.int .i64 pi, .int .i64 x.on, .int .i64 1]) := kb.drew
                have hsW : w.heap.size ≤ (((W2.setCell ⟨bX, 0, none⟩ (.int .i64 pi)).setCell ⟨bX, 1, none⟩ (.int .i64 x.on)).setCell ⟨bX, 2, none⟩ (.int .i64 1)).drew.heap.size := HX.out.2.size
                clear kb oo ho3 b3 e0 e1 e2 f0 f1 f2 g0 g1 H2 hsW2
                generalize (((W2.setCell ⟨bX, 0, none⟩ (.int .i64 pi)).setCell ⟨bX, 1, none⟩ (.int .i64 x.on)).setCell ⟨bX, 2, none⟩ (.int .i64 1)).drew = W3 at *
                have e0 := Blk.cell HB3.out 0
                have e1 := Blk.cell HB3.out 1
                have e2 := Blk.cell HB3.out 2
                simp at e0 e1 e2
                have HS3 := HS2
                rw [HV.out] at HS3
                have HRT := Lib.hid (reads_tri W3 63 pi x.on 1)
                go_wp2_with (first
                  | (at_builtin
                     refine wpList_append_any _ rfl (.tmp 97) (.tmp 99) _ rfl w.heap.size 63 i0 _ 3 24 Try.underlying37 hi0 hz0 hz1 hz2 rfl (by omega) (.slice A m c') m _ rfl (HX.out.1.alloc _) (W3.heap.size + 1) (some ⟨W3.heap.size, 0, none⟩) 1 1 [.int .i64 pi, .int .i64 x.on, .int .i64 1] rfl HRT.out (by simp [Value.oneCell']) (by simp only [maxLen]; omega) (by omega) (by simp; omega) ?_
                     intro v6 w6 hn6 hg6 hd6
                     obtain ⟨A6, c6, rfl⟩ := slice_of_own' hn6
                     have b6 : Below w.heap.size w w6 := (HX.out.2.alloc hsW _).grown hg6 (by simp; omega) (fun k hk => ownBlock_ge HX.out.1 hk)
                     have e6 : prq (remJ id x a (l.take j)) ++ [.int .i64 pi, .int .i64 x.on, .int .i64 1] = prq (remJ id x a (l.take (j + 1))) := by rw [HS3.out, prq_append]; rfl
                     rw [e6] at hn6
                     have hm6 : m + 1 = (remJ id x a (l.take (j + 1))).length := by rw [HS3.out, List.length_append, HM.out.1]; rfl
                     have H6 := Lib.hid (And.intro hm6 (And.intro hn6 b6))
                     clear hn6 hg6 hd6 b6 e6 hm6))
                go_roundw
                case rel => exact ⟨j + 1, m + 1, c6, A6, by go_num, by omega, rfl, H6.out⟩
                case measure => simp [intOf]; omega
              · have HV := Lib.hid (show shareI pw x.wt a = Q by rw [HSI.out]; omega)
                have hq2 : 1 ≤ Q := by omega
                clear hq1
                go_upto_region 19 with fail
                refine wp_region_ord (fun w' => w'.cell? ⟨bX, 0, none⟩ = some (.int .i64 pi) ∧ w'.cell? ⟨h, 0, none⟩ = some (.slice (some ⟨bq, off, none⟩) l.length c) ∧ w'.cell? ⟨bq, off + at_ * 3 + 1, none⟩ = some (.int .i64 x.on)) 12
                  [(true, 0), (true, 1), (true, 2), (true, 3), (true, 4), (true, 5), (true, 6), (true, 7), (true, 8), (true, 9), (true, 10), (true, 11)]
                  default (by kernel_rfl) (by kernel_rfl) (fun d _ _ _ _ h => by cases d <;> exact h) ?_ ?_
                · exact ⟨e0, g0, g1⟩
                simp only [List.map_cons, List.map_nil, List.getD_cons_succ, List.getD_cons_zero]
                repeat
                  (refine heldL_take ?_ ?_ ?_
                   rotate_left
                   · intro w' hw'
                     try dsimp only at hw'
                     obtain ⟨q1, q2, q3⟩ := hw'
                     go_simp
                     try with_reducible rfl
                   try simp only [Act.put, List.setIfInBounds_toArray, List.set_cons_zero, List.set_cons_succ])
                refine heldL_last (fun K hK => ?_)
                go_simp
                refine hK _ _ ?_
                clear hK K
                try simp only [Act.put, List.setIfInBounds_toArray, List.set_cons_zero, List.set_cons_succ]
                have kb := set3_blk H2.out.1 rfl (.int .i64 pi) (.int .i64 x.on) (.int .i64 Q)
                have oo : Only [bX] W2 (((W2.setCell ⟨bX, 0, none⟩ (.int .i64 pi)).setCell ⟨bX, 1, none⟩ (.int .i64 x.on)).setCell ⟨bX, 2, none⟩ (.int .i64 Q)) := (((Only.refl _ _).setCell (by simp) _).setCell (by simp) _).setCell (by simp) _
                have ho3 := own_only H2.out.2.1 oo (fun q hq => by have := HOW.out q hq; simp; omega)
                have b3 := ((H2.out.2.2.setCell (p := ⟨bX, 0, none⟩) hbXw (.int .i64 pi)).setCell (p := ⟨bX, 1, none⟩) hbXw (.int .i64 x.on)).setCell (p := ⟨bX, 2, none⟩) hbXw (.int .i64 Q)
                have HX : Hid ((((W2.setCell ⟨bX, 0, none⟩ (.int .i64 pi)).setCell ⟨bX, 1, none⟩ (.int .i64 x.on)).setCell ⟨bX, 2, none⟩ (.int .i64 Q)).drew.ownsRow w.heap.size 63 3 (.slice A m c') m (prq (remJ id x a (l.take j))) ∧ Below w.heap.size w (((W2.setCell ⟨bX, 0, none⟩ (.int .i64 pi)).setCell ⟨bX, 1, none⟩ (.int .i64 x.on)).setCell ⟨bX, 2, none⟩ (.int .i64 Q)).drew) := ⟨ho3.drew, b3.drew⟩
                have HB3 : Hid (Blk (((W2.setCell ⟨bX, 0, none⟩ (.int .i64 pi)).setCell ⟨bX, 1, none⟩ (.int .i64 x.on)).setCell ⟨bX, 2, none⟩ (.int .i64 Q)).drew bX 63 #[.int .i64 pi, .int .i64 x.on, .int .i64 Q]) := kb.drew
                have hsW : w.heap.size ≤ (((W2.setCell ⟨bX, 0, none⟩ (.int .i64 pi)).setCell ⟨bX, 1, none⟩ (.int .i64 x.on)).setCell ⟨bX, 2, none⟩ (.int .i64 Q)).drew.heap.size := HX.out.2.size
                clear kb oo ho3 b3 e0 e1 e2 f0 f1 f2 g0 g1 H2 hsW2
                generalize (((W2.setCell ⟨bX, 0, none⟩ (.int .i64 pi)).setCell ⟨bX, 1, none⟩ (.int .i64 x.on)).setCell ⟨bX, 2, none⟩ (.int .i64 Q)).drew = W3 at *
                have e0 := Blk.cell HB3.out 0
                have e1 := Blk.cell HB3.out 1
                have e2 := Blk.cell HB3.out 2
                simp at e0 e1 e2
                have HS3 := HS2
                rw [HV.out] at HS3
                have HRT := Lib.hid (reads_tri W3 63 pi x.on Q)
                go_wp2_with (first
                  | (at_builtin
                     refine wpList_append_any _ rfl (.tmp 97) (.tmp 99) _ rfl w.heap.size 63 i0 _ 3 24 Try.underlying37 hi0 hz0 hz1 hz2 rfl (by omega) (.slice A m c') m _ rfl (HX.out.1.alloc _) (W3.heap.size + 1) (some ⟨W3.heap.size, 0, none⟩) 1 1 [.int .i64 pi, .int .i64 x.on, .int .i64 Q] rfl HRT.out (by simp [Value.oneCell']) (by simp only [maxLen]; omega) (by omega) (by simp; omega) ?_
                     intro v6 w6 hn6 hg6 hd6
                     obtain ⟨A6, c6, rfl⟩ := slice_of_own' hn6
                     have b6 : Below w.heap.size w w6 := (HX.out.2.alloc hsW _).grown hg6 (by simp; omega) (fun k hk => ownBlock_ge HX.out.1 hk)
                     have e6 : prq (remJ id x a (l.take j)) ++ [.int .i64 pi, .int .i64 x.on, .int .i64 Q] = prq (remJ id x a (l.take (j + 1))) := by rw [HS3.out, prq_append]; rfl
                     rw [e6] at hn6
                     have hm6 : m + 1 = (remJ id x a (l.take (j + 1))).length := by rw [HS3.out, List.length_append, HM.out.1]; rfl
                     have H6 := Lib.hid (And.intro hm6 (And.intro hn6 b6))
                     clear hn6 hg6 hd6 b6 e6 hm6))
                go_roundw
                case rel => exact ⟨j + 1, m + 1, c6, A6, by go_num, by omega, rfl, H6.out⟩
                case measure => simp [intOf]; omega
            · have heb : (po == id) = false := by simp [he]
              by_cases hpi : pi = id
              · have HS2 : Hid (remJ id x a (l.take (j + 1)) = remJ id x a (l.take j)) := by
                  show _ = _
                  rw [HS.out, if_pos hpi]
                have hpib : (pi != id) = false := by simp [hpi]
                clear he hpi hrk hle HS hAt
                go_wp2_with fail
                go_roundw
                case rel => exact ⟨j + 1, m, c', A, by go_num, by omega, rfl, by rw [HS2.out]; exact HM.out.1, by rw [HS2.out]; exact H1.out.2.1, H1.out.2.2⟩
                case measure => simp [intOf]; omega
              · have HS2 : Hid (remJ id x a (l.take (j + 1)) = remJ id x a (l.take j) ++ [⟨pi, po, pw⟩]) := by
                  show _ = _
                  rw [HS.out, if_neg hpi, hAt.out, if_neg he]
                have hpib : (pi != id) = true := by simp [hpi]
                have HX := Lib.hid (And.intro H1.out.2.1 H1.out.2.2)
                clear he hpi hrk hle HS hAt
                have HRT := Lib.hid (reads_tri wb 63 pi po pw)
                go_wp2_with (first
                  | (at_builtin
                     refine wpList_append_any _ rfl (.tmp 97) (.tmp 99) _ rfl w.heap.size 63 i0 _ 3 24 Try.underlying37 hi0 hz0 hz1 hz2 rfl (by omega) (.slice A m c') m _ rfl (HX.out.1.alloc _) (wb.heap.size + 1) (some ⟨wb.heap.size, 0, none⟩) 1 1 [.int .i64 pi, .int .i64 po, .int .i64 pw] rfl HRT.out (by simp [Value.oneCell']) (by simp only [maxLen]; omega) (by omega) (by simp; omega) ?_
                     intro v6 w6 hn6 hg6 hd6
                     obtain ⟨A6, c6, rfl⟩ := slice_of_own' hn6
                     have b6 : Below w.heap.size w w6 := (HX.out.2.alloc hsW _).grown hg6 (by simp; omega) (fun k hk => ownBlock_ge HX.out.1 hk)
                     have e6 : prq (remJ id x a (l.take j)) ++ [.int .i64 pi, .int .i64 po, .int .i64 pw] = prq (remJ id x a (l.take (j + 1))) := by rw [HS2.out, prq_append]; rfl
                     rw [e6] at hn6
                     have hm6 : m + 1 = (remJ id x a (l.take (j + 1))).length := by rw [HS2.out, List.length_append, HM.out.1]; rfl
                     have H6 := Lib.hid (And.intro hm6 (And.intro hn6 b6))
                     clear hn6 hg6 hd6 b6 e6 hm6))
                go_roundw
                case rel => exact ⟨j + 1, m + 1, c6, A6, by go_num, by omega, rfl, H6.out⟩
                case measure => simp [intOf]; omega
          · obtain rfl : l.length = j := by omega
            have e0 : l.take l.length = l := List.take_of_length_le (Nat.le_refl _)
            have hm := HM.out.1
            have ho := HM.out.2.1
            rw [e0] at hm ho
            have ks := rt_store HK.out HM.out.2.2 (Held.of_own ho) hm (by have := remJ_le id x a l; omega)
            rw [HAA.out] at ks
            have g0 := Blk.cell (HK.out.below HM.out.2.2).blk 0
            have f0 := Blk.frozen (HK.out.below HM.out.2.2).blk 0
            simp at g0
            have HF := Lib.hid ks
            clear hm ho ks e0 c0
            go_wp2_with fail
            go_ret
            exact ⟨rfl, A, c', HF.out.1, HF.out.2⟩
end Go.Proofs.Ytifgbnjpiphidaa
