/- The walks of package share: the answer. -/
import Derived.Test.YtodkifkphhfnpaaRows
import Derived.WalkKit
import Derived.ProofKit
import Derived.Handy
import Derived.Test.YtodkifkphhfnpaaMem
import Derived.Test.YtodkifkphhfnpaaLift
import Derived.Test.YtodkifkphhfnpaaApp
import Derived.Test.YtodkifkphhfnpaaReads
import Derived.Test.YtodkifkphhfnpaaOrd
import Derived.Test.YtodkifkphhfnpaaShLaw
import Derived.Test.YtodkifkphhfnpaaShare
import Derived.Test.YtodkifkphhfnpaaShare2
import Derived.Test.YtodkifkphhfnpaaShare3
import Derived.Test.YtodkifkphhfnpaaShare4
import Derived.Test.YtodkifkphhfnpaaShare5
import Derived.Test.YtodkifkphhfnpaaShare6
import Derived.Deep.QuietTactic
import Derived.BigQuiet
import Derived.Deep.RegionWith
import Derived.Deep.RegionHeld3
import Derived.Deep.AppendLies
import Derived.WalkLawsBesides
import Derived.WalkSmall
import Derived.Deep.LoopGhost
import Derived.ChangeKeysEq
import Derived.Laws.StructEq
namespace Go.Proofs.Ytodkifkphhfnpaa
open Go.RowKit
set_option linter.unusedVariables false
set_option linter.unusedSimpArgs false







def RSharedAt (w : World) (D : SH.Deal) (n : Nat) (e : Ending) (w' : World) : Prop :=
  ∃ A cap h, e = .returned (.slice A n cap) ∧ RowI w' A n cap h ∧ D.End h ∧ Below w.heap.size w w'

set_option maxRecDepth 20000 in
set_option maxHeartbeats 8000000 in
theorem rshare_any (whole : Int) (v : Value) (n : Nat) (X Y : Nat → Int) (w : World) (hc : Claims w v n X Y) (hn : n ≤ 256) (h0 : 0 ≤ whole) (h1 : whole ≤ 2147483647) :
    Calls Try.prog 13 #[.int .i64 whole, v] w (RSharedAt w (dealOf whole n X Y) n) := by
  have F := fits_of whole n X Y h0 h1
  have hones := fun (A' : Option Addr) (cap' : Nat) (h : Nat → Int) (W : World) (hW : Claims W v n X Y) (r : RowI W A' n cap' h) => rones_any whole v A' n cap' X Y h W hW r hn
  have hDn : (dealOf whole n X Y).n = n := rfl
  have hDW : (dealOf whole n X Y).W = whole := rfl
  have hDwant : ∀ j, (dealOf whole n X Y).want j = wantOf (X j) := fun j => rfl
  have hDwt : ∀ j, (dealOf whole n X Y).wt j = wtOf (Y j) := fun j => rfl
  generalize dealOf whole n X Y = D at *
  have hc' := hc
  obtain ⟨⟨A, cap, rfl, hnc, hcap, hA0, hcells⟩, bx, bY⟩ := hc
  obtain ⟨i0, hi0, hz0, hz1, hz2⟩ := info_parts info_I
  have HCL := Lib.hid hc'
  have HONES := Lib.hid hones
  have HC := Lib.hid hcells
  have HX := Lib.hid bx
  have HY := Lib.hid bY
  have HF := Lib.hid F
  have HDn := Lib.hid hDn
  have HDW := Lib.hid hDW
  have HDwant := Lib.hid hDwant
  have HDwt := Lib.hid hDwt
  clear hcells bx bY F hones hc' hDn hDW hDwant hDwt
  generalize hB : w.heap.size = B at *
  have hBw : B ≤ w.heap.size := by omega
  go_enter Try.func13, Try.ntmps13
  go_wp2_with (first
    | (at_make
       refine wpList_make_full _ rfl (.tmp 12) (.tmp 12) 25 rfl B 3 i0 _ 1 Try.underlying25 hi0 hz0 hz1 .i64 .i64 _ _ n rfl rfl rfl rfl ?c1 ?c2 ?c3 ?_
       case c1 => rw [hz2]; omega
       case c2 => simp only [maxLen]; omega
       case c3 => omega
       intro w2 hn2 hg2))
  rw [show (madeCells (Value.int .i64 0).cells (n * 1)).toList = cellsI (fun _ => 0) n by
    rw [Nat.mul_one, show (Value.int .i64 0).cells = #[Value.int .i64 0] from rfl, toList_madeCells_one]
    simp [cellsI, List.map_const']] at hn2
  have r2 : RowI w2 (some ⟨w.heap.size, 0, none⟩) n n (D.it 0) := RowI.of_own hn2
  have b2 : Below B w w2 := (Below.refl B w).grown hg2 hBw (by simp)
  rw [hB] at r2
  clear hn2 hg2
  go_loopg [5] (D.left (D.it 0)).toNat (fun gk hv wr => ∃ (k : Nat) (Ao : Option Addr) (co : Nat), hv = .slice Ao n co ∧ D.At k ∧ gk = (D.left (D.it k)).toNat ∧ RowI wr Ao n co (D.it k) ∧ Below B w wr)
  case atStart => exact ⟨0, _, _, rfl, fun j hj => absurd hj (by omega), rfl, r2, b2⟩
  case round =>
    obtain ⟨k, Ao, co, rfl, hA, rfl, rr, rb⟩ := hrel
    clear r2 b2
    have I := SH.Deal.At.inv HF.out.ok hA
    have hwr : B ≤ wr.heap.size := by have := rb.size; omega
    have hh : ∀ j, j < n → 0 ≤ D.it k j ∧ D.it k j ≤ 2147483647 := fun j hj => by
      have h1 := I.lo j (by rw [HDn.out]; exact hj)
      have h2 := I.hi j (by rw [HDn.out]; exact hj)
      have h3 := HF.out.want1 j (by rw [HDn.out]; exact hj)
      omega
    have hl0 := I.left0
    have hsum0 : D.left (D.it k) = whole - SH.sumF (D.it k) n := by unfold SH.Deal.left; rw [HDW.out, HDn.out]
    have hb := sum_bound hh n (Nat.le_refl _)
    have HS := Lib.hid (fun W r => rsum_any Ao n co (D.it k) W r (by omega) hh)
    have RR := Lib.hid rr
    have RB := Lib.hid rb
    have HH := Lib.hid hh
    have HSUM := Lib.hid hsum0
    clear rr rb hh hsum0
    go_wp2_with fail
    refine (HS.out _ RR.out).mono ?_
    rintro e w1 ⟨rfl, rfl⟩
    by_cases hlt0 : SH.sumF (D.it k) n < whole
    · have hub : ∀ m, m ≤ n → 0 ≤ SH.sumF (D.uw (D.it k)) m ∧ SH.sumF (D.uw (D.it k)) m ≤ 256 * m := by
        intro m
        induction m with
        | zero => intro _; simp [SH.sumF]
        | succ m ih =>
          intro hm
          have := ih (by omega)
          have := HF.out.ok.wt0 m (by rw [HDn.out]; omega)
          have := HF.out.wt1 m (by rw [HDn.out]; omega)
          simp only [SH.sumF, SH.Deal.uw]
          split <;> omega
      have HUB := Lib.hid hub
      clear hub
      go_wp2_with fail
      go_loopw [6, 7] (fun av iv wr2 => ∃ (m q : Nat), m ≤ n ∧ iv = .int .i64 m ∧ av = .int .i64 (SH.sumF (D.uw (D.it k)) m) ∧ wr2 = wr.drewN q) (fun _ i _ => n - (intOf i).toNat)
      case atStart => exact ⟨0, 0, by omega, rfl, rfl, rfl⟩
      case round =>
        obtain ⟨m, q, hm, rfl, rfl, rfl⟩ := hrel
        by_cases hlt : m < n
        · obtain ⟨b, off, rfl, hbl, c0, c1⟩ := HC.out m hlt
          obtain ⟨gr, rfl, ir⟩ := RR.out.2 (by omega)
          have hx := HX.out m hlt
          have hy := HY.out m hlt
          have hhm := HH.out m hlt
          have x1 := ir.cell hlt
          rw [← RB.out.cell (p := ⟨b, off + m * 2, none⟩) (by simp; omega)] at c0
          rw [← RB.out.cell (p := ⟨b, off + m * 2 + 1, none⟩) (by simp; omega)] at c1
          have hub1 := HUB.out (m + 1) (by omega)
          have hwm := HDwant.out m
          have hvm := HDwt.out m
          have hwtl : 1 ≤ wtOf (Y m) ∧ wtOf (Y m) ≤ 256 := by simp only [wtOf]; omega
          simp only [SH.sumF] at hub1
          by_cases hu : D.it k m < wantOf (X m)
          · have huw : D.uw (D.it k) m = wtOf (Y m) := by unfold SH.Deal.uw; rw [if_pos (by omega), hvm]
            rw [huw] at hub1
            have hub2 := hub1.1
            have hub3 := hub1.2
            have HUW := Lib.hid huw
            clear hub1 huw hwm hvm ir
            go_wp2_with fail
            go_quiet ((go_at_call 10; first | exact quiet_left (want_any _ _) | exact quiet_add_left (want_any _ _)))
            go_wp2_with (go_at_call 11; refine (weight_any _ _).mono ?_; rintro e w1 ⟨rfl, rfl⟩)
            go_roundw
            case rel => exact ⟨m + 1, _, by omega, by go_num, by simp only [SH.sumF, HUW.out], rfl⟩
            case measure => simp [intOf]; omega
          · have huw : D.uw (D.it k) m = 0 := by unfold SH.Deal.uw; rw [if_neg (by omega)]
            have HUW := Lib.hid huw
            clear hub1 huw hwm hvm ir
            go_wp2_with fail
            go_quiet ((go_at_call 10; first | exact quiet_left (want_any _ _) | exact quiet_add_left (want_any _ _)))
            go_wp2_with fail
            go_roundw
            case rel => exact ⟨m + 1, _, by omega, by go_num, by simp only [SH.sumF, HUW.out, Int.add_zero], rfl⟩
            case measure => simp [intOf]; omega
        · obtain rfl : n = m := by omega
          have hall : D.all (D.it k) = SH.sumF (D.uw (D.it k)) n := by unfold SH.Deal.all; rw [HDn.out]
          have hub := HUB.out n (Nat.le_refl _)
          have RR2 : RowI (wr.drewN q) Ao n co (D.it k) := RR.out
          have RB2 : Below B w (wr.drewN q) := below_drewN RB.out q
          have RS := Lib.hid (HS.out (wr.drewN q) RR2)
          by_cases ha : SH.sumF (D.uw (D.it k)) n = 0
          · have hst : D.stop (D.it k) := .inr (by rw [hall, ha])
            have hfin : RSharedAt w D n (.returned (.slice Ao n co)) (wr.drewN q) := ⟨Ao, co, D.it k, rfl, RR2, ⟨k, hA, hst, rfl⟩, by rw [hB]; exact RB2⟩
            have HFIN := Lib.hid hfin
            clear hst hfin hall RR2 RB2
            rw [ha]
            go_wp2_with fail
            go_ret
            exact HFIN.out
          · have hns : ¬ D.stop (D.it k) := by
              rintro (h | h)
              · have := HSUM.out; omega
              · rw [hall] at h; exact ha h
            have HNS := Lib.hid hns
            have HALL := Lib.hid hall
            have HRR := Lib.hid RR2
            have HRB := Lib.hid RB2
            clear hns hall RR2 RB2 RR RB
            generalize hal : SH.sumF (D.uw (D.it k)) n = al at *
            have ea : (al == 0) = false := by simp [ha]
            generalize wr.drewN q = W2 at *
            have HAL := Lib.hid hal
            clear hal
            go_wp2_with fail
            refine RS.out.mono ?_
            rintro e w4 ⟨rfl, rfl⟩
            have hw2 : B ≤ W2.heap.size := by have := HRB.out.size; omega
            generalize hB2 : W2.heap.size = B2 at *
            have hl1 : whole - SH.sumF (D.it k) n ≤ 2147483647 := by omega
            go_wp2_with fail
            go_loopw [9, 10] (fun ov iv w3 => ∃ (m : Nat) (An : Option Addr) (cn : Nat), m ≤ n ∧ iv = .int .i64 m ∧ ov = .slice An m cn ∧ w3.ownsRow B2 3 1 (.slice An m cn) m (cellsI (D.next (D.it k)) m) ∧ Below B2 W2 w3) (fun _ i _ => n - (intOf i).toNat)
            case atStart => exact ⟨0, none, 0, by omega, rfl, rfl, own_nil _ _ _ _, Below.refl _ _⟩
            case round =>
              obtain ⟨m, An, cn, hm, rfl, rfl, on, nb⟩ := hrel
              have hw3 : B2 ≤ wr.heap.size := by have := nb.size; omega
              by_cases hlt : m < n
              · obtain ⟨b, off, rfl, hbl, c0, c1⟩ := HC.out m hlt
                obtain ⟨gr, rfl, ir⟩ := HRR.out.2 (by omega)
                have hx := HX.out m hlt
                have hy := HY.out m hlt
                have hhm := HH.out m hlt
                have hgr := ir.lt
                have x1 := ir.cell hlt
                rw [← HRB.out.cell (p := ⟨b, off + m * 2, none⟩) (by simp; omega), ← nb.cell (p := ⟨b, off + m * 2, none⟩) (by simp; omega)] at c0
                rw [← HRB.out.cell (p := ⟨b, off + m * 2 + 1, none⟩) (by simp; omega), ← nb.cell (p := ⟨b, off + m * 2 + 1, none⟩) (by simp; omega)] at c1
                rw [← nb.cell (p := ⟨gr, m, none⟩) (by simp; omega)] at x1
                have q1 : gr < wr.heap.size := by omega
                have q2 : b < wr.heap.size := by omega
                have hwtl : 1 ≤ wtOf (Y m) ∧ wtOf (Y m) ≤ 256 := by simp only [wtOf]; omega
                have hwal : 0 ≤ wantOf (X m) ∧ wantOf (X m) ≤ 2147483647 := by simp only [wantOf]; omega
                have ON := Lib.hid on
                have NB := Lib.hid nb
                clear on nb ir
                have hm1 : 0 ≤ (whole - SH.sumF (D.it k) n) * wtOf (Y m) := Int.mul_nonneg (by omega) (by omega)
                have hm2 : (whole - SH.sumF (D.it k) n) * wtOf (Y m) ≤ 2147483647 * 256 := Int.mul_le_mul hl1 hwtl.2 (by omega) (by omega)
                have ht : ((whole - SH.sumF (D.it k) n) * wtOf (Y m)).tdiv al = (whole - SH.sumF (D.it k) n) * wtOf (Y m) / al := Int.tdiv_eq_ediv_of_nonneg hm1
                have hd1 : 0 ≤ (whole - SH.sumF (D.it k) n) * wtOf (Y m) / al := Int.ediv_nonneg hm1 (by omega)
                have hd2 : (whole - SH.sumF (D.it k) n) * wtOf (Y m) / al ≤ (whole - SH.sumF (D.it k) n) * wtOf (Y m) := Int.ediv_le_self _ hm1
                have e1 : IntKind.i64.wrap ((whole - SH.sumF (D.it k) n) * wtOf (Y m)) = (whole - SH.sumF (D.it k) n) * wtOf (Y m) := by rw [IntKind.wrap_i64]; omega
                have e2 : IntKind.i64.wrap ((whole - SH.sumF (D.it k) n) * wtOf (Y m) / al) = (whole - SH.sumF (D.it k) n) * wtOf (Y m) / al := by rw [IntKind.wrap_i64]; omega
                have e3 : IntKind.i64.wrap (wantOf (X m) - D.it k m) = wantOf (X m) - D.it k m := by rw [IntKind.wrap_i64]; omega
                have e4 : IntKind.i64.wrap (D.it k m + min ((whole - SH.sumF (D.it k) n) * wtOf (Y m) / al) (wantOf (X m) - D.it k m)) = D.it k m + min ((whole - SH.sumF (D.it k) n) * wtOf (Y m) / al) (wantOf (X m) - D.it k m) := by rw [IntKind.wrap_i64]; omega
                have hgot : D.next (D.it k) m = D.it k m + min ((whole - SH.sumF (D.it k) n) * wtOf (Y m) / al) (wantOf (X m) - D.it k m) := by
                  have hI := I.hi m (by rw [HDn.out]; exact hlt)
                  rw [HDwant.out] at hI
                  unfold SH.Deal.next SH.Deal.got SH.Deal.part
                  rw [HSUM.out, HALL.out, HDwt.out, HDwant.out]
                  split <;> omega
                have HGOT := Lib.hid hgot
                clear hgot
                go_wp2_with fail
                refine wp_region_ord (fun w' => w'.cell? ⟨gr, m, none⟩ = some (.int .i64 (D.it k m)) ∧ w'.cell? ⟨b, off + m * 2, none⟩ = some (.int .i64 (X m)) ∧ w'.cell? ⟨b, off + m * 2 + 1, none⟩ = some (.int .i64 (Y m))) 30 [(true, 0), (true, 1), (true, 2), (true, 3), (true, 4), (true, 5), (true, 6), (true, 7), (true, 8), (true, 9), (true, 10), (true, 13), (true, 15), (true, 16), (true, 17), (true, 18), (true, 19), (true, 21), (true, 22), (true, 23), (true, 24), (false, 11), (true, 12), (true, 14), (false, 20), (true, 25), (false, 26), (true, 27), (false, 28), (false, 29)] default (by kernel_rfl) (by kernel_rfl) (fun d _ _ _ _ h => by cases d <;> exact h) ?_ ?_
                · exact ⟨x1, c0, c1⟩
                simp only [List.map_cons, List.map_nil, List.getD_cons_succ, List.getD_cons_zero]
                repeat
                  (refine heldL_take ?_ ?_ ?_
                   rotate_left
                   · intro w' hw'
                     try dsimp only at hw'
                     go_simp
                     try with_reducible rfl
                   try simp only [Act.put, List.setIfInBounds_toArray, List.set_cons_zero, List.set_cons_succ])
                refine heldL_move (fun K hK => ?_)
                go_simp
                refine (weight_any _ _).mono ?_
                rintro e w5 ⟨rfl, rfl⟩
                refine hK.out _ _ ?_ (fun hS => ?_)
                · exact ⟨x1, c0, c1⟩
                clear hK K hS
                try simp only [Act.put, List.setIfInBounds_toArray, List.set_cons_zero, List.set_cons_succ]
                repeat
                  (refine heldL_take ?_ ?_ ?_
                   rotate_left
                   · intro w' hw'
                     try dsimp only at hw'
                     go_simp
                     try with_reducible rfl
                   try simp only [Act.put, List.setIfInBounds_toArray, List.set_cons_zero, List.set_cons_succ])
                refine heldL_move (fun K hK => ?_)
                go_simp
                refine (want_any _ _).mono ?_
                rintro e w5 ⟨rfl, rfl⟩
                refine hK.out _ _ ?_ (fun hS => ?_)
                · exact ⟨x1, c0, c1⟩
                clear hK K hS
                try simp only [Act.put, List.setIfInBounds_toArray, List.set_cons_zero, List.set_cons_succ]
                repeat
                  (refine heldL_take ?_ ?_ ?_
                   rotate_left
                   · intro w' hw'
                     try dsimp only at hw'
                     go_simp
                     try with_reducible rfl
                   try simp only [Act.put, List.setIfInBounds_toArray, List.set_cons_zero, List.set_cons_succ])
                refine heldL_move (fun K hK => ?_)
                go_simp
                refine (low_any _ _ _).mono ?_
                rintro e w5 ⟨rfl, rfl⟩
                refine hK.out _ _ ?_ (fun hS => ?_)
                · exact ⟨x1, c0, c1⟩
                clear hK K hS
                try simp only [Act.put, List.setIfInBounds_toArray, List.set_cons_zero, List.set_cons_succ]
                repeat
                  (refine heldL_take ?_ ?_ ?_
                   rotate_left
                   · intro w' hw'
                     try dsimp only at hw'
                     go_simp
                     try with_reducible rfl
                   try simp only [Act.put, List.setIfInBounds_toArray, List.set_cons_zero, List.set_cons_succ])
                refine heldL_move (fun K hK => ?_)
                go_simp
                refine hK.out _ _ ?_ (fun hS2 => ?_)
                · refine ⟨?_, ?_, ?_⟩ <;> go_keep
                clear hK K hS2
                try simp only [Act.put, List.setIfInBounds_toArray, List.set_cons_zero, List.set_cons_succ]
                refine heldL_move (fun K hK => ?_)
                have own0 : World.ownsRow (wr.drew.alloc (.cells #[.int .i64 (D.it k m + min ((whole - SH.sumF (D.it k) n) * wtOf (Y m) / al) (wantOf (X m) - D.it k m))] 3)) B2 3 1 (.slice An m cn) m _ := (ON.out.drew).alloc _
                refine wp_append_any _ (.tmp 56) (.tmp 84) 25 (by rfl) B2 3 i0 _ 1 8 Try.underlying25 hi0 hz0 hz1 hz2 rfl (by omega) (.slice An m cn) m _ (by rfl) own0 (wr.drew.heap.size + 1) (some ⟨wr.drew.heap.size, 0, none⟩) 1 1 [.int .i64 (D.it k m + min ((whole - SH.sumF (D.it k) n) * wtOf (Y m) / al) (wantOf (X m) - D.it k m))] (by rfl) ⟨rfl, fun _ => ⟨_, rfl, by simp, fun j u hu => World.news_of_block (cs := #[.int .i64 (D.it k m + min ((whole - SH.sumF (D.it k) n) * wtOf (Y m) / al) (wantOf (X m) - D.it k m))]) (t := 3) (fr := (0, 0)) (heap_alloc_new wr.drew _) j u hu⟩⟩ (by intro u hu; simp at hu; subst hu; rfl) (by simp only [maxLen]; omega) (by omega) (by simp; omega) ?_
                intro v0 w6 hn0 hg0 hd0
                obtain ⟨A0, k0, rfl⟩ := slice_of_own hn0
                have b6 : Below B2 wr w6 := ((Below.refl B2 wr).drew.alloc (by simp; omega) _).grown hg0 (by simp; omega) (fun k hk => ownBlock_ge own0 hk)
                have y1 : w6.cell? ⟨gr, m, none⟩ = some (.int .i64 (D.it k m)) := by rw [b6.cell (p := ⟨gr, m, none⟩) (by simp; omega)]; exact x1
                have y2 : w6.cell? ⟨b, off + m * 2, none⟩ = some (.int .i64 (X m)) := by rw [b6.cell (p := ⟨b, off + m * 2, none⟩) (by simp; omega)]; exact c0
                have y3 : w6.cell? ⟨b, off + m * 2 + 1, none⟩ = some (.int .i64 (Y m)) := by rw [b6.cell (p := ⟨b, off + m * 2 + 1, none⟩) (by simp; omega)]; exact c1
                refine hK.out _ _ ?_ (fun hS3 => ?_)
                · exact ⟨y1, y2, y3⟩
                clear hK K hS3
                try simp only [Act.put, List.setIfInBounds_toArray, List.set_cons_zero, List.set_cons_succ]
                refine heldL_last (fun K hK => ?_)
                go_simp
                refine hK _ _ ?_
                clear hK K
                try simp only [Act.put, List.setIfInBounds_toArray, List.set_cons_zero, List.set_cons_succ]
                rw [← HGOT.out] at hn0
                have HN := Lib.hid hn0
                have HB6 := Lib.hid (NB.out.trans b6)
                clear hn0 hg0 hd0 own0 b6 y1 y2 y3
                go_wp2_with fail
                go_roundw
                case rel => exact ⟨m + 1, A0, k0, by omega, by go_num, rfl, by rw [cellsI_succ]; exact HN.out, HB6.out⟩
                case measure => simp [intOf]; omega
              · obtain rfl : n = m := by omega
                have RN := Lib.hid (RowI.of_own on)
                have NB := Lib.hid nb
                clear on nb
                have hA0' : ¬ D.all (D.it k) = 0 := by rw [HALL.out]; exact ha
                have I' := SH.Deal.next_inv HF.out.ok I hA0'
                have hh' : ∀ j, j < n → 0 ≤ D.next (D.it k) j ∧ D.next (D.it k) j ≤ 2147483647 := fun j hj => by
                  have h1 := I'.lo j (by rw [HDn.out]; exact hj)
                  have h2 := I'.hi j (by rw [HDn.out]; exact hj)
                  have h3 := HF.out.want1 j (by rw [HDn.out]; exact hj)
                  omega
                have hrr3 : RowI wr Ao n co (D.it k) := HRR.out.below (by rw [hB2]; exact NB.out)
                have hcl3 : Claims wr (.slice A n cap) n X Y := HCL.out.below (HRB.out.trans (NB.out.mono (by omega))) (by omega)
                have R1 := Lib.hid (rsum_any An n cn (D.next (D.it k)) wr RN.out (by omega) hh')
                have R2 := Lib.hid (HS.out wr hrr3)
                have hA2 := hA.succ HNS.out
                have hstep := SH.Deal.step_left HF.out.ok I HNS.out
                have hI2 := (SH.Deal.At.inv HF.out.ok hA2).left0
                have hB3 : Below B w wr := HRB.out.trans (NB.out.mono (by omega))
                have HB3 := Lib.hid hB3
                have HA2 := Lib.hid hA2
                have HST := Lib.hid (And.intro hstep hI2)
                have HO := Lib.hid (fun hl0 hl1 => HONES.out Ao co (D.it k) wr hcl3 hrr3 HH.out hl0 hl1)
                clear I' hA0' hrr3 hcl3 hA2 hstep hI2 hB3
                by_cases he : SH.sumF (D.next (D.it k)) n = SH.sumF (D.it k) n
                · have hst : D.step (D.it k) = D.ones (D.it k) := by unfold SH.Deal.step; rw [HDn.out, if_pos he]
                  have HSTE := Lib.hid hst
                  rw [he] at R1
                  clear hst hh' he
                  have HO2 := Lib.hid (by have := HO.out (by rw [HSUM.out]; omega) (by rw [HSUM.out]; omega); rw [HSUM.out] at this; exact this)
                  go_wp2_with fail
                  refine R1.out.mono ?_
                  rintro e w5 ⟨rfl, rfl⟩
                  go_wp2_with fail
                  refine R2.out.mono ?_
                  rintro e w5 ⟨rfl, rfl⟩
                  go_wp2_with fail
                  refine HO2.out.mono ?_
                  rintro e w5 ⟨A5, c5, rfl, r5, b5⟩
                  have HR5 := Lib.hid r5
                  have HB5 := Lib.hid b5
                  clear r5 b5
                  go_wp2_with fail
                  go_roundg (D.left (D.it (k + 1))).toNat
                  case measure =>
                    have h1 : D.left (D.it (k + 1)) < D.left (D.it k) := HST.out.1
                    have h2 : 0 ≤ D.left (D.it (k + 1)) := HST.out.2
                    omega
                  case rel => exact ⟨k + 1, A5, c5, rfl, HA2.out, rfl, by show RowI _ _ _ _ (D.step (D.it k)); rw [HSTE.out]; exact HR5.out, HB3.out.trans (HB5.out.mono (by have := HB3.out.size; omega))⟩
                · have hst : D.step (D.it k) = D.next (D.it k) := by unfold SH.Deal.step; rw [HDn.out, if_neg he]
                  have HSTE := Lib.hid hst
                  have e1 : (SH.sumF (D.next (D.it k)) n == SH.sumF (D.it k) n) = false := by simp [he]
                  clear hst hh'
                  go_wp2_with fail
                  refine R1.out.mono ?_
                  rintro e w5 ⟨rfl, rfl⟩
                  go_wp2_with fail
                  refine R2.out.mono ?_
                  rintro e w5 ⟨rfl, rfl⟩
                  go_wp2_with fail
                  go_roundg (D.left (D.it (k + 1))).toNat
                  case measure =>
                    have h1 : D.left (D.it (k + 1)) < D.left (D.it k) := HST.out.1
                    have h2 : 0 ≤ D.left (D.it (k + 1)) := HST.out.2
                    omega
                  case rel => exact ⟨k + 1, An, cn, rfl, HA2.out, rfl, by show RowI _ _ _ _ (D.step (D.it k)); rw [HSTE.out]; exact RN.out, HB3.out⟩
    · have hst : D.stop (D.it k) := .inl (by have := HSUM.out; omega)
      have hfin : RSharedAt w D n (.returned (.slice Ao n co)) wr := ⟨Ao, co, D.it k, rfl, RR.out, ⟨k, hA, hst, rfl⟩, by rw [hB]; exact RB.out⟩
      have HFIN := Lib.hid hfin
      clear hst hfin
      go_wp2_with fail
      go_ret
      exact HFIN.out
end Go.Proofs.Ytodkifkphhfnpaa
