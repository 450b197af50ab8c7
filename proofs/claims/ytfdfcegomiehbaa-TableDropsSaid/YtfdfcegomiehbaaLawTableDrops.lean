/- Proved: TableDrops answers true for every input, and leaves its arguments as they were; no condition. -/
import Derived.Test.YtfdfcegomiehbaaRows
import Derived.Test.YtfdfcegomiehbaaMem
import Derived.Test.YtfdfcegomiehbaaLift
import Derived.Test.YtfdfcegomiehbaaTableDo3
import Derived.Test.YtfdfcegomiehbaaTable5
import Derived.Test.YtfdfcegomiehbaaSeq
import Derived.WalkKit
import Derived.ProofKit
import Derived.OpenShut
import Derived.Handy
import Derived.Deep.QuietTactic
import Derived.BigQuiet
import Derived.Deep.RegionWith
import Derived.WalkLawsBesides
import Derived.Deep.RegionHeld3
import Derived.Deep.DeepCutAuto
import Derived.Deep.CutBlock
namespace Go.Proofs.Ytfdfcegomiehbaa.TableDrops
open Go.ChangeShapes Go.WideShapes Go.ChangeAt Go.RowKit Go.Deep
set_option linter.unusedVariables false

set_option maxRecDepth 100000 in
set_option maxHeartbeats 8000000 in
theorem walk (w : World) (v0 : Value) (n : Nat) (C : Nat → List Value) (h0 : RowsAt w v0 n 3 Three C) (v1 : Value) (n1 : Nat) (C1 : Nat → List Value) (h1 : RowsAt w v1 n1 1 (OneNum .i64) C1) :
    Calls Try.prog 4 #[v0, v1] w fun e w' => e = .returned (.bool true) ∧ Below w.heap.size w w' := by
  obtain ⟨A1, cap, rfl, hnc, hcap, hcells⟩ := h0
  have HC := Lib.hid hcells
  clear hcells
  obtain ⟨I, ci, ids, rfl, hci, hci2, hlow⟩ := low_of_rows h1
  have HLOW := Lib.hid hlow
  clear hlow h1
  have hmi : (ids.length : Int) ≤ 9223372036854775807 := by omega
  go_enter Try.func4, Try.ntmps4
  go_wp2_with fail
  refine (new_ok 100 w (by decide) (by decide)).mono ?_
  rintro e w1 ⟨rfl, k1, bb1⟩
  have K1 := k1 w.heap.size (Nat.le_refl _)
  have hs1 := bb1.size
  have H1 := Lib.hid (And.intro K1 bb1)
  clear k1 bb1 K1
  go_wp2_with fail
  refine (awake_any _).mono ?_
  rintro e w2 ⟨rfl, bb2⟩
  have H2 : Hid (TabAt w.heap.size (w2.alloc (.cells #[.slice none 0 0] 30)) w.heap.size 100 none 0 [] ∧ Blk (w2.alloc (.cells #[.slice none 0 0] 30)) w2.heap.size 30 #[.slice none 0 0] ∧ Below w.heap.size w (w2.alloc (.cells #[.slice none 0 0] 30))) := ⟨(H1.out.1.below bb2).alloc _, Blk.new _ _ _, ((H1.out.2.trans (bb2.mono hs1)).alloc (Nat.le_trans hs1 bb2.size) _)⟩
  have hs2 : w.heap.size < w2.heap.size := Nat.lt_of_lt_of_le H1.out.1.lt bb2.size
  clear bb2
  go_upto_block 0 with fail
  have hrg : w.heap.size ≠ w2.heap.size := by omega
  go_cut [8] (fun s8 wx => ∃ (cap c : Nat) (A B : Option Addr) (l : List (Int × Int)), TabAt w.heap.size wx w.heap.size 100 A cap l ∧ Blk wx w2.heap.size 30 #[.slice B l.length c] ∧ Held wx 47 2 B l.length c (prs l) ∧ Below w.heap.size w wx)
  case first =>
    go_wp2_with fail
    go_loopw [8] (fun iv wr => ∃ (m cap c : Nat) (A B : Option Addr) (l : List (Int × Int)), m ≤ 100 ∧ iv = .int .i64 m ∧ TabAt w.heap.size wr w.heap.size 100 A cap l ∧ Blk wr w2.heap.size 30 #[.slice B l.length c] ∧ Held wr 47 2 B l.length c (prs l) ∧ Below w.heap.size w wr) (fun i _ => 100 - (intOf i).toNat)
    case atStart => exact ⟨0, 0, 0, none, none, [], by omega, rfl, H2.out.1, H2.out.2.1, Held.nil_ _ _ _, H2.out.2.2⟩
    case round =>
      obtain ⟨m, cap1, c, A, B, l, hm, rfl, k, br, hI, rb⟩ := hrel
      have HK := Lib.hid (And.intro k (And.intro br (And.intro hI rb)))
      have hfew := k.few
      have hcc := hI.2.1
      clear k br hI rb
      by_cases hgo : m < n ∧ m < 100
      · obtain ⟨hlt, hlt2⟩ := hgo
        obtain ⟨bq, off, kd, y, z, rfl, hbl, _, c0, c1, c2, h0', h1', h2'⟩ := RowsAt.three HC.out hlt
        rw [← HK.out.2.2.2.cell (p := ⟨bq, off + m * 3, none⟩) hbl] at c0
        rw [← HK.out.2.2.2.cell (p := ⟨bq, off + m * 3 + 1, none⟩) hbl] at c1
        rw [← HK.out.2.2.2.cell (p := ⟨bq, off + m * 3 + 2, none⟩) hbl] at c2
        have cr := Blk.cell HK.out.2.1 0
        simp at cr
        have HD := Lib.hid (fun (V : World) (kV : TabAt w.heap.size V w.heap.size 100 A cap1 l) (hV : Held V 47 2 B l.length c (prs l)) => do_any w.heap.size w.heap.size cap1 c 100 A B l kd y z V kV hV (by omega))
        have hm0 : (0 : Int) ≤ m := by omega
        have hm1 : (m : Int) < n := by omega
        have hg9 := HK.out.1.lt
        have hr9 := Blk.lt HK.out.2.1
        go_wp2_with fail
        refine wp_region_seq (fun w' => w'.cell? ⟨bq, off + m * 3, none⟩ = some (.int .i64 kd) ∧ w'.cell? ⟨bq, off + m * 3 + 1, none⟩ = some (.int .i64 y) ∧ w'.cell? ⟨bq, off + m * 3 + 2, none⟩ = some (.int .i64 z)) [(true, 0), (true, 2), (true, 3), (true, 4), (true, 5), (false, 1), (false, 6), (true, 7), (true, 8), (true, 9), (false, 10)] default (by kernel_rfl) (by kernel_rfl) (fun d _ _ _ _ h => by cases d <;> exact h) ?_ ?_
        · exact ⟨c0, c1, c2⟩
        simp only [List.map_cons, List.map_nil, List.getD_cons_succ, List.getD_cons_zero]
        repeat
          (refine heldS_take ?_ ?_ ?_
           rotate_left
           · intro w' hw'
             try dsimp only at hw'
             go_simp
             try with_reducible rfl
           try simp only [Act.put, List.setIfInBounds_toArray, List.set_cons_zero, List.set_cons_succ])
        refine heldS_move (fun K hK => ?_)
        go_simp
        refine hK.out _ _ ⟨c0, c1, c2⟩ (fun hS => ?_)
        clear hK K hS
        try simp only [Act.put, List.setIfInBounds_toArray, List.set_cons_zero, List.set_cons_succ]
        refine heldS_move (fun K hK => ?_)
        go_simp
        refine (HD.out _ (by exact HK.out.1.drewN 1) (by exact HK.out.2.2.1)).mono ?_
        rintro e w3 ⟨l', A', cap', B', c', rfl, k3, h3, b3', st3⟩
        have br3 := st3 _ _ _ (by exact HK.out.2.1) (by decide) (by decide)
        have hlr : w2.heap.size < w3.heap.size := Blk.lt br3
        have y0 := (b3'.cell (p := ⟨bq, off + m * 3, none⟩) hbl).trans (by exact c0)
        have y1 := (b3'.cell (p := ⟨bq, off + m * 3 + 1, none⟩) hbl).trans (by exact c1)
        have y2 := (b3'.cell (p := ⟨bq, off + m * 3 + 2, none⟩) hbl).trans (by exact c2)
        have cr3 := Blk.cell br3 0
        have fr3 := Blk.frozen br3 0
        simp at cr3
        have BW3 : Below w.heap.size w w3 := (below_drewN HK.out.2.2.2 1).trans b3'
        have H3 := Lib.hid (And.intro k3 (And.intro h3 (And.intro br3 BW3)))
        refine hK.out _ _ ⟨y0, y1, y2⟩ (fun hS => ?_)
        clear hK K hS k3 h3 b3' st3 br3 BW3
        try simp only [Act.put, List.setIfInBounds_toArray, List.set_cons_zero, List.set_cons_succ]
        repeat
          (refine heldS_take ?_ ?_ ?_
           rotate_left
           · intro w' hw'
             try dsimp only at hw'
             go_simp
             try with_reducible rfl
           try simp only [Act.put, List.setIfInBounds_toArray, List.set_cons_zero, List.set_cons_succ])
        refine heldS_move (fun K hK => ?_)
        go_simp
        refine hK.out _ _ ⟨?_, ?_, ?_⟩ (fun hS => heldS_done ?_)
        · exact (World.cell?_setCell_other _ _ _ _ (fun e => by injection e with e1; omega)).trans y0
        · exact (World.cell?_setCell_other _ _ _ _ (fun e => by injection e with e1; omega)).trans y1
        · exact (World.cell?_setCell_other _ _ _ _ (fun e => by injection e with e1; omega)).trans y2
        clear hK K hS
        try simp only [Act.put, List.setIfInBounds_toArray, List.set_cons_zero, List.set_cons_succ]
        have br4 := Blk.set_ H3.out.2.2.1 0 (.slice B' l'.length c')
        simp at br4
        have H4 : Hid (TabAt w.heap.size (w3.setCell ⟨w2.heap.size, 0, none⟩ (.slice B' l'.length c')) w.heap.size 100 A' cap' l' ∧ Held (w3.setCell ⟨w2.heap.size, 0, none⟩ (.slice B' l'.length c')) 47 2 B' l'.length c' (prs l') ∧ Blk (w3.setCell ⟨w2.heap.size, 0, none⟩ (.slice B' l'.length c')) w2.heap.size 30 #[.slice B' l'.length c'] ∧ Below w.heap.size w (w3.setCell ⟨w2.heap.size, 0, none⟩ (.slice B' l'.length c'))) :=
          ⟨H3.out.1.only1 H3.out.2.2.1 (by decide) (by decide) _, H3.out.2.1.setCell (p := ⟨w2.heap.size, 0, none⟩) (by exact H3.out.2.2.1) (by decide) _, br4, H3.out.2.2.2.setCell (by simp; omega) _⟩
        clear br4 y0 y1 y2 cr3 fr3 cr c0 c1 c2
        go_wp2_with fail
        go_roundw
        case rel => exact ⟨m + 1, cap', c', A', B', l', by omega, by go_num, H4.out.1, H4.out.2.2.1, H4.out.2.1, H4.out.2.2.2⟩
        case measure => simp [intOf]; omega
      · have hend : ¬ m < n ∨ (m < n ∧ ¬ m < 100) := by omega
        clear hgo
        rcases hend with hend | ⟨hend, hend2⟩
        all_goals
          (go_wp2_with fail
           go_meet
           exact ⟨cap1, c, A, B, l, HK.out.1, HK.out.2.1, HK.out.2.2.1, HK.out.2.2.2⟩)
  case rest =>
    obtain ⟨cap1, c, A, B, l, k, br, hI, rb⟩ := hcut
    have HK := Lib.hid (And.intro k (And.intro br (And.intro hI rb)))
    have hfew := k.few
    have hcc := hI.2.1
    have hcc2 := hI.2.2.1
    have cr := Blk.cell br 0
    simp at cr
    clear k br hI rb
    go_upto_if 54 with fail
    go_cut [1] (fun s1 wx => wx = wc ∧ ∃ ids2 : List Int, s1 = .slice I ids2.length ci ∧ ids2.length ≤ 50 ∧ ids2.length ≤ ci ∧ Low w.heap.size I w ids2)
    case first =>
      by_cases h50 : ids.length ≤ 50
      · have hid : (ids.length : Int) ≤ 50 := by omega
        go_wp2_with fail
        go_meet
        exact ⟨rfl, ids, rfl, h50, hci, HLOW.out⟩
      · have hid : 50 < (ids.length : Int) := by omega
        have hL := Lib.hid (show (ids.take 50).length = 50 by simp; omega)
        have hid2 : (50 : Int) ≤ ci := by omega
        go_wp2_with fail
        go_meet
        exact ⟨rfl, ids.take 50, by rw [hL.out], by rw [hL.out]; exact Nat.le_refl _, by rw [hL.out]; omega, HLOW.out.take 50⟩
    case rest =>
      obtain ⟨rfl, ids2, rfl, hi50, hic, hlow2⟩ := hcut
      have HL2 := Lib.hid hlow2
      have hids0 : (0 : Int) ≤ (ids2.length : Int) := by omega
      clear hlow2
      go_wp2_with fail
      go_loopw [10] (fun iv wr => ∃ (j c : Nat) (B : Option Addr), j ≤ ids2.length ∧ iv = .int .i64 j ∧ TabAt w.heap.size wr w.heap.size 100 A cap1 l ∧ Blk wr w2.heap.size 30 #[.slice B (wos l (ids2.take j)).length c] ∧ Held wr 47 2 B (wos l (ids2.take j)).length c (prs (wos l (ids2.take j))) ∧ Below w.heap.size w wr) (fun i _ => ids2.length - (intOf i).toNat)
      case atStart => exact ⟨0, c, B, by omega, rfl, HK.out.1, HK.out.2.1, HK.out.2.2.1, HK.out.2.2.2⟩
      case round =>
        obtain ⟨j, c4, B4, hj, rfl, k4, br4, hI4, rb4⟩ := hrel
        have HS : Hid (∀ (h : j < ids2.length), wos l (ids2.take (j + 1)) = wo ids2[j] (wos l (ids2.take j))) := fun h => by rw [List.take_succ_eq_append_getElem h, wos_snoc]
        have hle := wos_le (ids2.take j) l
        have HE := Lib.hid (fun (h : ids2.length ≤ j) => show wos l (ids2.take j) = wos l ids2 by rw [List.take_of_length_le h])
        have H4 := Lib.hid (And.intro k4 (And.intro br4 (And.intro hI4 rb4)))
        clear k4 br4 hI4 rb4
        generalize hl1 : wos l (ids2.take j) = l1 at *
        clear hl1
        have cr4 := Blk.cell H4.out.2.1 0
        simp at cr4
        have hr9 := Blk.lt H4.out.2.1
        by_cases hlt : j < ids2.length
        · obtain ⟨bq, off, rfl, hbl, c0⟩ := HL2.out j hlt
          rw [← H4.out.2.2.2.cell (p := ⟨bq, off + j, none⟩) hbl] at c0
          have HSX := Lib.hid (HS.out hlt)
          generalize ids2[j] = x at *
          have hj0 : (0 : Int) ≤ j := by omega
          have hj1 : (j : Int) < ids2.length := by omega
          have HD := Lib.hid (fun V hV => rdel_any B4 l1.length c4 l1 x V rfl (by omega) hV)
          clear HS HE
          go_wp2_with fail
          refine wp_region_seq (fun w' => w'.cell? ⟨bq, off + j, none⟩ = some (.int .i64 x)) [(true, 1), (true, 2), (true, 3), (true, 4), (false, 0), (false, 5), (false, 6)] default (by kernel_rfl) (by kernel_rfl) (fun d _ _ _ _ h => by cases d <;> exact h) ?_ ?_
          · exact c0
          simp only [List.map_cons, List.map_nil, List.getD_cons_succ, List.getD_cons_zero]
          repeat
            (refine heldS_take ?_ ?_ ?_
             rotate_left
             · intro w' hw'
               try dsimp only at hw'
               go_simp
               try with_reducible rfl
             try simp only [Act.put, List.setIfInBounds_toArray, List.set_cons_zero, List.set_cons_succ])
          refine heldS_move (fun K hK => ?_)
          go_simp
          refine hK.out _ _ c0 (fun hS => ?_)
          clear hK K hS
          try simp only [Act.put, List.setIfInBounds_toArray, List.set_cons_zero, List.set_cons_succ]
          refine heldS_move (fun K hK => ?_)
          go_simp
          refine (HD.out _ (by exact H4.out.2.2.1)).mono ?_
          rintro e w5 ⟨B5, c5, rfl, h5, b5'⟩
          have b5 : Below wr.heap.size wr w5 := ⟨b5'.os, b5'.tape, b5'.output, b5'.size, b5'.block⟩
          have cx := (b5.cell (p := ⟨bq, off + j, none⟩) (Nat.lt_of_lt_of_le hbl H4.out.2.2.2.size)).trans c0
          have br5 := Blk.below H4.out.2.1 b5 hr9
          have cr5 := Blk.cell br5 0
          have fr5 := Blk.frozen br5 0
          simp at cr5
          have hr5 := Blk.lt br5
          have H5 := Lib.hid (And.intro (H4.out.1.below b5) (And.intro br5 (And.intro h5 (H4.out.2.2.2.trans (b5.mono H4.out.2.2.2.size)))))
          clear h5 b5 b5' br5
          refine hK.out _ _ cx (fun hS => ?_)
          clear hK K hS
          try simp only [Act.put, List.setIfInBounds_toArray, List.set_cons_zero, List.set_cons_succ]
          refine heldS_move (fun K hK => ?_)
          go_simp
          refine hK.out _ _ ?_ (fun hS => heldS_done ?_)
          · exact (World.cell?_setCell_other _ _ _ _ (fun e => by injection e with e1; omega)).trans cx
          clear hK K hS
          try simp only [Act.put, List.setIfInBounds_toArray, List.set_cons_zero, List.set_cons_succ]
          have br6 := Blk.set_ H5.out.2.1 0 (.slice B5 (wo x l1).length c5)
          simp at br6
          have H6 : Hid (TabAt w.heap.size (w5.setCell ⟨w2.heap.size, 0, none⟩ (.slice B5 (wo x l1).length c5)) w.heap.size 100 A cap1 l ∧ Blk (w5.setCell ⟨w2.heap.size, 0, none⟩ (.slice B5 (wo x l1).length c5)) w2.heap.size 30 #[.slice B5 (wo x l1).length c5] ∧ Held (w5.setCell ⟨w2.heap.size, 0, none⟩ (.slice B5 (wo x l1).length c5)) 47 2 B5 (wo x l1).length c5 (prs (wo x l1)) ∧ Below w.heap.size w (w5.setCell ⟨w2.heap.size, 0, none⟩ (.slice B5 (wo x l1).length c5))) :=
            ⟨H5.out.1.only1 H5.out.2.1 (by decide) (by decide) _, br6, H5.out.2.2.1.setCell (p := ⟨w2.heap.size, 0, none⟩) (by exact H5.out.2.1) (by decide) _, H5.out.2.2.2.setCell (by simp; omega) _⟩
          clear br6 cx cr5 fr5 c0
          go_wp2_with fail
          go_roundw
          case rel => exact ⟨j + 1, c5, B5, by omega, by go_num, H6.out.1, by rw [HSX.out]; exact H6.out.2.1, by rw [HSX.out]; exact H6.out.2.2.1, H6.out.2.2.2⟩
          case measure => simp [intOf]; omega
        · have HLE := Lib.hid (HE.out (by omega))
          obtain rfl : j = ids2.length := by omega
          have hle0 : (0 : Int) ≤ (l1.length : Int) := by omega
          have hle1 : (l1.length : Int) ≤ l.length := by omega
          have hd0 : IntKind.i64.wrap ((l.length : Int) - l1.length) = (l.length : Int) - l1.length := by rw [IntKind.wrap_i64]; omega
          clear HS HE
          go_wp2_with fail
          go_region_held3 (fun w' => w'.cell? ⟨w2.heap.size, 0, none⟩ = some (.slice B4 l1.length c4))
            (first
              | go_keep
              | with_reducible assumption)
            ((first
              | (go_at_call 14
                 refine (drop_low w.heap.size w.heap.size cap1 ids2.length ci 100 A I l ids2 _ (by exact H4.out.1.drewN 1) rfl hic (by omega) (by exact HL2.out.below (below_drewN H4.out.2.2.2 1))).mono ?_
                 rintro e w5 ⟨rfl, t5⟩
                 have t5b := TabTurn.below (H4.out.1.drewN 1) t5
                 have br5 := turn_blk (H4.out.1.drewN 1) t5 (H4.out.2.1.drewN 1) (by decide) (by decide)
                 have cr5 := Blk.cell br5 0
                 simp at cr5
                 have hr5 := Blk.lt br5
                 obtain ⟨⟨A5, cap5, k5', d5⟩, o5⟩ := t5
                 rw [← HLE.out] at k5'
                 have h5 := (H4.out.1.drewN 1).held o5 (H4.out.2.2.1.drewN 1) (by decide) (by decide)
                 have H5 := Lib.hid (And.intro k5' (And.intro br5 (And.intro h5 ((below_drewN H4.out.2.2.2 1).trans t5b))))
                 rw [← HLE.out]
                 clear k5' d5 o5 t5b br5 h5)
              | (go_at_call 11
                 refine (ids_any w.heap.size w.heap.size cap5 100 A5 l1 _ (by exact H5.out.1)).mono ?_
                 rintro e w6 ⟨A6, c6, rfl, h6, b6'⟩
                 have b6 : Below w5.heap.size w5 w6 := ⟨b6'.os, b6'.tape, b6'.output, b6'.size, b6'.block⟩
                 have cr6 := (b6.cell (p := ⟨w2.heap.size, 0, none⟩) hr5).trans cr5
                 have H6 := Lib.hid (And.intro h6 (And.intro (H5.out.2.2.1.below b6) b6))
                 clear h6 b6 b6')
              | (go_at_call 12
                 refine (rids_any B4 l1.length c4 l1 _ rfl (by omega) (by exact H6.out.2.1)).mono ?_
                 rintro e w7 ⟨A7, c7, rfl, h7, b7'⟩
                 have b7 : Below w6.heap.size w6 w7 := ⟨b7'.os, b7'.tape, b7'.output, b7'.size, b7'.block⟩
                 have cr7 := (b7.cell (p := ⟨w2.heap.size, 0, none⟩) (Nat.lt_of_lt_of_le hr5 H6.out.2.2.size)).trans cr6
                 have H7 := Lib.hid (And.intro h7 (And.intro (H6.out.1.below b7) b7))
                 clear h7 b7 b7')
              | (go_at_call 10
                 refine (ints_eq _ _ _ _ _ _ (l1.map (·.1)) _ (by simp) (by simp) (by exact H7.out.2.1) (by exact H7.out.1) (by simp; omega)).mono ?_
                 rintro e w8 ⟨rfl, q8, rfl⟩)))
          go_wp2_with fail
          have b8 : Below w5.heap.size w5 (w7.drewN q8) := below_drewN (H6.out.2.2.trans (H7.out.2.2.mono H6.out.2.2.size)) q8
          have H8 := Lib.hid (And.intro (H5.out.1.below b8) (And.intro (Blk.below H5.out.2.1 b8 hr5) (And.intro (H5.out.2.2.1.below b8) (H5.out.2.2.2.trans (b8.mono H5.out.2.2.2.size)))))
          clear b8 cr5 cr6 cr7
          generalize w7.drewN q8 = w8 at *
          refine (ends_any w.heap.size w.heap.size cap5 100 A5 l1 w8 H8.out.1).mono ?_
          rintro e w9 ⟨lo, hi, b, rfl, hcase, q9, rfl⟩
          have H9 := Lib.hid (And.intro (H8.out.1.drewN q9) (And.intro (H8.out.2.1.drewN q9) (And.intro (H8.out.2.2.1.drewN q9) (below_drewN H8.out.2.2.2 q9))))
          generalize w8.drewN q9 = w9 at *
          have cr9 := Blk.cell H9.out.2.1 0
          simp at cr9
          rcases hcase with ⟨rfl, rfl, rfl, rfl⟩ | ⟨rfl, hpos, hlo, hhi⟩
          · simp only [List.length_nil] at cr9
            go_wp2_with fail
            go_ret
            exact ⟨rfl, H9.out.2.2.2⟩
          · have HLH := Lib.hid (And.intro hlo hhi)
            have hne : ((l1.length : Int) == 0) = false := by rw [beq_eq_false_iff_ne]; omega
            have hfw := H9.out.1.few
            clear hlo hhi
            go_wp2_with fail
            go_loopw [14] (fun iv wr => ∃ i : Nat, i ≤ l1.length ∧ iv = .int .i64 i ∧ TabAt w.heap.size wr w.heap.size 100 A5 cap5 l1 ∧ Blk wr w2.heap.size 30 #[.slice B4 l1.length c4] ∧ Held wr 47 2 B4 l1.length c4 (prs l1) ∧ Below w.heap.size w wr) (fun i _ => l1.length - (intOf i).toNat)
            case atStart => exact ⟨0, by omega, rfl, H9.out.1, H9.out.2.1, H9.out.2.2.1, H9.out.2.2.2⟩
            case round =>
              obtain ⟨i, hi, rfl, ka, bra, hIa, rba⟩ := hrel
              have HA := Lib.hid (And.intro ka (And.intro bra (And.intro hIa rba)))
              clear ka bra hIa rba
              have cra := Blk.cell HA.out.2.1 0
              simp at cra
              have hra := Blk.lt HA.out.2.1
              by_cases hil : i < l1.length
              · obtain ⟨bq, off, hB4, hbl, e0, e1⟩ := held_prs HA.out.2.2.1 hil
                have HB4 := Lib.hid hB4
                subst hB4
                have HG := Lib.hid (get_any w.heap.size w.heap.size cap5 100 l1[i].1 A5 l1 _ HA.out.1)
                have HSR := Lib.hid (fun (k : Nat) (hk : k < l1.length) (e : l1[k].1 = l1[i].1) => srt_one HA.out.1.srt hk hil e)
                have HNV := Lib.hid (fun (k : Nat) (hk : k < l1.length) (e : k = i) => show l1[k].2 = l1[i].2 by subst e; rfl)
                have HNO := Lib.hid (fun (h : ∀ (j : Nat) (hj : j < l1.length), l1[j].1 ≠ l1[i].1) => h i hil rfl)
                generalize l1[i].1 = x at *
                generalize l1[i].2 = y at *
                have hi0 : (0 : Int) ≤ i := by omega
                have hi1 : (i : Int) < l1.length := by omega
                go_wp2_with fail
                refine HG.out.mono ?_
                rintro e wg ⟨v, b, rfl, hcase, bg⟩
                have e0' := (bg.cell (p := ⟨bq, off + i * 2, none⟩) hbl).trans e0
                have e1' := (bg.cell (p := ⟨bq, off + i * 2 + 1, none⟩) hbl).trans e1
                have crg := (bg.cell (p := ⟨w2.heap.size, 0, none⟩) hra).trans cra
                have HGW := Lib.hid (And.intro (HA.out.1.below bg) (And.intro (Blk.below HA.out.2.1 bg hra) (And.intro (HA.out.2.2.1.below bg) (HA.out.2.2.2.trans (bg.mono HA.out.2.2.2.size)))))
                clear bg
                rcases hcase with ⟨rfl, k, hk, hx, hv⟩ | ⟨rfl, _, hno⟩
                · obtain rfl : v = y := by rw [← hv]; exact HNV.out k hk (HSR.out k hk hx)
                  clear hx hv e0 e1
                  go_wp2_with fail
                  go_roundw
                  case rel => exact ⟨i + 1, by omega, by go_num, HGW.out.1, HGW.out.2.1, HGW.out.2.2.1, HGW.out.2.2.2⟩
                  case measure => simp [intOf]; omega
                · exact absurd hno HNO.out
              · obtain rfl : i = l1.length := by omega
                obtain ⟨bq, off, hB4, hbl, e0, _⟩ := held_prs HA.out.2.2.1 hpos
                have hlast : l1.length - 1 < l1.length := by omega
                obtain ⟨bq', off', hB4', _, e1, _⟩ := held_prs HA.out.2.2.1 hlast
                rw [hB4] at hB4'
                injection hB4' with hB4'
                injection hB4' with hb1 hb2
                subst hb1 hb2
                rw [← HLH.out.1] at e0
                rw [← HLH.out.2] at e1
                simp only [Nat.zero_mul, Nat.add_zero] at e0
                subst hB4
                have hz0 : (0 : Int) ≤ (l1.length : Int) - 1 := by omega
                have hz1 : (l1.length : Int) - 1 < l1.length := by omega
                have hz2 : ((l1.length : Int) - 1).toNat = l1.length - 1 := by omega
                have hz3 : IntKind.i64.wrap ((l1.length : Int) - 1) = (l1.length : Int) - 1 := by rw [IntKind.wrap_i64]; omega
                have hz4 : (0 : Int) < l1.length := by omega
                have HT := Lib.hid (wos_twice l ids2)
                go_wp2_with fail
                refine (drop_low w.heap.size w.heap.size cap5 ids2.length ci 100 A5 I l1 ids2 _ (by exact HA.out.1) rfl hic (by omega) (by exact HL2.out.below HA.out.2.2.2)).mono ?_
                rintro e wd ⟨rfl, t5⟩
                have HZ := Lib.hid (HA.out.2.2.2.trans (TabTurn.below HA.out.1 t5))
                have hw6 : wos l1 ids2 = l1 := by rw [HLE.out]; exact HT.out
                rw [hw6]
                clear t5 hw6
                go_wp2_with fail
                go_ret
                exact ⟨rfl, HZ.out⟩

theorem own : ownKnob Try.prog.godebug = none := by kernel_rfl

set_option maxRecDepth 100000 in
theorem lifted (os : Os) (started : os.Started) (H : Type) (enc : TypeId × Value → H) :
    ReturnsInHanded {} Try.checked os 4 .any (Rows.tableDropsSpec.pre6 enc Try.prog Try.f4 Rows.tableDropsRow.domain false) (Rows.tableDropsSpec.post enc Try.prog Try.f4 false true false false) := by
  refine returnsInHanded_of_change (C := Try.checked) own started (by kernel_rfl) Try.func4
    (ChangeSpec.witness6 (enc := enc) (C := Try.checked) false ⟨#[], #[.slice none 0 0, .slice none 0 0], []⟩ 8 (by kernel_rfl) (by kernel_rfl) (by kernel_rfl) (by kernel_rfl)) ?_
  intro W base args ds gs before hval0 hW hcnd _
  have hval : ∀ (j : Nat) t v, Try.f4.params[j]? = some t → args[j]? = some v → Value.okWide Try.prog W .any base t v := hval0
  have hW' := hW
  obtain ⟨p, q, hA0, hV, rfl, hfz, hnd⟩ := hW
  have hA : DataW.TrodAll enc Try.prog W 0 (fun _ => true) true Try.f4.params.toList args.toList ds p := hA0
  rw [Try.params4] at hA hval
  obtain ⟨v0, vs0, d0, ds0, p0, q0, hargs, rfl, rfl, h0, r0⟩ := trodAll_cons hA
  obtain ⟨v1, vs1, d1, ds1, p1, q1, rfl, rfl, rfl, h1, r1⟩ := trodAll_cons r0
  obtain ⟨rfl, rfl, rfl⟩ := trodAll_nil r1
  obtain rfl : args = #[v0, v1] := by cases args; simp_all
  obtain ⟨rfl, rfl⟩ := trodVars_none hV
  have g0 := h0
  have g1 := h1
  obtain ⟨n0, C0, k0⟩ := open_rows Try.underlying22 (by kernel_rfl) (by decide) (three_of Try.underlying34 Try.underlying3 (by kernel_rfl) rfl rfl rfl rfl rfl rfl) (hval 0 22 v0 rfl rfl) h0
  obtain ⟨n1, C1, k1⟩ := open_rows Try.underlying37 (by kernel_rfl) (by decide) (one_of Try.underlying3) (hval 1 37 v1 rfl rfl) h1
  clear hA0 hval0
  have hlt : ∀ x ∈ (p0 ++ (p1 ++ [])), x.block < W.heap.size := fun x hx => hW'.lt x (by simpa using hx)
  refine (walk W v0 n0 C0 k0 v1 n1 C1 k1).mono fun e W' ⟨he, hb⟩ => ?_
  subst he
  refine ⟨_, rfl, post_of_below (pa := (p0 ++ (p1 ++ []))) (pv := []) hW' (fun _ _ _ => (trodAll_cons_mk (shut_bool Try.underlying4 _) trodAll_mk0)) (fun sp hsp => ?_) (fun _ _ => rfl) (by simp) hb (ok_one (by kernel_rfl) rfl (okWide_bool_mk Try.underlying4 _))⟩
  exact trodAll_cons_mk (below_trod sp (by kernel_rfl) (by kernel_rfl) (of_decide_eq_true (by kernel_rfl)) g0 hb (fun x hx => hlt x (by simp [hx])) (fun x hx => hsp x (by simp [hx])))
    (trodAll_cons_mk (below_trod sp (by kernel_rfl) (by kernel_rfl) (of_decide_eq_true (by kernel_rfl)) g1 hb (fun x hx => hlt x (by simp [hx])) (fun x hx => hsp x (by simp [hx])))
    (trodAll_mk0))

theorem over : Rows.tableDropsRow.holds Try.pinned (OpenSpec.ofChange Rows.tableDropsSpec) :=
  OpenClaim.holds_of_wide 4 Try.f4 rfl rfl rfl rfl rfl rfl rfl ⟨rfl, rfl, rfl, rfl, rfl⟩ rfl rfl rfl rfl rfl (by kernel_rfl) Try.func4 (by kernel_rfl)
    (of_decide_eq_true (by kernel_rfl)) (by unfold Func.isWrapper; rw [if_neg (by decide +kernel)]; exact ⟨rfl, rfl⟩)
    (fun os started H enc _ => lifted os started H enc)

theorem proved : Rows.TableDropsSaid := over
#print axioms proved
end Go.Proofs.Ytfdfcegomiehbaa.TableDrops
