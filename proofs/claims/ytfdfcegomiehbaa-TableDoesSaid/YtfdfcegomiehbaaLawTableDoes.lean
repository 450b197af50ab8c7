/- Proved: TableDoes answers true for every input, and leaves its arguments as they were; no condition. -/
import Derived.Test.YtfdfcegomiehbaaRows
import Derived.Test.YtfdfcegomiehbaaMem
import Derived.Test.YtfdfcegomiehbaaLift
import Derived.Test.YtfdfcegomiehbaaTableDo3
import Derived.WalkKit
import Derived.ProofKit
import Derived.OpenShut
import Derived.Handy
import Derived.Deep.QuietTactic
import Derived.BigQuiet
import Derived.Deep.RegionWith
import Derived.WalkLawsBesides
import Derived.Deep.RegionHeld3
namespace Go.Proofs.Ytfdfcegomiehbaa.TableDoes
open Go.ChangeShapes Go.WideShapes Go.ChangeAt Go.RowKit Go.Deep
set_option linter.unusedVariables false

set_option maxRecDepth 100000 in
set_option maxHeartbeats 8000000 in
theorem walk (w : World) (a0 : Int) (w0 : (Lit.int .i64 a0).wf = true) (v1 : Value) (n : Nat) (C : Nat → List Value) (h1 : RowsAt w v1 n 3 Three C) :
    Calls Try.prog 3 #[.int .i64 a0, v1] w fun e w' => e = .returned (.bool true) ∧ Below w.heap.size w w' := by
  obtain ⟨A1, cap, rfl, hnc, hcap, hcells⟩ := h1
  have HC := Lib.hid hcells
  clear hcells
  obtain ⟨b1, b2⟩ := bounds_i64 w0
  clear w0
  by_cases hr : a0 < 1 ∨ 1024 < a0
  · have HN := Lib.hid (fun W => new_no a0 W hr)
    rcases hr with hr | hr
    all_goals
      (go_enter Try.func3, Try.ntmps3
       go_wp2_with fail
       refine (HN.out _).mono ?_
       rintro e w1 ⟨rfl, rfl⟩
       go_wp2_with fail
       refine (awake_any _).mono ?_
       rintro e w2 ⟨rfl, hb2⟩
       go_wp2_with fail
       go_ret
       exact ⟨rfl, hb2⟩)
  · have hr1 : 1 ≤ a0 := by omega
    have hr2 : a0 ≤ 1024 := by omega
    clear hr b1 b2
    go_enter Try.func3, Try.ntmps3
    go_wp2_with fail
    refine (new_ok a0 w hr1 hr2).mono ?_
    rintro e w1 ⟨rfl, k1, bb1⟩
    have K1 := k1 w.heap.size (Nat.le_refl _)
    have hs1 := bb1.size
    have H1 := Lib.hid (And.intro K1 bb1)
    have hg1 := K1.lt
    clear k1 bb1 K1
    go_wp2_with fail
    have H1a : Hid (TabAt w.heap.size (w1.alloc (.cells #[.slice none 0 0] 30)) w.heap.size a0 none 0 [] ∧ Blk (w1.alloc (.cells #[.slice none 0 0] 30)) w1.heap.size 30 #[.slice none 0 0] ∧ Below w.heap.size w (w1.alloc (.cells #[.slice none 0 0] 30))) := ⟨H1.out.1.alloc _, Blk.new _ _ _, H1.out.2.alloc hs1 _⟩
    refine (awake_any _).mono ?_
    rintro e w2 ⟨rfl, bb2⟩
    have H2 := Lib.hid (And.intro (H1a.out.1.below bb2) (And.intro (Blk.below H1a.out.2.1 bb2 (by simp)) (H1a.out.2.2.trans (bb2.mono H1a.out.2.2.size))))
    clear bb2
    have hrg : w.heap.size ≠ w1.heap.size := by omega
    go_wp2_with fail
    go_loopw [8] (fun iv wr => ∃ (m cap c : Nat) (A B : Option Addr) (l : List (Int × Int)), m ≤ 100 ∧ iv = .int .i64 m ∧ TabAt w.heap.size wr w.heap.size a0 A cap l ∧ Blk wr w1.heap.size 30 #[.slice B l.length c] ∧ Held wr 47 2 B l.length c (prs l) ∧ Below w.heap.size w wr) (fun i _ => 100 - (intOf i).toNat)
    case atStart => exact ⟨0, 0, 0, none, none, [], by omega, rfl, H2.out.1, H2.out.2.1, Held.nil_ _ _ _, H2.out.2.2⟩
    case round =>
      obtain ⟨m, cap1, c, A, B, l, hm, rfl, k, br, hI, rb⟩ := hrel
      have HK := Lib.hid (And.intro k (And.intro br (And.intro hI rb)))
      have hfew := k.few
      have hcc := hI.2.1
      clear k br hI rb
      by_cases hgo : m < n ∧ m < 100
      · obtain ⟨hlt, hlt2⟩ := hgo
        obtain ⟨bq, off, kd, y, z, rfl, hbl, _, c0, c1, c2, h0', h1', h2'⟩ := RowsAt.three HC.out hlt
        rw [← HK.out.2.2.2.cell (p := ⟨bq, off + m * 3, none⟩) hbl] at c0
        rw [← HK.out.2.2.2.cell (p := ⟨bq, off + m * 3 + 1, none⟩) hbl] at c1
        rw [← HK.out.2.2.2.cell (p := ⟨bq, off + m * 3 + 2, none⟩) hbl] at c2
        have cr := Blk.cell HK.out.2.1 0
        simp at cr
        have HD := Lib.hid (fun (V : World) (kV : TabAt w.heap.size V w.heap.size a0 A cap1 l) (hV : Held V 47 2 B l.length c (prs l)) => do_any w.heap.size w.heap.size cap1 c a0 A B l kd y z V kV hV (by omega))
        have hm0 : (0 : Int) ≤ m := by omega
        have hm1 : (m : Int) < n := by omega
        have hg9 := HK.out.1.lt
        have hr9 := Blk.lt HK.out.2.1
        go_wp2_with fail
        refine wp_region_ord (fun w' => w'.cell? ⟨bq, off + m * 3, none⟩ = some (.int .i64 kd) ∧ w'.cell? ⟨bq, off + m * 3 + 1, none⟩ = some (.int .i64 y) ∧ w'.cell? ⟨bq, off + m * 3 + 2, none⟩ = some (.int .i64 z)) 12 [(true, 0), (true, 2), (true, 3), (true, 4), (true, 5), (true, 6), (false, 1), (false, 7), (true, 8), (true, 9), (true, 10), (false, 11)] default (by kernel_rfl) (by kernel_rfl) (fun d _ _ _ _ h => by cases d <;> exact h) ?_ ?_
        · exact ⟨c0, c1, c2⟩
        simp only [List.map_cons, List.map_nil, List.getD_cons_succ, List.getD_cons_zero]
        repeat
          (refine heldL_take ?_ ?_ ?_
           rotate_left
           · intro w' hw'
             try dsimp only at hw'
             go_simp
             try with_reducible rfl
           try simp only [Act.put, List.setIfInBounds_toArray, List.set_cons_zero, List.set_cons_succ])
        refine heldL_move (fun K hK => ?_)
        go_simp
        refine hK.out _ _ ⟨c0, c1, c2⟩ (fun hS => ?_)
        clear hK K hS
        try simp only [Act.put, List.setIfInBounds_toArray, List.set_cons_zero, List.set_cons_succ]
        refine heldL_move (fun K hK => ?_)
        go_simp
        refine (HD.out _ (by exact HK.out.1.drewN 1) (by exact HK.out.2.2.1)).mono ?_
        rintro e w3 ⟨l', A', cap', B', c', rfl, k3, h3, b3', st3⟩
        have br3 := st3 _ _ _ (by exact HK.out.2.1) (by decide) (by decide)
        have hlr : w1.heap.size < w3.heap.size := Blk.lt br3
        have y0 := (b3'.cell (p := ⟨bq, off + m * 3, none⟩) hbl).trans (by exact c0)
        have y1 := (b3'.cell (p := ⟨bq, off + m * 3 + 1, none⟩) hbl).trans (by exact c1)
        have y2 := (b3'.cell (p := ⟨bq, off + m * 3 + 2, none⟩) hbl).trans (by exact c2)
        have cr3 := Blk.cell br3 0
        have fr3 := Blk.frozen br3 0
        simp at cr3
        have BW3 : Below w.heap.size w w3 := (below_drewN HK.out.2.2.2 1).trans b3'
        have H3 := Lib.hid (And.intro k3 (And.intro h3 (And.intro br3 BW3)))
        refine hK.out _ _ ⟨y0, y1, y2⟩ (fun hS => ?_)
        clear hK K hS k3 h3 b3' st3 br3 BW3
        try simp only [Act.put, List.setIfInBounds_toArray, List.set_cons_zero, List.set_cons_succ]
        repeat
          (refine heldL_take ?_ ?_ ?_
           rotate_left
           · intro w' hw'
             try dsimp only at hw'
             go_simp
             try with_reducible rfl
           try simp only [Act.put, List.setIfInBounds_toArray, List.set_cons_zero, List.set_cons_succ])
        refine heldL_move (fun K hK => ?_)
        go_simp
        refine hK.out _ _ ⟨?_, ?_, ?_⟩ (fun hS => ?_)
        · exact (World.cell?_setCell_other _ _ _ _ (fun e => by injection e with e1; omega)).trans y0
        · exact (World.cell?_setCell_other _ _ _ _ (fun e => by injection e with e1; omega)).trans y1
        · exact (World.cell?_setCell_other _ _ _ _ (fun e => by injection e with e1; omega)).trans y2
        clear hK K hS
        try simp only [Act.put, List.setIfInBounds_toArray, List.set_cons_zero, List.set_cons_succ]
        refine heldL_last (fun K hK => ?_)
        go_simp
        refine hK _ _ ?_
        clear hK K
        try simp only [Act.put, List.setIfInBounds_toArray, List.set_cons_zero, List.set_cons_succ]
        have br4 := Blk.set_ H3.out.2.2.1 0 (.slice B' l'.length c')
        simp at br4
        have H4 : Hid (TabAt w.heap.size (w3.setCell ⟨w1.heap.size, 0, none⟩ (.slice B' l'.length c')) w.heap.size a0 A' cap' l' ∧ Held (w3.setCell ⟨w1.heap.size, 0, none⟩ (.slice B' l'.length c')) 47 2 B' l'.length c' (prs l') ∧ Blk (w3.setCell ⟨w1.heap.size, 0, none⟩ (.slice B' l'.length c')) w1.heap.size 30 #[.slice B' l'.length c'] ∧ Below w.heap.size w (w3.setCell ⟨w1.heap.size, 0, none⟩ (.slice B' l'.length c'))) :=
          ⟨H3.out.1.only1 H3.out.2.2.1 (by decide) (by decide) _, H3.out.2.1.setCell (p := ⟨w1.heap.size, 0, none⟩) (by exact H3.out.2.2.1) (by decide) _, br4, H3.out.2.2.2.setCell (by simp; omega) _⟩
        clear br4 y0 y1 y2 cr3 fr3 cr c0 c1 c2
        generalize w3.setCell ⟨w1.heap.size, 0, none⟩ (.slice B' l'.length c') = w4 at *
        have cr4 := Blk.cell H4.out.2.2.1 0
        simp at cr4
        have hf4 := H4.out.1.few
        have hr4 := Blk.lt H4.out.2.2.1
        go_wp2_with fail
        go_region_held3 (fun w' => w'.cell? ⟨w1.heap.size, 0, none⟩ = some (.slice B' l'.length c'))
          (first
            | go_keep
            | with_reducible assumption)
          ((first
            | (go_at_call 9
               refine (len_any w.heap.size w.heap.size cap' a0 A' l' _ (by exact H4.out.1.drewN 1)).mono ?_
               rintro e w5 ⟨rfl, rfl⟩)
            | (go_at_call 11
               refine (ids_any w.heap.size w.heap.size cap' a0 A' l' _ (by exact H4.out.1.drewN 1)).mono ?_
               rintro e w6 ⟨A6, c6, rfl, h6, b6'⟩
               have b6 : Below w4.heap.size w4 w6 := ⟨b6'.os, b6'.tape, b6'.output, b6'.size, b6'.block⟩
               have cr6 := (b6.cell (p := ⟨w1.heap.size, 0, none⟩) hr4).trans cr4
               have H6 := Lib.hid (And.intro h6 (And.intro (H4.out.2.1.below b6) b6))
               clear h6 b6 b6')
            | (go_at_call 12
               refine (rids_any B' l'.length c' l' _ rfl (by omega) (by exact H6.out.2.1)).mono ?_
               rintro e w7 ⟨A7, c7, rfl, h7, b7'⟩
               have b7 : Below w6.heap.size w6 w7 := ⟨b7'.os, b7'.tape, b7'.output, b7'.size, b7'.block⟩
               have cr7 := (b7.cell (p := ⟨w1.heap.size, 0, none⟩) (Nat.lt_of_lt_of_le hr4 H6.out.2.2.size)).trans cr6
               have H7 := Lib.hid (And.intro h7 (And.intro (H6.out.1.below b7) b7))
               clear h7 b7 b7')
            | (go_at_call 10
               refine (ints_eq _ _ _ _ _ _ (l'.map (·.1)) _ (by simp) (by simp) (by exact H7.out.2.1) (by exact H7.out.1) (by simp; omega)).mono ?_
               rintro e w8 ⟨rfl, q8, rfl⟩)))
        go_wp2_with fail
        go_roundw
        have b9 : Below w4.heap.size w4 (w7.drewN q8) := below_drewN (H6.out.2.2.trans (H7.out.2.2.mono H6.out.2.2.size)) q8
        case rel => exact ⟨m + 1, cap', c', A', B', l', by omega, by go_num, H4.out.1.below b9, Blk.below H4.out.2.2.1 b9 hr4, H4.out.2.1.below b9, H4.out.2.2.2.trans (b9.mono H4.out.2.2.2.size)⟩
        case measure => simp [intOf]; omega
      · have hend : ¬ m < n ∨ (m < n ∧ ¬ m < 100) := by omega
        clear hgo
        rcases hend with hend | ⟨hend, hend2⟩
        all_goals
          (go_wp2_with fail
           go_ret
           exact ⟨rfl, HK.out.2.2.2⟩)

theorem own : ownKnob Try.prog.godebug = none := by kernel_rfl

set_option maxRecDepth 100000 in
theorem lifted (os : Os) (started : os.Started) (H : Type) (enc : TypeId × Value → H) :
    ReturnsInHanded {} Try.checked os 3 .any (Rows.tableDoesSpec.pre6 enc Try.prog Try.f3 Rows.tableDoesRow.domain false) (Rows.tableDoesSpec.post enc Try.prog Try.f3 false true false false) := by
  refine returnsInHanded_of_change (C := Try.checked) own started (by kernel_rfl) Try.func3
    (ChangeSpec.witness6 (enc := enc) (C := Try.checked) false ⟨#[], #[.int .i64 0, .slice none 0 0], []⟩ 8 (by kernel_rfl) (by kernel_rfl) (by kernel_rfl) (by kernel_rfl)) ?_
  intro W base args ds gs before hval0 hW hcnd _
  have hval : ∀ (j : Nat) t v, Try.f3.params[j]? = some t → args[j]? = some v → Value.okWide Try.prog W .any base t v := hval0
  have hW' := hW
  obtain ⟨p, q, hA0, hV, rfl, hfz, hnd⟩ := hW
  have hA : DataW.TrodAll enc Try.prog W 0 (fun _ => true) true Try.f3.params.toList args.toList ds p := hA0
  rw [Try.params3] at hA hval
  obtain ⟨v0, vs0, d0, ds0, p0, q0, hargs, rfl, rfl, h0, r0⟩ := trodAll_cons hA
  obtain ⟨v1, vs1, d1, ds1, p1, q1, rfl, rfl, rfl, h1, r1⟩ := trodAll_cons r0
  obtain ⟨rfl, rfl, rfl⟩ := trodAll_nil r1
  obtain rfl : args = #[v0, v1] := by cases args; simp_all
  obtain ⟨rfl, rfl⟩ := trodVars_none hV
  have g0 := h0
  have g1 := h1
  obtain ⟨a0, rfl, _, _, w0⟩ := open_int Try.underlying3 (hval 0 3 v0 rfl rfl) h0
  obtain ⟨n1, C1, k1⟩ := open_rows Try.underlying22 (by kernel_rfl) (by decide) (three_of Try.underlying34 Try.underlying3 (by kernel_rfl) rfl rfl rfl rfl rfl rfl) (hval 1 22 v1 rfl rfl) h1
  clear hA0 hval0
  have hlt : ∀ x ∈ (p0 ++ (p1 ++ [])), x.block < W.heap.size := fun x hx => hW'.lt x (by simpa using hx)
  refine (walk W a0 w0 v1 n1 C1 k1).mono fun e W' ⟨he, hb⟩ => ?_
  subst he
  refine ⟨_, rfl, post_of_below (pa := (p0 ++ (p1 ++ []))) (pv := []) hW' (fun _ _ _ => (trodAll_cons_mk (shut_bool Try.underlying4 _) trodAll_mk0)) (fun sp hsp => ?_) (fun _ _ => rfl) (by simp) hb (ok_one (by kernel_rfl) rfl (okWide_bool_mk Try.underlying4 _))⟩
  exact trodAll_cons_mk (below_trod sp (by kernel_rfl) (by kernel_rfl) (of_decide_eq_true (by kernel_rfl)) g0 hb (fun x hx => hlt x (by simp [hx])) (fun x hx => hsp x (by simp [hx])))
    (trodAll_cons_mk (below_trod sp (by kernel_rfl) (by kernel_rfl) (of_decide_eq_true (by kernel_rfl)) g1 hb (fun x hx => hlt x (by simp [hx])) (fun x hx => hsp x (by simp [hx])))
    (trodAll_mk0))

theorem over : Rows.tableDoesRow.holds Try.pinned (OpenSpec.ofChange Rows.tableDoesSpec) :=
  OpenClaim.holds_of_wide 3 Try.f3 rfl rfl rfl rfl rfl rfl rfl ⟨rfl, rfl, rfl, rfl, rfl⟩ rfl rfl rfl rfl rfl (by kernel_rfl) Try.func3 (by kernel_rfl)
    (of_decide_eq_true (by kernel_rfl)) (by unfold Func.isWrapper; rw [if_neg (by decide +kernel)]; exact ⟨rfl, rfl⟩)
    (fun os started H enc _ => lifted os started H enc)

theorem proved : Rows.TableDoesSaid := over
#print axioms proved
end Go.Proofs.Ytfdfcegomiehbaa.TableDoes
