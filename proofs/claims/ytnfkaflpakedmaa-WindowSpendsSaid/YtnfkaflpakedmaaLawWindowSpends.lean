/- Proved: WindowSpends answers true for every input, and leaves its arguments as they were; no condition. -/
import Derived.Test.YtnfkaflpakedmaaRows
import Derived.Test.YtnfkaflpakedmaaMem
import Derived.Test.YtnfkaflpakedmaaLift
import Derived.Test.YtnfkaflpakedmaaWindow
import Derived.WalkKit
import Derived.ProofKit
import Derived.OpenShut
import Derived.Handy
import Derived.Deep.QuietTactic
import Derived.BigQuiet
import Derived.Deep.RegionWith
import Derived.WalkLawsBesides
namespace Go.Proofs.Ytnfkaflpakedmaa.WindowSpends
open Go.ChangeShapes Go.WideShapes Go.ChangeAt Go.RowKit Go.Deep
set_option linter.unusedVariables false

set_option maxRecDepth 100000 in
set_option maxHeartbeats 8000000 in
theorem walk (w : World) (a0 : Int) (w0 : (Lit.int .u32 a0).wf = true) (v1 : Value) (n : Nat) (C : Nat → List Value) (h1 : RowsAt w v1 n 3 Three C) :
    Calls Try.prog 4 #[.int .u32 a0, v1] w fun e w' => e = .returned (.bool true) ∧ Below w.heap.size w w' := by
  obtain ⟨A, cap, rfl, hnc, hcap, hcells⟩ := h1
  have HC := Lib.hid hcells
  clear hcells
  obtain ⟨b1, b2⟩ := bounds_u32 w0
  clear w0
  have hq1 : 0 ≤ a0 % 2147483648 := by omega
  have hq2 : a0 % 2147483648 < 2147483648 := by omega
  go_enter Try.func4, Try.ntmps4
  go_wp2_with fail
  refine (new_yes _ _ (by omega) (by omega)).mono ?_
  rintro e w1 ⟨rfl, d1, hb1⟩
  go_wp2_with fail
  go_loopw [8, 9, 10] (fun gv sv iv wr => ∃ (k : Nat) (G S : Int), k ≤ 100 ∧ iv = .int .i64 k ∧ gv = .int .i64 G ∧ sv = .int .i64 S ∧ -2147483647 ≤ G - S ∧ G - S ≤ 2147483647 ∧ 0 ≤ S ∧ S ≤ k * 2147483647 ∧ -(k * 2147483647) ≤ G ∧ G ≤ (k + 1) * 2147483647 ∧ Win wr w.heap.size (G - S) ∧ Below w.heap.size w wr) (fun _ _ i _ => 100 - (intOf i).toNat)
  case atStart => exact ⟨0, a0 % 2147483648, 0, by omega, rfl, rfl, rfl, by omega, by omega, by omega, by omega, by omega, by omega, by rw [Int.sub_zero]; exact d1, hb1⟩
  case round =>
    obtain ⟨k, G, S, hk, rfl, rfl, rfl, hm0, hm1, hs0, hs1, hg0, hg1, dr, hbr⟩ := hrel
    by_cases hlt : k < n
    · by_cases hlt2 : k < 100
      · obtain ⟨b, off, kd, x, y, rfl, hbl, _, c0, c1, c2, _, ⟨x1, x2⟩, ⟨y1, y2⟩⟩ := RowsAt.three HC.out hlt
        rw [← hbr.cell (p := ⟨b, off + k * 3, none⟩) hbl] at c0
        rw [← hbr.cell (p := ⟨b, off + k * 3 + 1, none⟩) hbl] at c1
        rw [← hbr.cell (p := ⟨b, off + k * 3 + 2, none⟩) hbl] at c2
        by_cases k0 : kd = 0
        · subst k0
          by_cases h1 : x < 1 ∨ 2147483647 < x
          · have hP := fun W => grow_arg w.heap.size x W h1
            have HP := Lib.hid hP
            clear hP h1
            go_wp2_with fail
            refine (HP.out _).mono ?_
            rintro e w2 ⟨rfl, rfl⟩
            go_wp2_with fail
            refine (size_any _ (G - S) _ (Blk.alloc dr _)).mono ?_
            rintro e wl ⟨rfl, rfl⟩
            go_wp2_with fail
            go_roundw
            case rel => exact ⟨k + 1, G, S, by omega, by go_num, rfl, rfl, by omega, by omega, by omega, by omega, by omega, by omega, Blk.alloc dr _, hbr.alloc hbr.size _⟩
            case measure => simp [intOf]; omega
          · have h2 : 1 ≤ x := by omega
            have h3 : x ≤ 2147483647 := by omega
            clear h1
            by_cases h4 : G - S + x ≤ 2147483647
            · go_wp2_with fail
              refine (grow_yes _ (G - S) x _ (Blk.alloc dr _) hm0 hm1 h2 h3 h4).mono ?_
              rintro e w2 ⟨rfl, d2, o2⟩
              rw [show G - S + x = G + x - S by omega] at d2
              have hb2 : Below w.heap.size w w2 := bonly (hbr.alloc hbr.size _) o2 (by simp)
              have cN := (o2.block wr.heap.size (by simp) (by have := Blk.lt dr; simp; omega)).trans (heap_alloc_new wr _)
              have c4 : w2.cell? ⟨wr.heap.size, 1, none⟩ = some (.int .i64 x) := by simp [World.cell?, cN]
              have c5 : w2.cell? ⟨wr.heap.size, 2, none⟩ = some (.int .i64 y) := by simp [World.cell?, cN]
              clear cN
              go_wp2_with fail
              refine (size_any _ (G + x - S) _ (d2)).mono ?_
              rintro e wl ⟨rfl, rfl⟩
              go_wp2_with fail
              go_roundw
              case rel => exact ⟨k + 1, G + x, S, by omega, by go_num, rfl, rfl, by omega, by omega, by omega, by omega, by omega, by omega, d2, hb2⟩
              case measure => simp [intOf]; omega
            · go_wp2_with fail
              refine (grow_over _ (G - S) x _ (Blk.alloc dr _) hm0 hm1 h2 h3 (by omega)).mono ?_
              rintro e w2 ⟨rfl, rfl⟩
              go_wp2_with fail
              refine (size_any _ (G - S) _ (Blk.alloc dr _)).mono ?_
              rintro e wl ⟨rfl, rfl⟩
              go_wp2_with fail
              go_roundw
              case rel => exact ⟨k + 1, G, S, by omega, by go_num, rfl, rfl, by omega, by omega, by omega, by omega, by omega, by omega, Blk.alloc dr _, hbr.alloc hbr.size _⟩
              case measure => simp [intOf]; omega
        · by_cases k1 : kd = 1
          · subst k1
            by_cases h1 : x < 1 ∨ 2147483647 < x
            · have hP := fun W => grow_arg w.heap.size x W h1
              have HP := Lib.hid hP
              clear hP h1
              go_wp2_with fail
              refine (HP.out _).mono ?_
              rintro e w2 ⟨rfl, rfl⟩
              go_wp2_with fail
              refine (size_any _ (G - S) _ (Blk.alloc dr _)).mono ?_
              rintro e wl ⟨rfl, rfl⟩
              go_wp2_with fail
              go_roundw
              case rel => exact ⟨k + 1, G, S, by omega, by go_num, rfl, rfl, by omega, by omega, by omega, by omega, by omega, by omega, Blk.alloc dr _, hbr.alloc hbr.size _⟩
              case measure => simp [intOf]; omega
            · have h2 : 1 ≤ x := by omega
              have h3 : x ≤ 2147483647 := by omega
              clear h1
              by_cases h4 : G - S + x ≤ 2147483647
              · go_wp2_with fail
                refine (grow_yes _ (G - S) x _ (Blk.alloc dr _) hm0 hm1 h2 h3 h4).mono ?_
                rintro e w2 ⟨rfl, d2, o2⟩
                rw [show G - S + x = G + x - S by omega] at d2
                have hb2 : Below w.heap.size w w2 := bonly (hbr.alloc hbr.size _) o2 (by simp)
                have cN := (o2.block wr.heap.size (by simp) (by have := Blk.lt dr; simp; omega)).trans (heap_alloc_new wr _)
                have c4 : w2.cell? ⟨wr.heap.size, 1, none⟩ = some (.int .i64 x) := by simp [World.cell?, cN]
                have c5 : w2.cell? ⟨wr.heap.size, 2, none⟩ = some (.int .i64 y) := by simp [World.cell?, cN]
                clear cN
                go_wp2_with fail
                refine (size_any _ (G + x - S) _ (d2)).mono ?_
                rintro e wl ⟨rfl, rfl⟩
                go_wp2_with fail
                go_roundw
                case rel => exact ⟨k + 1, G + x, S, by omega, by go_num, rfl, rfl, by omega, by omega, by omega, by omega, by omega, by omega, d2, hb2⟩
                case measure => simp [intOf]; omega
              · go_wp2_with fail
                refine (grow_over _ (G - S) x _ (Blk.alloc dr _) hm0 hm1 h2 h3 (by omega)).mono ?_
                rintro e w2 ⟨rfl, rfl⟩
                go_wp2_with fail
                refine (size_any _ (G - S) _ (Blk.alloc dr _)).mono ?_
                rintro e wl ⟨rfl, rfl⟩
                go_wp2_with fail
                go_roundw
                case rel => exact ⟨k + 1, G, S, by omega, by go_num, rfl, rfl, by omega, by omega, by omega, by omega, by omega, by omega, Blk.alloc dr _, hbr.alloc hbr.size _⟩
                case measure => simp [intOf]; omega
          · by_cases k4 : kd = 4
            · subst k4
              by_cases h1 : x < 0 ∨ 2147483647 < x ∨ y < 0 ∨ 2147483647 < y
              · have hP := fun W => resize_arg w.heap.size x y W h1
                have HP := Lib.hid hP
                clear hP h1
                go_wp2_with fail
                refine (HP.out _).mono ?_
                rintro e w2 ⟨rfl, rfl⟩
                go_wp2_with fail
                refine (size_any _ (G - S) _ (Blk.alloc dr _)).mono ?_
                rintro e wl ⟨rfl, rfl⟩
                go_wp2_with fail
                go_roundw
                case rel => exact ⟨k + 1, G, S, by omega, by go_num, rfl, rfl, by omega, by omega, by omega, by omega, by omega, by omega, Blk.alloc dr _, hbr.alloc hbr.size _⟩
                case measure => simp [intOf]; omega
              · have a1 : 0 ≤ x := by omega
                have a2 : x ≤ 2147483647 := by omega
                have b1 : 0 ≤ y := by omega
                have b2 : y ≤ 2147483647 := by omega
                clear h1
                by_cases h2 : G - S + (y - x) < -2147483647 ∨ 2147483647 < G - S + (y - x)
                · have hP := fun W hW => resize_over w.heap.size (G - S) x y W hW hm0 hm1 a1 a2 b1 b2 h2
                  have HP := Lib.hid hP
                  clear hP h2
                  go_wp2_with fail
                  refine (HP.out _ (Blk.alloc dr _)).mono ?_
                  rintro e w2 ⟨rfl, rfl⟩
                  go_wp2_with fail
                  refine (size_any _ (G - S) _ (Blk.alloc dr _)).mono ?_
                  rintro e wl ⟨rfl, rfl⟩
                  go_wp2_with fail
                  go_roundw
                  case rel => exact ⟨k + 1, G, S, by omega, by go_num, rfl, rfl, by omega, by omega, by omega, by omega, by omega, by omega, Blk.alloc dr _, hbr.alloc hbr.size _⟩
                  case measure => simp [intOf]; omega
                · have h3 : -2147483647 ≤ G - S + (y - x) := by omega
                  have h4 : G - S + (y - x) ≤ 2147483647 := by omega
                  clear h2
                  go_wp2_with fail
                  refine (resize_yes _ (G - S) x y _ (Blk.alloc dr _) hm0 hm1 a1 a2 b1 b2 h3 h4).mono ?_
                  rintro e w2 ⟨rfl, d2, o2⟩
                  rw [show G - S + (y - x) = G + (y - x) - S by omega] at d2
                  have hb2 : Below w.heap.size w w2 := bonly (hbr.alloc hbr.size _) o2 (by simp)
                  have cN := (o2.block wr.heap.size (by simp) (by have := Blk.lt dr; simp; omega)).trans (heap_alloc_new wr _)
                  have c4 : w2.cell? ⟨wr.heap.size, 1, none⟩ = some (.int .i64 x) := by simp [World.cell?, cN]
                  have c5 : w2.cell? ⟨wr.heap.size, 2, none⟩ = some (.int .i64 y) := by simp [World.cell?, cN]
                  clear cN
                  go_wp2_with fail
                  refine (size_any _ (G + (y - x) - S) _ (d2)).mono ?_
                  rintro e wl ⟨rfl, rfl⟩
                  go_wp2_with fail
                  go_roundw
                  case rel => exact ⟨k + 1, G + (y - x), S, by omega, by go_num, rfl, rfl, by omega, by omega, by omega, by omega, by omega, by omega, d2, hb2⟩
                  case measure => simp [intOf]; omega
            · have e0 : (kd == 0) = false := by simp [k0]
              have e1 : (kd == 1) = false := by simp [k1]
              have e4 : (kd == 4) = false := by simp [k4]
              clear k0 k1 k4
              by_cases h1 : x < 0
              · go_wp2_with fail
                refine (spend_arg _ x _ h1).mono ?_
                rintro e w2 ⟨rfl, rfl⟩
                go_wp2_with fail
                refine (size_any _ (G - S) _ (Blk.alloc dr _)).mono ?_
                rintro e wl ⟨rfl, rfl⟩
                go_wp2_with fail
                go_roundw
                case rel => exact ⟨k + 1, G, S, by omega, by go_num, rfl, rfl, by omega, by omega, by omega, by omega, by omega, by omega, Blk.alloc dr _, hbr.alloc hbr.size _⟩
                case measure => simp [intOf]; omega
              · have h2 : 0 ≤ x := by omega
                clear h1
                by_cases h3 : x ≤ max (G - S) 0
                · have hP := fun W hW => spend_yes w.heap.size (G - S) x W hW hm0 hm1 h2 h3
                  have HP := Lib.hid hP
                  clear hP
                  by_cases h4 : 0 < x
                  · have h5 : x ≤ G - S := by omega
                    clear h3
                    go_wp2_with fail
                    refine (HP.out _ (Blk.alloc dr _)).mono ?_
                    rintro e w2 ⟨rfl, d2, o2⟩
                    rw [show G - S - x = G - (S + x) by omega] at d2
                    have hb2 : Below w.heap.size w w2 := bonly (hbr.alloc hbr.size _) o2 (by simp)
                    have cN := (o2.block wr.heap.size (by simp) (by have := Blk.lt dr; simp; omega)).trans (heap_alloc_new wr _)
                    have c4 : w2.cell? ⟨wr.heap.size, 1, none⟩ = some (.int .i64 x) := by simp [World.cell?, cN]
                    have c5 : w2.cell? ⟨wr.heap.size, 2, none⟩ = some (.int .i64 y) := by simp [World.cell?, cN]
                    clear cN
                    go_wp2_with fail
                    refine (size_any _ (G - (S + x)) _ (d2)).mono ?_
                    rintro e wl ⟨rfl, rfl⟩
                    go_wp2_with fail
                    go_roundw
                    case rel => exact ⟨k + 1, G, S + x, by omega, by go_num, rfl, rfl, by omega, by omega, by omega, by omega, by omega, by omega, d2, hb2⟩
                    case measure => simp [intOf]; omega
                  · obtain rfl : x = 0 := by omega
                    clear h3
                    go_wp2_with fail
                    refine (HP.out _ (Blk.alloc dr _)).mono ?_
                    rintro e w2 ⟨rfl, d2, o2⟩
                    simp only [Int.sub_zero] at d2
                    have hb2 : Below w.heap.size w w2 := bonly (hbr.alloc hbr.size _) o2 (by simp)
                    have cN := (o2.block wr.heap.size (by simp) (by have := Blk.lt dr; simp; omega)).trans (heap_alloc_new wr _)
                    have c4 : w2.cell? ⟨wr.heap.size, 1, none⟩ = some (.int .i64 0) := by simp [World.cell?, cN]
                    have c5 : w2.cell? ⟨wr.heap.size, 2, none⟩ = some (.int .i64 y) := by simp [World.cell?, cN]
                    clear cN
                    go_wp2_with fail
                    refine (size_any _ (G - S) _ (d2)).mono ?_
                    rintro e wl ⟨rfl, rfl⟩
                    go_wp2_with fail
                    go_roundw
                    case rel => exact ⟨k + 1, G, S, by omega, by go_num, rfl, rfl, by omega, by omega, by omega, by omega, by omega, by omega, d2, hb2⟩
                    case measure => simp [intOf]; omega
                · have h4 : max (G - S) 0 < x := by omega
                  have hP := fun W hW => spend_full w.heap.size (G - S) x W hW h2 h4
                  have HP := Lib.hid hP
                  clear hP h3 h4
                  go_wp2_with fail
                  refine (HP.out _ (Blk.alloc dr _)).mono ?_
                  rintro e w2 ⟨rfl, rfl⟩
                  go_wp2_with fail
                  refine (size_any _ (G - S) _ (Blk.alloc dr _)).mono ?_
                  rintro e wl ⟨rfl, rfl⟩
                  go_wp2_with fail
                  go_roundw
                  case rel => exact ⟨k + 1, G, S, by omega, by go_num, rfl, rfl, by omega, by omega, by omega, by omega, by omega, by omega, Blk.alloc dr _, hbr.alloc hbr.size _⟩
                  case measure => simp [intOf]; omega
      · go_wp2_with fail
        refine (awake_any _).mono ?_
        rintro e w2 ⟨rfl, hb2⟩
        go_wp2_with fail
        go_ret
        exact ⟨rfl, hbr.trans (hb2.mono hbr.size)⟩
    · go_wp2_with fail
      refine (awake_any _).mono ?_
      rintro e w2 ⟨rfl, hb2⟩
      go_wp2_with fail
      go_ret
      exact ⟨rfl, hbr.trans (hb2.mono hbr.size)⟩

theorem own : ownKnob Try.prog.godebug = none := by kernel_rfl

set_option maxRecDepth 100000 in
theorem lifted (os : Os) (started : os.Started) (H : Type) (enc : TypeId × Value → H) :
    ReturnsInHanded {} Try.checked os 4 .any (Rows.windowSpendsSpec.pre6 enc Try.prog Try.f4 Rows.windowSpendsRow.domain false) (Rows.windowSpendsSpec.post enc Try.prog Try.f4 false true false false) := by
  refine returnsInHanded_of_change (C := Try.checked) own started (by kernel_rfl) Try.func4
    (ChangeSpec.witness6 (enc := enc) (C := Try.checked) false ⟨#[], #[.int .u32 0, .slice none 0 0], []⟩ 8 (by kernel_rfl) (by kernel_rfl) (by kernel_rfl) (by kernel_rfl)) ?_
  intro W base args ds gs before hval0 hW hcnd _
  have hval : ∀ (j : Nat) t v, Try.f4.params[j]? = some t → args[j]? = some v → Value.okWide Try.prog W .any base t v := hval0
  have hW' := hW
  obtain ⟨p, q, hA0, hV, rfl, hfz, hnd⟩ := hW
  have hA : DataW.TrodAll enc Try.prog W 0 (fun _ => true) true Try.f4.params.toList args.toList ds p := hA0
  rw [Try.params4] at hA hval
  obtain ⟨v0, vs0, d0, ds0, p0, q0, hargs, rfl, rfl, h0, r0⟩ := trodAll_cons hA
  obtain ⟨v1, vs1, d1, ds1, p1, q1, rfl, rfl, rfl, h1, r1⟩ := trodAll_cons r0
  obtain ⟨rfl, rfl, rfl⟩ := trodAll_nil r1
  obtain rfl : args = #[v0, v1] := by cases args; simp_all
  obtain ⟨rfl, rfl⟩ := trodVars_none hV
  have g0 := h0
  have g1 := h1
  obtain ⟨a0, rfl, _, _, w0⟩ := open_int Try.underlying34 (hval 0 34 v0 rfl rfl) h0
  obtain ⟨n1, C1, k1⟩ := open_rows Try.underlying22 (by kernel_rfl) (by decide) (three_of Try.underlying31 Try.underlying3 (by kernel_rfl) rfl rfl rfl rfl rfl rfl) (hval 1 22 v1 rfl rfl) h1
  clear hA0 hval0
  have hlt : ∀ x ∈ (p0 ++ (p1 ++ [])), x.block < W.heap.size := fun x hx => hW'.lt x (by simpa using hx)
  refine (walk W a0 w0 v1 n1 C1 k1).mono fun e W' ⟨he, hb⟩ => ?_
  subst he
  refine ⟨_, rfl, post_of_below (pa := (p0 ++ (p1 ++ []))) (pv := []) hW' (fun _ _ _ => (trodAll_cons_mk (shut_bool Try.underlying4 _) trodAll_mk0)) (fun sp hsp => ?_) (fun _ _ => rfl) (by simp) hb (ok_one (by kernel_rfl) rfl (okWide_bool_mk Try.underlying4 _))⟩
  exact trodAll_cons_mk (below_trod sp (by kernel_rfl) (by kernel_rfl) (of_decide_eq_true (by kernel_rfl)) g0 hb (fun x hx => hlt x (by simp [hx])) (fun x hx => hsp x (by simp [hx])))
    (trodAll_cons_mk (below_trod sp (by kernel_rfl) (by kernel_rfl) (of_decide_eq_true (by kernel_rfl)) g1 hb (fun x hx => hlt x (by simp [hx])) (fun x hx => hsp x (by simp [hx])))
    (trodAll_mk0))

theorem over : Rows.windowSpendsRow.holds Try.pinned (OpenSpec.ofChange Rows.windowSpendsSpec) :=
  OpenClaim.holds_of_wide 4 Try.f4 rfl rfl rfl rfl rfl rfl rfl ⟨rfl, rfl, rfl, rfl, rfl⟩ rfl rfl rfl rfl rfl (by kernel_rfl) Try.func4 (by kernel_rfl)
    (of_decide_eq_true (by kernel_rfl)) (by unfold Func.isWrapper; rw [if_neg (by decide +kernel)]; exact ⟨rfl, rfl⟩)
    (fun os started H enc _ => lifted os started H enc)

theorem proved : Rows.WindowSpendsSaid := over
#print axioms proved
end Go.Proofs.Ytnfkaflpakedmaa.WindowSpends
