/- The walks of tree's above, Move. -/
import Derived.Test.YtifgbnjpiphidaaRows
import Derived.WalkKit
import Derived.ProofKit
import Derived.Handy
import Derived.Deep.QuietTactic
import Derived.BigQuiet
import Derived.Deep.RegionWith
import Derived.Deep.RegionHeld3
import Derived.Deep.AppendLies
import Derived.WalkLawsBesides
import Derived.WalkSmall
import Derived.Deep.Cut
import Derived.Test.YtifgbnjpiphidaaTre5
namespace Go.Proofs.Ytifgbnjpiphidaa
open Go.RowKit
set_option linter.unusedVariables false
/-- i is on the way from x to the root. -/
inductive Abv (l : List Nd) (i : Int) : Int → Prop
  | here {x : Int} {p : Nd} (h : getN l x = some p) (hp : p.on = i) : Abv l i x
  | up {x : Int} {p : Nd} (h : getN l x = some p) (hp : Abv l i p.on) : Abv l i x
theorem abv_none {l : List Nd} {i x : Int} (h : getN l x = none) : ¬ Abv l i x := fun ha => by
  cases ha with
  | here h1 _ => rw [h] at h1; cases h1
  | up h1 _ => rw [h] at h1; cases h1
theorem abv_step {l : List Nd} {i x : Int} {p : Nd} (h : getN l x = some p) (hp : p.on ≠ i) : Abv l i x ↔ Abv l i p.on := by
  constructor
  · intro ha
    cases ha with
    | here h1 h2 => rw [h] at h1; injection h1 with h1; subst h1; exact absurd h2 hp
    | up h1 h2 => rw [h] at h1; injection h1 with h1; subst h1; exact h2
  · intro ha
    exact .up h ha
/-- Ranks: each node stands above what it hangs on. -/
def Rk (l : List Nd) (r : Int → Nat) : Prop := ∀ p ∈ l, r p.on < r p.id
theorem rk_get {l : List Nd} {r : Int → Nat} (h : Rk l r) {x : Int} {p : Nd} (hp : getN l x = some p) : r p.on < r x := by
  have := getN_mem hp
  rw [← this.2]
  exact h p this.1
theorem above_any (g b : Nat) (most : Int) (l : List Nd) (w : World) (k : Trs w g b most l) (r : Int → Nat) (hr : Rk l r) (i low : Int) (hlow : (Lit.int .i64 low).wf = true) :
    Calls Try.prog 32 #[.pointer (some ⟨g, 0, none⟩), .int .i64 i, .int .i64 low] w fun e w' => (∃ v, e = .returned (.bool v) ∧ (v = true ↔ Abv l i low)) ∧ Below w.heap.size w w' := by
  have HK := Lib.hid k
  have HR := Lib.hid hr
  have HW := Lib.hid hlow
  clear k hr hlow
  go_enter Try.func32, Try.ntmps32
  go_wp2_with fail
  go_loopw [2] (fun xv wr => ∃ x : Int, xv = .int .i64 x ∧ (Lit.int .i64 x).wf = true ∧ (Abv l i low ↔ Abv l i x) ∧ Below w.heap.size w wr) (fun xv _ => r (intOf xv))
  case atStart => exact ⟨low, rfl, HW.out, Iff.rfl, Below.refl _ _⟩
  case round =>
    obtain ⟨x, rfl, hx, ha, hb⟩ := hrel
    have HB := Lib.hid (And.intro ha (And.intro hb (And.intro hx (HK.out.below hb))))
    clear ha hb hx
    go_wp2_with fail
    refine (has_any g b most l wr HB.out.2.2.2 x HB.out.2.2.1).mono ?_
    rintro e w1 ⟨rfl, b1⟩
    have H1 := Lib.hid (And.intro (HB.out.2.2.2.below b1) (HB.out.2.1.trans (b1.mono HB.out.2.1.size)))
    clear b1
    cases hg : getN l x with
    | none =>
      have HF : Hid (¬ Abv l i low) := fun h => abv_none hg (HB.out.1.1 h)
      clear hg
      simp only [Option.isSome_none]
      go_wp2_with fail
      go_ret
      exact ⟨⟨false, rfl, by simp; exact HF.out⟩, H1.out.2⟩
    | some p =>
      have hpm := getN_mem hg
      have hpn := HK.out.nd p hpm.1
      have HW2 := Lib.hid (wf31 hpn.2.1.1 hpn.2.1.2)
      have hlt := Lib.hid (rk_get HR.out hg)
      have hl : (Instr.lookup 52 (.map (some b)) (.int .i64 x) false).run Try.prog w1 = .ok (.agg #[.int .i64 p.on, .int .i64 p.wt]) w1 := by
        have h := H1.out.1.map.look HB.out.2.2.1
        rw [hg] at h
        exact h
      have f0 := field0 w1 (.int .i64 p.on) (.int .i64 p.wt)
      have c1 := Blk.cell H1.out.1.blk 1
      simp at c1
      have HG := Lib.hid hg
      clear hg hpm hpn
      simp only [Option.isSome_some]
      by_cases he : p.on = i
      · have HF : Hid (Abv l i low) := HB.out.1.2 (.here HG.out he)
        rw [he] at hl f0
        clear he
        go_wp2_with fail
        go_ret
        exact ⟨⟨true, rfl, by simp; exact HF.out⟩, H1.out.2⟩
      · have HF : Hid (Abv l i low ↔ Abv l i p.on) := HB.out.1.trans (abv_step HG.out he)
        have hne : (p.on == i) = false := by simp [he]
        clear he
        go_wp2_with fail
        go_roundw
        case rel => exact ⟨p.on, rfl, HW2.out, HF.out, H1.out.2⟩
        case measure => simp only [intOf]; exact hlt.out
theorem move_nil (i : Int) (d : Dp) (w : World) : Calls Try.prog 16 #[.pointer none, .int .i64 i, .agg (da d)] w fun e w' => e = .returned (.int .i64 1) ∧ Below w.heap.size w w' := by
  go_enter Try.func16, Try.ntmps16
  go_wp2_with fail
  go_ret
  exact ⟨rfl, (Below.refl _ _).alloc (Nat.le_refl _) _⟩
section
variable (g b : Nat) (most : Int) (l : List Nd) (w : World) (k : Trs w g b most l) (i : Int) (d : Dp) (hi : (Lit.int .i64 i).wf = true)
include k hi
theorem move_none (hp : getN l i = none) : Calls Try.prog 16 #[.pointer (some ⟨g, 0, none⟩), .int .i64 i, .agg (da d)] w (TurnE w g b most 7 l) := by
  obtain ⟨on, wt, ex⟩ := d
  have z1 := Blk.new w 30 #[.int .i64 on, .int .i64 wt, .bool ex]
  have B1 : Below w.heap.size w (w.alloc (.cells #[.int .i64 on, .int .i64 wt, .bool ex] 30)) := (Below.refl _ _).alloc (Nat.le_refl _) _
  have H1 := Lib.hid (And.intro z1 (And.intro B1 (k.below B1)))
  have HK := Lib.hid k
  have HP := Lib.hid hp
  clear z1 B1 k hp
  unfold da
  go_enter Try.func16, Try.ntmps16
  go_wp2_with fail
  generalize w.alloc (.cells #[.int .i64 on, .int .i64 wt, .bool ex] 30) = W at *
  refine (has_any g b most l W H1.out.2.2 i hi).mono ?_
  rintro e w1 ⟨rfl, b1⟩
  have H2 := Lib.hid (And.intro (H1.out.1.below b1 H1.out.1.lt) (And.intro (H1.out.2.1.trans (b1.mono H1.out.2.1.size)) (H1.out.2.2.below b1)))
  rw [HP.out]
  clear b1 H1
  simp only [Option.isSome_none]
  have HF := Lib.hid (turned_same HK.out H2.out.2.1)
  go_wp2_with fail
  go_ret
  exact ⟨rfl, HF.out⟩
theorem move_badDep (p : Nd) (hp : getN l i = some p) (hd : mayB d = false) : Calls Try.prog 16 #[.pointer (some ⟨g, 0, none⟩), .int .i64 i, .agg (da d)] w (TurnE w g b most 2 l) := by
  obtain ⟨on, wt, ex⟩ := d
  have z1 := Blk.new w 30 #[.int .i64 on, .int .i64 wt, .bool ex]
  have B1 : Below w.heap.size w (w.alloc (.cells #[.int .i64 on, .int .i64 wt, .bool ex] 30)) := (Below.refl _ _).alloc (Nat.le_refl _) _
  have H1 := Lib.hid (And.intro z1 (And.intro B1 (k.below B1)))
  have HK := Lib.hid k
  have HP := Lib.hid hp
  clear z1 B1 k hp
  unfold da
  go_enter Try.func16, Try.ntmps16
  go_wp2_with fail
  generalize w.alloc (.cells #[.int .i64 on, .int .i64 wt, .bool ex] 30) = W at *
  refine (has_any g b most l W H1.out.2.2 i hi).mono ?_
  rintro e w1 ⟨rfl, b1⟩
  have H2 := Lib.hid (And.intro (H1.out.1.below b1 H1.out.1.lt) (And.intro (H1.out.2.1.trans (b1.mono H1.out.2.1.size)) (H1.out.2.2.below b1)))
  rw [HP.out]
  clear b1 H1
  simp only [Option.isSome_some]
  have e0 := Blk.cell H2.out.1 0
  have e1 := Blk.cell H2.out.1 1
  have e2 := Blk.cell H2.out.1 2
  simp at e0 e1 e2
  have HD := Lib.hid hd
  clear hd
  go_wp2_with fail
  refine (may_any ⟨on, wt, ex⟩ w1).mono ?_
  rintro e w2 ⟨rfl, b2⟩
  rw [HD.out]
  have H3 := Lib.hid (And.intro (H2.out.1.below b2 H2.out.1.lt) (And.intro (H2.out.2.1.trans (b2.mono H2.out.2.1.size)) (H2.out.2.2.below b2)))
  have g0 := Blk.cell H3.out.1 0
  simp at g0
  clear b2 H2 e0 e1 e2
  have HF := Lib.hid (turned_same HK.out H3.out.2.1)
  go_wp2_with fail
  go_ret
  exact ⟨rfl, HF.out⟩
theorem move_cycle (p : Nd) (hp : getN l i = some p) (hd : mayB d = true) (hc : d.on = i) : Calls Try.prog 16 #[.pointer (some ⟨g, 0, none⟩), .int .i64 i, .agg (da d)] w (TurnE w g b most 12 l) := by
  obtain ⟨on, wt, ex⟩ := d
  simp only at hc
  subst hc
  have z1 := Blk.new w 30 #[.int .i64 on, .int .i64 wt, .bool ex]
  have B1 : Below w.heap.size w (w.alloc (.cells #[.int .i64 on, .int .i64 wt, .bool ex] 30)) := (Below.refl _ _).alloc (Nat.le_refl _) _
  have H1 := Lib.hid (And.intro z1 (And.intro B1 (k.below B1)))
  have HK := Lib.hid k
  have HP := Lib.hid hp
  clear z1 B1 k hp
  unfold da
  go_enter Try.func16, Try.ntmps16
  go_wp2_with fail
  generalize w.alloc (.cells #[.int .i64 on, .int .i64 wt, .bool ex] 30) = W at *
  refine (has_any g b most l W H1.out.2.2 on hi).mono ?_
  rintro e w1 ⟨rfl, b1⟩
  have H2 := Lib.hid (And.intro (H1.out.1.below b1 H1.out.1.lt) (And.intro (H1.out.2.1.trans (b1.mono H1.out.2.1.size)) (H1.out.2.2.below b1)))
  rw [HP.out]
  clear b1 H1
  simp only [Option.isSome_some]
  have e0 := Blk.cell H2.out.1 0
  have e1 := Blk.cell H2.out.1 1
  have e2 := Blk.cell H2.out.1 2
  simp at e0 e1 e2
  have HD := Lib.hid hd
  clear hd
  go_wp2_with fail
  refine (may_any ⟨on, wt, ex⟩ w1).mono ?_
  rintro e w2 ⟨rfl, b2⟩
  rw [HD.out]
  have H3 := Lib.hid (And.intro (H2.out.1.below b2 H2.out.1.lt) (And.intro (H2.out.2.1.trans (b2.mono H2.out.2.1.size)) (H2.out.2.2.below b2)))
  have g0 := Blk.cell H3.out.1 0
  simp at g0
  clear b2 H2 e0 e1 e2
  have HF := Lib.hid (turned_same HK.out H3.out.2.1)
  go_wp2_with fail
  go_ret
  exact ⟨rfl, HF.out⟩
set_option maxHeartbeats 4000000 in
theorem move_ok (r : Int → Nat) (hr : Rk l r) (p : Nd) (hp : getN l i = some p) (hd : mayB d = true) (hc : d.on ≠ i) : Calls Try.prog 16 #[.pointer (some ⟨g, 0, none⟩), .int .i64 i, .agg (da d)] w fun e w' =>
    (Abv l i (knownL l d).on → TurnE w g b most 0 (layL (hangN l (knownL l d).on p.on) i (knownL l d)) e w') ∧ (¬ Abv l i (knownL l d).on → TurnE w g b most 0 (layL l i (knownL l d)) e w') := by
  have hdk : mayB (knownL l d) = true := by
    unfold knownL
    split
    · have := of_decide_eq_true hd
      exact decide_eq_true (by simp only at this ⊢; omega)
    · exact hd
  have HDK := Lib.hid hdk
  have HR := Lib.hid hr
  have HC := Lib.hid hi
  have hwd : (Lit.int .i64 d.on).wf = true := by
    have h := of_decide_eq_true hd
    exact wf31 h.1 h.2.1
  have HWD := Lib.hid hwd
  have hwk : (Lit.int .i64 (knownL l d).on).wf = true := by
    have h := of_decide_eq_true hdk
    exact wf31 h.1 h.2.1
  have HWK := Lib.hid hwk
  clear hdk hr hwd hwk
  obtain ⟨on, wt, ex⟩ := d
  have z1 := Blk.new w 30 #[.int .i64 on, .int .i64 wt, .bool ex]
  have B1 : Below w.heap.size w (w.alloc (.cells #[.int .i64 on, .int .i64 wt, .bool ex] 30)) := (Below.refl _ _).alloc (Nat.le_refl _) _
  have H1 := Lib.hid (And.intro z1 (And.intro B1 (k.below B1)))
  have HK := Lib.hid k
  have HP := Lib.hid hp
  clear z1 B1 k hp
  unfold da
  go_enter Try.func16, Try.ntmps16
  go_wp2_with fail
  generalize w.alloc (.cells #[.int .i64 on, .int .i64 wt, .bool ex] 30) = W at *
  refine (has_any g b most l W H1.out.2.2 i hi).mono ?_
  rintro e w1 ⟨rfl, b1⟩
  have H2 := Lib.hid (And.intro (H1.out.1.below b1 H1.out.1.lt) (And.intro (H1.out.2.1.trans (b1.mono H1.out.2.1.size)) (H1.out.2.2.below b1)))
  rw [HP.out]
  clear b1 H1
  try simp only at hc
  simp only [Option.isSome_some]
  have e0 := Blk.cell H2.out.1 0
  have e1 := Blk.cell H2.out.1 1
  have e2 := Blk.cell H2.out.1 2
  simp at e0 e1 e2
  have HD := Lib.hid hd
  clear hd
  go_wp2_with fail
  refine (may_any ⟨on, wt, ex⟩ w1).mono ?_
  rintro e w2 ⟨rfl, b2⟩
  rw [HD.out]
  have H3 := Lib.hid (And.intro (H2.out.1.below b2 H2.out.1.lt) (And.intro (H2.out.2.1.trans (b2.mono H2.out.2.1.size)) (H2.out.2.2.below b2)))
  have g0 := Blk.cell H3.out.1 0
  simp at g0
  clear b2 H2 e0 e1 e2
  have hne : (on == i) = false := by simp [hc]
  have z0 := Blk.frozen H3.out.1 0
  have z1 := Blk.frozen H3.out.1 1
  have z2 := Blk.frozen H3.out.1 2
  have g1 := Blk.cell H3.out.1 1
  have g2 := Blk.cell H3.out.1 2
  simp at g1 g2
  clear hc
  go_wp2_with fail
  refine (known_any g b most l w2 H3.out.2.2 ⟨on, wt, ex⟩ HWD.out).mono ?_
  rintro e w3 ⟨rfl, b3⟩
  have H4 := Lib.hid (And.intro (H3.out.1.below b3 H3.out.1.lt) (And.intro (H3.out.2.1.trans (b3.mono H3.out.2.1.size)) (H3.out.2.2.below b3)))
  clear b3 g0 g1 g2 z0 z1 z2 H3
  generalize hdk : knownL l ⟨on, wt, ex⟩ = dk at *
  have HDE := Lib.hid hdk
  clear hdk
  obtain ⟨o2, t2, x2⟩ := dk
  have g0 := Blk.cell H4.out.1 0
  have g1 := Blk.cell H4.out.1 1
  have g2 := Blk.cell H4.out.1 2
  have z0 := Blk.frozen H4.out.1 0
  have z1 := Blk.frozen H4.out.1 1
  have z2 := Blk.frozen H4.out.1 2
  simp at g0 g1 g2
  unfold da
  go_upto_region 10 with fail
  have kb := set3_blk H4.out.1 rfl (.int .i64 o2) (.int .i64 t2) (.bool x2)
  have kw : Below w.heap.size w (((w3.setCell ⟨w.heap.size, 0, none⟩ (.int .i64 o2)).setCell ⟨w.heap.size, 1, none⟩ (.int .i64 t2)).setCell ⟨w.heap.size, 2, none⟩ (.bool x2)) := ((H4.out.2.1.setCell (p := ⟨w.heap.size, 0, none⟩) (Nat.le_refl _) _).setCell (p := ⟨w.heap.size, 1, none⟩) (Nat.le_refl _) _).setCell (p := ⟨w.heap.size, 2, none⟩) (Nat.le_refl _) _
  have kt := HK.out.below kw
  have H5 := Lib.hid (And.intro kb (And.intro kw kt))
  clear kb kw kt g0 g1 g2 z0 z1 z2 H4
  generalize ((w3.setCell ⟨w.heap.size, 0, none⟩ (.int .i64 o2)).setCell ⟨w.heap.size, 1, none⟩ (.int .i64 t2)).setCell ⟨w.heap.size, 2, none⟩ (.bool x2) = w4 at *
  have g0 := Blk.cell H5.out.1 0
  simp at g0
  go_wp2_with fail
  refine (above_any g b most l w4 H5.out.2.2 r HR.out i o2 HWK.out).mono ?_
  rintro e w5 ⟨⟨v, rfl, hv⟩, b5⟩
  have H6 := Lib.hid (And.intro (H5.out.1.below b5 H5.out.1.lt) (And.intro (H5.out.2.1.trans (b5.mono H5.out.2.1.size)) (H5.out.2.2.below b5)))
  clear b5 H5 g0
  cases v with
  | false =>
    have HV : Hid (¬ Abv l i o2) := fun h => absurd (hv.2 h) (by simp)
    clear hv
    have g0 := Blk.cell H6.out.1 0
    have g1 := Blk.cell H6.out.1 1
    have g2 := Blk.cell H6.out.1 2
    simp at g0 g1 g2
    have HL := Lib.hid (lay_any g b most l w5 H6.out.2.2 i ⟨o2, t2, x2⟩ (by
      have h1 := getN_mem HP.out
      have h2 := (HK.out.nd p h1.1).1
      rw [h1.2] at h2
      exact h2) HDK.out (.inl (by rw [HP.out]; rfl)))
    go_wp2_with fail
    refine HL.out.mono ?_
    rintro e w6 ⟨rfl, t6, o6⟩
    have H7 : Hid (Turned w g b most (layL l i ⟨o2, t2, x2⟩) w6) := ⟨t6, (Only.of_below (S := [b]) H6.out.2.1).trans_ o6⟩
    clear t6 o6
    go_wp2_with fail
    go_ret
    rw [HDE.out]
    exact ⟨fun h => absurd h HV.out, fun _ => ⟨rfl, H7.out⟩⟩
  | true =>
    have HV : Hid (Abv l i o2) := hv.1 rfl
    clear hv
    have hq : ∃ q, getN l o2 = some q := by
      cases hg : getN l o2 with
      | none => exact absurd HV.out (abv_none hg)
      | some q => exact ⟨q, rfl⟩
    obtain ⟨q, hq⟩ := hq
    have HQ := Lib.hid hq
    have hpm := getN_mem HP.out
    have hpn := HK.out.nd p hpm.1
    have hii : 1 ≤ i ∧ i ≤ 2147483647 := by rw [← hpm.2]; exact hpn.1
    have HII := Lib.hid hii
    have g0 := Blk.cell H6.out.1 0
    have m1 := Blk.cell H6.out.2.2.blk 1
    simp at g0 m1
    have HG := Lib.hid (And.intro g0 m1)
    have HH := Lib.hid (fun W (kW : Trs W g b most l) => hang_any g b most l W kW o2 p.on q hq hpn.2.1)
    clear hq hpm hpn hii
    go_wp2_with fail
    refine wp_region_ord (fun w' => w'.cell? ⟨g, 1, none⟩ = some (.map (some b)) ∧ w'.cell? ⟨w.heap.size, 0, none⟩ = some (.int .i64 o2) ∧ MapN w' b (getN l) l.length) 10
      [(true, 0), (true, 1), (true, 2), (true, 3), (true, 4), (true, 5), (true, 6), (true, 7), (true, 8), (true, 9)]
      default (by kernel_rfl) (by kernel_rfl) (fun d _ _ _ _ h => by cases d <;> exact h) ?_ ?_
    · exact ⟨HG.out.2, HG.out.1, H6.out.2.2.map⟩
    simp only [List.map_cons, List.map_nil, List.getD_cons_succ, List.getD_cons_zero]
    repeat
      (refine heldL_take ?_ ?_ ?_
       rotate_left
       · intro w' hw'
         try dsimp only at hw'
         have l1 : (Instr.lookup 52 (.map (some b)) (.int .i64 i) false).run Try.prog w' = .ok (.agg #[.int .i64 p.on, .int .i64 p.wt]) w' := by
           have h := hw'.2.2.look HC.out
           rw [HP.out] at h
           exact h
         have f0 := field0 w' (.int .i64 p.on) (.int .i64 p.wt)
         obtain ⟨q1, q2, _⟩ := hw'
         go_simp
         try with_reducible rfl
       try simp only [Act.put, List.setIfInBounds_toArray, List.set_cons_zero, List.set_cons_succ])
    refine heldL_last (fun K hK => ?_)
    go_simp
    refine (HH.out _ H6.out.2.2.drew).mono ?_
    rintro e w6 ⟨rfl, t6, o6'⟩
    have o6 : Only [b] w5 w6 := ⟨o6'.os, o6'.tape, o6'.output, o6'.size, o6'.block⟩
    have hbb : w.heap.size ≠ b := by have := HK.out.lt; omega
    have z6 := H6.out.1.only o6 (by simp; exact hbb)
    have H7 := Lib.hid (And.intro z6 (And.intro ((Only.of_below (S := [b]) H6.out.2.1).trans_ o6) t6))
    clear t6 o6 o6' z6 g0 m1
    refine hK _ _ ?_
    clear hK K
    try simp only [Act.put, List.setIfInBounds_toArray, List.set_cons_zero, List.set_cons_succ]
    have g0 := Blk.cell H7.out.1 0
    have g1 := Blk.cell H7.out.1 1
    have g2 := Blk.cell H7.out.1 2
    simp at g0 g1 g2
    have HL := Lib.hid (lay_any g b most _ w6 H7.out.2.2 i ⟨o2, t2, x2⟩ HII.out HDK.out (.inl (by
      rw [getN_hang]
      split
      · next h => rw [HQ.out]; rfl
      · rw [HP.out]; rfl)))
    go_wp2_with fail
    refine HL.out.mono ?_
    rintro e w7 ⟨rfl, t7, o7⟩
    have H8 : Hid (Turned w g b most (layL (hangN l o2 p.on) i ⟨o2, t2, x2⟩) w7) := ⟨t7, H7.out.2.1.trans_ o7⟩
    clear t7 o7
    go_wp2_with fail
    go_ret
    rw [HDE.out]
    exact ⟨fun _ => ⟨rfl, H8.out⟩, fun h => absurd HV.out h⟩
end
end Go.Proofs.Ytifgbnjpiphidaa
