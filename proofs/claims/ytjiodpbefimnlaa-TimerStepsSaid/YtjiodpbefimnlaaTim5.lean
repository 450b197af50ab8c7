/- The walks of package timer: Next, Advance. -/
import Derived.Test.YtjiodpbefimnlaaRows
import Derived.WalkKit
import Derived.ProofKit
import Derived.Handy
import Derived.Test.YtjiodpbefimnlaaTim4
import Derived.Test.YtjiodpbefimnlaaSeq
import Derived.Deep.QuietTactic
import Derived.BigQuiet
import Derived.Deep.RegionWith
import Derived.Deep.RegionHeld3
import Derived.Deep.AppendLies
import Derived.WalkLawsBesides
import Derived.WalkSmall
namespace Go.Proofs.Ytjiodpbefimnlaa
open Go.RowKit
set_option linter.unusedVariables false
theorem due_all {l : List (Int × Int)} (h : ∀ p ∈ l, p.2 ≤ 1099511627776) : dueT l 1099511627776 = l := by
  unfold dueT
  induction l with
  | nil => rfl
  | cons p r ih => rw [List.takeWhile_cons, if_pos (decide_eq_true (h p (by simp))), ih fun q hq => h q (by simp [hq])]
theorem next_nil (w : World) : Calls Try.prog 19 #[.pointer none] w fun e w' => e = .returned (.tuple #[.int .i64 0, .int .i64 0, .bool false]) ∧ Below w.heap.size w w' := by
  have HD := Lib.hid (due_nil 1099511627776 w)
  go_enter Try.func19, Try.ntmps19
  go_wp2_with fail
  refine HD.out.mono ?_
  rintro e w1 ⟨A, c, rfl, hh, hb⟩
  go_wp2_with fail
  go_ret3
  exact ⟨rfl, hb⟩
section
variable (g b : Nat) (l : List (Int × Int)) (T0 : Int) (w : World) (k : Whl w g b l T0)
include k
set_option maxRecDepth 10000 in
theorem next_none (hl : l = []) : Calls Try.prog 19 #[.pointer (some ⟨g, 0, none⟩)] w fun e w' => e = .returned (.tuple #[.int .i64 0, .int .i64 0, .bool false]) ∧ Below w.heap.size w w' := by
  subst hl
  have HD := Lib.hid (due_any g b [] T0 1099511627776 w k)
  clear k
  go_enter Try.func19, Try.ntmps19
  go_wp2_with fail
  refine HD.out.mono ?_
  rintro e w1 ⟨A, c, rfl, hh, hb⟩
  have e0 : (ids (dueT [] 1099511627776)).length = 0 := rfl
  rw [e0]
  go_wp2_with fail
  go_ret3
  exact ⟨rfl, hb⟩
set_option maxRecDepth 10000 in
theorem next_some (p : Int × Int) (r : List (Int × Int)) (hl : l = p :: r) : Calls Try.prog 19 #[.pointer (some ⟨g, 0, none⟩)] w fun e w' => e = .returned (.tuple #[.int .i64 p.1, .int .i64 p.2, .bool true]) ∧ Below w.heap.size w w' := by
  subst hl
  have hd := due_any g b (p :: r) T0 1099511627776 w k
  rw [due_all k.top] at hd
  have HD := Lib.hid hd
  have hp := k.key p (by simp)
  have hg := getT_of_mem k.sd.2 (i := p.1) (a := p.2) (by simp)
  have HK := Lib.hid k
  have HP := Lib.hid (And.intro hp hg)
  have e0 : (ids (p :: r)).length = r.length + 1 := by simp [ids]
  have E0 := Lib.hid e0
  clear hd k hp hg e0
  go_enter Try.func19, Try.ntmps19
  go_wp2_with fail
  refine HD.out.mono ?_
  rintro e w1 ⟨A, c, rfl, hh, hb⟩
  have hc := hh.2.1
  rw [E0.out] at hc
  rw [E0.out]
  obtain ⟨ab, ao, rfl, hal, c0⟩ := hh.at_ (j := 0) (u := .int .i64 p.1) rfl
  rw [Nat.add_zero] at c0
  have K1 := HK.out.below hb
  have g0 := Blk.cell K1.blk 0
  simp at g0
  have HB := Lib.hid (And.intro hb K1.map)
  have hr0 : (0 : Int) < (r.length : Int) + 1 := by omega
  clear hh K1 hb
  go_wp2_with fail
  refine wp_region_seq (fun w' => w'.cell? ⟨ab, ao, none⟩ = some (.int .i64 p.1) ∧ w'.cell? ⟨g, 0, none⟩ = some (.map (some b)) ∧ MapI w' b (getT (p :: r)) (p :: r).length) [(true, 0), (true, 1), (true, 2), (true, 3), (true, 4), (true, 5), (true, 6), (true, 7), (true, 8), (true, 9), (true, 10), (true, 11), (true, 12), (true, 13)] default (by kernel_rfl) (by kernel_rfl) (fun d _ _ _ _ h => by cases d <;> exact h) ?_ ?_
  · exact ⟨c0, g0, HB.out.2⟩
  simp only [List.map_cons, List.map_nil, List.getD_cons_succ, List.getD_cons_zero]
  repeat
    (refine heldS_take ?_ ?_ ?_
     rotate_left
     · intro w' hw'
       try dsimp only at hw'
       have l1 := hw'.2.2.look HP.out.1
       rw [HP.out.2] at l1
       simp only [Option.getD_some] at l1
       obtain ⟨q1, q2, _⟩ := hw'
       go_simp
       try with_reducible rfl
     try simp only [Act.put, List.setIfInBounds_toArray, List.set_cons_zero, List.set_cons_succ])
  refine heldS_done ?_
  go_wp2_with fail
  go_ret3
  exact ⟨rfl, below_drewN HB.out.1 1⟩
end
theorem advance_nil (n : Int) (w : World) : Calls Try.prog 15 #[.pointer none, .int .i64 n] w (IntsAre w []) := by
  have HD := Lib.hid (fun W => due_nil 0 W)
  go_enter Try.func15, Try.ntmps15
  go_wp2_with fail
  refine (now_nil _).mono ?_
  rintro e w1 ⟨rfl, rfl⟩
  go_wp2_with fail
  refine (HD.out _).mono ?_
  rintro e w2 ⟨A, c, rfl, hh, hb⟩
  go_wp2_with fail
  refine wp_loop_rounds 1 ?_
  rw [rounds_succ]
  go_wp2_with fail
  go_ret
  exact ⟨A, c, rfl, hh, hb⟩
/-- Behind Advance. -/
def AdvIs (w : World) (g b : Nat) (l : List (Int × Int)) (T1 : Int) (e : Ending) (w' : World) : Prop :=
  ∃ A c, e = .returned (.slice A (dueT l T1).length c) ∧ Held w' 3 1 A (dueT l T1).length c (nums (ids (dueT l T1))) ∧ Whl w' g b (l.drop (dueT l T1).length) T1 ∧ Only [g, b] w w'
/-- The clock that Advance sets. -/
def clk (T0 n : Int) : Int := if T0 ≤ n ∧ n ≤ 1099511627776 then n else T0
theorem whl_clock {w : World} {g b : Nat} {l : List (Int × Int)} {T0 : Int} (k : Whl w g b l T0) (n : Int) (h0 : 0 ≤ n) (h1 : n ≤ 1099511627776) : Whl (w.setCell ⟨g, 1, none⟩ (.int .i64 n)) g b l n :=
  ⟨by have := Blk.set_ k.blk 1 (.int .i64 n); simpa using this, MapV.setCell k.map (Ne.symm k.ne) _, k.sd, k.few, ⟨h0, h1⟩, k.key, k.top⟩
set_option maxHeartbeats 1000000 in
set_option maxRecDepth 10000 in
theorem advance_any (g b : Nat) (l : List (Int × Int)) (T0 n : Int) (w : World) (k : Whl w g b l T0) : Calls Try.prog 15 #[.pointer (some ⟨g, 0, none⟩), .int .i64 n] w (AdvIs w g b l (clk T0 n)) := by
  have hD := Lib.hid (fun T1 W (kW : Whl W g b l T1) => due_any g b l T1 T1 W kW)
  have hN := Lib.hid (fun T1 W (kW : Whl W g b l T1) => now_any g b l T1 W kW)
  have hlen : ∀ T1, (ids (dueT l T1)).length = (dueT l T1).length := fun T1 => by simp [ids]
  have hG := Lib.hid hlen
  have hfew := k.few
  have tail : ∀ (T1 : Int) (W : World) (A : Option Addr) (c : Nat), Whl W g b l T1 → Held W 3 1 A (dueT l T1).length c (nums (ids (dueT l T1))) → Only [g, b] w W → True := fun _ _ _ _ _ _ _ => trivial
  clear tail hlen
  by_cases hin : T0 ≤ n ∧ n ≤ 1099511627776
  · have hc : clk T0 n = n := by unfold clk; rw [if_pos hin]
    rw [hc]
    obtain ⟨h1, h2⟩ := hin
    have c1 := Blk.cell k.blk 1
    have f1 := Blk.frozen k.blk 1
    simp at c1
    have H1 : Hid (Whl (w.setCell ⟨g, 1, none⟩ (.int .i64 n)) g b l n ∧ Only [g, b] w (w.setCell ⟨g, 1, none⟩ (.int .i64 n))) := ⟨whl_clock k n (by have := k.clock; omega) h2, (Only.refl _ _).setCell (by simp) _⟩
    clear k hc
    go_enter Try.func15, Try.ntmps15
    go_wp2_with fail
    generalize w.setCell ⟨g, 1, none⟩ (.int .i64 n) = W1 at *
    refine (hN.out n _ H1.out.1).mono ?_
    rintro e w1 ⟨rfl, rfl⟩
    go_wp2_with fail
    refine (hD.out n _ H1.out.1).mono ?_
    rintro e w2 ⟨A, c, rfl, hh, hb⟩
    rw [hG.out] at hh ⊢
    have H2 := Lib.hid (And.intro hh (And.intro (H1.out.1.below hb) (H1.out.2.trans_ (Only.of_below hb))))
    have hcap := hh.2.1
    have hcap2 := hh.2.2.1
    clear hh hb c1 f1 H1
    have hdl := due_le l n
    have hpre := Lib.hid (due_prefix l n)
    have hgx : Hid (∀ (j : Nat) (hl : j < l.length), j < (dueT l n).length → (nums (ids (dueT l n)))[j]? = some (.int .i64 l[j].1)) := fun j hl h => by
      have e : (dueT l n)[j]? = some l[j] := by
        rw [hpre.out, List.getElem?_take, if_pos h, List.getElem?_eq_getElem (by omega)]
      simp only [nums, ids, List.getElem?_map, e, Option.map_some]
    generalize hd : (dueT l n).length = d at *
    have HD := Lib.hid hd
    clear hd
    go_wp2_with fail
    go_loopw [32] (fun iv wr => ∃ j : Nat, j ≤ d ∧ iv = .int .i64 j ∧ Whl wr g b (l.drop j) n ∧ Held wr 3 1 A d c (nums (ids (dueT l n))) ∧ Only [g, b] w wr) (fun i _ => d - (intOf i).toNat)
    case atStart => exact ⟨0, by omega, rfl, H2.out.2.1, H2.out.1, H2.out.2.2⟩
    case round =>
      obtain ⟨j, hj, rfl, kr, hr, orr⟩ := hrel
      have HR := Lib.hid (And.intro kr (And.intro hr orr))
      clear kr hr orr
      by_cases hlt : j < d
      · obtain ⟨ab, ao, hA, hal, cx⟩ := HR.out.2.1.at_ (hgx.out j (by omega) hlt)
        have hjl : j < l.length := by omega
        have hdr := List.drop_eq_getElem_cons hjl
        have hky := HR.out.1.key l[j] (by rw [hdr]; exact List.mem_cons_self)
        have HS := Lib.hid (stop_any g b (l.drop j) n wr HR.out.1 l[j].1 hky)
        have HE : Hid (stopT (l.drop j) l[j].1 = l.drop (j + 1)) := by
          have h2 := HR.out.1.sd.2
          rw [hdr] at h2 ⊢
          exact stop_head h2
        clear hdr hky
        generalize l[j].1 = x at *
        have hj0 : (0 : Int) ≤ j := by omega
        have hj1 : (j : Int) < d := by omega
        subst hA
        go_wp2_with fail
        refine HS.out.mono ?_
        rintro e w5 ⟨rfl, k5, g5⟩
        rw [HE.out] at k5
        have h5 := HR.out.2.1.keep (w' := w5) (fun bk cur hbk => g5.block bk (lt_of_blk hbk) (fun e => by
          injection e with e
          exact MapV.blk_ne HR.out.1.map (g := bk) (ty := 3) (cs := cur) hbk e))
        have H5 := Lib.hid (And.intro k5 (And.intro h5 (HR.out.2.2.grown g5 (fun k hk => by simp at hk; simp [hk]))))
        clear k5 h5 g5
        go_wp2_with fail
        go_roundw
        case rel => exact ⟨j + 1, by omega, by go_num, H5.out⟩
        case measure => simp [intOf]; omega
      · obtain rfl : d = j := by omega
        go_wp2_with fail
        go_ret
        exact ⟨A, c, by rw [HD.out]; rfl, by rw [HD.out]; exact HR.out.2.1, by rw [HD.out]; exact HR.out.1, HR.out.2.2⟩
  · have hc : clk T0 n = T0 := by unfold clk; rw [if_neg hin]
    rw [hc]
    have c1 := Blk.cell k.blk 1
    simp at c1
    have H1 : Hid (Whl w g b l T0 ∧ Only [g, b] w w) := ⟨k, Only.refl _ _⟩
    clear k hc
    have hin2 : n < T0 ∨ (T0 ≤ n ∧ 1099511627776 < n) := by omega
    clear hin
    rcases hin2 with h1 | ⟨h1, h2⟩
    all_goals
      go_enter Try.func15, Try.ntmps15
      go_wp2_with fail
      refine (hN.out T0 _ H1.out.1).mono ?_
      rintro e w1 ⟨rfl, rfl⟩
      go_wp2_with fail
      refine (hD.out T0 _ H1.out.1).mono ?_
      rintro e w2 ⟨A, c, rfl, hh, hb⟩
      rw [hG.out] at hh ⊢
      have H2 := Lib.hid (And.intro hh (And.intro (H1.out.1.below hb) (H1.out.2.trans_ (Only.of_below hb))))
      have hcap := hh.2.1
      have hcap2 := hh.2.2.1
      clear hh hb c1 H1
      have hdl := due_le l T0
      have hpre := Lib.hid (due_prefix l T0)
      have hgx : Hid (∀ (j : Nat) (hl : j < l.length), j < (dueT l T0).length → (nums (ids (dueT l T0)))[j]? = some (.int .i64 l[j].1)) := fun j hl h => by
        have e : (dueT l T0)[j]? = some l[j] := by
          rw [hpre.out, List.getElem?_take, if_pos h, List.getElem?_eq_getElem (by omega)]
        simp only [nums, ids, List.getElem?_map, e, Option.map_some]
      generalize hd : (dueT l T0).length = d at *
      have HD := Lib.hid hd
      clear hd
      go_wp2_with fail
      go_loopw [32] (fun iv wr => ∃ j : Nat, j ≤ d ∧ iv = .int .i64 j ∧ Whl wr g b (l.drop j) T0 ∧ Held wr 3 1 A d c (nums (ids (dueT l T0))) ∧ Only [g, b] w wr) (fun i _ => d - (intOf i).toNat)
      case atStart => exact ⟨0, by omega, rfl, H2.out.2.1, H2.out.1, H2.out.2.2⟩
      case round =>
        obtain ⟨j, hj, rfl, kr, hr, orr⟩ := hrel
        have HR := Lib.hid (And.intro kr (And.intro hr orr))
        clear kr hr orr
        by_cases hlt : j < d
        · obtain ⟨ab, ao, hA, hal, cx⟩ := HR.out.2.1.at_ (hgx.out j (by omega) hlt)
          have hjl : j < l.length := by omega
          have hdr := List.drop_eq_getElem_cons hjl
          have hky := HR.out.1.key l[j] (by rw [hdr]; exact List.mem_cons_self)
          have HS := Lib.hid (stop_any g b (l.drop j) T0 wr HR.out.1 l[j].1 hky)
          have HE : Hid (stopT (l.drop j) l[j].1 = l.drop (j + 1)) := by
            have h2 := HR.out.1.sd.2
            rw [hdr] at h2 ⊢
            exact stop_head h2
          clear hdr hky
          generalize l[j].1 = x at *
          have hj0 : (0 : Int) ≤ j := by omega
          have hj1 : (j : Int) < d := by omega
          subst hA
          go_wp2_with fail
          refine HS.out.mono ?_
          rintro e w5 ⟨rfl, k5, g5⟩
          rw [HE.out] at k5
          have h5 := HR.out.2.1.keep (w' := w5) (fun bk cur hbk => g5.block bk (lt_of_blk hbk) (fun e => by
            injection e with e
            exact MapV.blk_ne HR.out.1.map (g := bk) (ty := 3) (cs := cur) hbk e))
          have H5 := Lib.hid (And.intro k5 (And.intro h5 (HR.out.2.2.grown g5 (fun k hk => by simp at hk; simp [hk]))))
          clear k5 h5 g5
          go_wp2_with fail
          go_roundw
          case rel => exact ⟨j + 1, by omega, by go_num, H5.out⟩
          case measure => simp [intOf]; omega
        · obtain rfl : d = j := by omega
          go_wp2_with fail
          go_ret
          exact ⟨A, c, by rw [HD.out]; rfl, by rw [HD.out]; exact HR.out.2.1, by rw [HD.out]; exact HR.out.1, HR.out.2.2⟩
end Go.Proofs.Ytjiodpbefimnlaa
