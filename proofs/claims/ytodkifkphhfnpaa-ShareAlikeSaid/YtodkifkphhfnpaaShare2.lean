/- The walks of package share: the rounds. -/
import Derived.Test.YtodkifkphhfnpaaRows
import Derived.WalkKit
import Derived.ProofKit
import Derived.Handy
import Derived.Test.YtodkifkphhfnpaaMem
import Derived.Test.YtodkifkphhfnpaaLift
import Derived.Test.YtodkifkphhfnpaaApp
import Derived.Test.YtodkifkphhfnpaaReads
import Derived.Test.YtodkifkphhfnpaaOrd
import Derived.Test.YtodkifkphhfnpaaShLaw
import Derived.Test.YtodkifkphhfnpaaShare
import Derived.Deep.QuietTactic
import Derived.BigQuiet
import Derived.Deep.RegionWith
import Derived.Deep.RegionHeld3
import Derived.Deep.AppendLies
import Derived.WalkLawsBesides
import Derived.WalkSmall
namespace Go.Proofs.Ytodkifkphhfnpaa
open Go.RowKit
set_option linter.unusedVariables false


/-! One's part of what is left. -/
theorem part_any (d : DL) (rem wt has : Nat → Int) (left a b : Int) (bn bd : Nat) (i : Nat) (w : World) (k : DealAt w d rem wt has left) (hn : Blk w bn 48 #[.int .i64 a, .int .i64 b]) (hd : Blk w bd 41 #[.pointer (some ⟨d.g, 0, none⟩)])
    (hi : i < d.n) (ha : 0 ≤ a) (ha' : a ≤ 2147483647) (hb : 1 ≤ b) (hb' : b ≤ 65536) (hw : 1 ≤ wt i) (hw' : wt i ≤ 256) :
    Calls Try.prog 25 #[.int .i64 i, .pointer (some ⟨bn, 0, none⟩), .pointer (some ⟨bd, 0, none⟩)] w fun e w' => e = .returned (.int .i64 (a * wt i / b)) ∧ ∃ q, w' = w.drewN q := by
  obtain ⟨g, gw, gg, gh, n, cw, cg, ch, Aw, Ag, Ah⟩ := d
  obtain ⟨q1, q2, q3, q4⟩ := k.caps
  have hk := k.op (by simp at hi; omega)
  obtain ⟨rfl, rfl, rfl, n1, n2, n3, i1, i2, i3⟩ := hk
  simp at hi q1 q2 q3 q4 hd
  have x2 := i2.cell hi
  have c1 := Blk.cell k.blk 1
  have z0 := Blk.cell hn 0
  have z1 := Blk.cell hn 1
  have zd := Blk.cell hd 0
  simp at c1 z0 z1 zd x2
  have hm1 : 0 ≤ a * wt i := Int.mul_nonneg ha (by omega)
  have hm2 : a * wt i ≤ 2147483647 * 256 := Int.mul_le_mul ha' hw' (by omega) (by omega)
  have ht : (a * wt i).tdiv b = a * wt i / b := Int.tdiv_eq_ediv_of_nonneg hm1
  have hd1 : 0 ≤ a * wt i / b := Int.ediv_nonneg hm1 (by omega)
  have hd2 : a * wt i / b ≤ a * wt i := Int.ediv_le_self _ hm1
  have hb0 : ¬ b = 0 := by omega
  clear i1 i2 i3 k hn hd n1 n2 n3
  generalize wt i = v at *
  generalize hp : a * v = p at *
  go_enter Try.func25, Try.ntmps25
  go_wp2_with fail
  go_quiet (fail)
  go_wp2_with fail
  go_ret
  exact ⟨rfl, _, rfl⟩

def gv (rem wt : Nat → Int) (a b : Int) (j : Nat) : Int := if 0 < rem j then min (a * wt j / b) (rem j) else 0
def Rounded (w : World) (d : DL) (rem wt has : Nat → Int) (left a b : Int) (e : Ending) (w' : World) : Prop :=
  e = .returned (.tuple #[]) ∧ DealAt w' d (fun j => rem j - gv rem wt a b j) wt (fun j => has j + gv rem wt a b j) (left - SH.sumF (gv rem wt a b) d.n) ∧ Only [d.g, d.gw, d.gh] w w'
/-- As far as m. -/
def upto (m : Nat) (f g : Nat → Int) : Nat → Int := fun j => if j < m then f j else g j

set_option maxHeartbeats 4000000 in
theorem round_any (d : DL) (rem wt has : Nat → Int) (left a b : Int) (w : World) (k : DealAt w d rem wt has left) (hw : ∀ j, j < d.n → 1 ≤ wt j ∧ wt j ≤ 256)
    (ha : 0 ≤ a) (ha' : a ≤ 2147483647) (hb : 1 ≤ b) (hb' : b ≤ 65536) (hl : left ≤ 2147483647)
    (hg0 : ∀ j, j < d.n → 0 ≤ gv rem wt a b j)
    (hpre : ∀ j, j < d.n → 0 < rem j → SH.sumF (gv rem wt a b) j + a * wt j / b ≤ left)
    (hrem : ∀ j, j < d.n → 0 ≤ rem j ∧ rem j ≤ 2147483647) (hhas : ∀ j, j < d.n → 0 ≤ has j ∧ has j ≤ 2147483647) :
    Calls Try.prog 23 #[.pointer (some ⟨d.g, 0, none⟩), .agg #[.int .i64 a, .int .i64 b]] w (Rounded w d rem wt has left a b) := by
  obtain ⟨g, gw, gg, gh, n, cw, cg, ch, Aw, Ag, Ah⟩ := d
  have hlt := Blk.lt k.blk
  have c0 := Blk.cell k.blk 0
  obtain ⟨q1, q2, q3, q4⟩ := k.caps
  simp at c0 q1 q2 q3 q4 hlt hw hg0 hpre hrem hhas
  have hlt1 : g < w.heap.size + 1 := by omega
  have hlt2 : g < w.heap.size + 1 + 1 := by omega
  have K := Lib.hid k
  have HW := Lib.hid hw
  have HG := Lib.hid hg0
  have HP := Lib.hid hpre
  have HR := Lib.hid hrem
  have HH := Lib.hid hhas
  have hsz := (Below.refl w.heap.size w).size
  clear k hw hg0 hpre hrem hhas
  go_enter Try.func23, Try.ntmps23
  go_wp2_with fail
  have bd0 := Blk.alloc (Blk.new w 41 #[.pointer (some ⟨g, 0, none⟩)]) (.cells #[.int .i64 a, .int .i64 b] 48)
  have bn0 := Blk.new (w.alloc (.cells #[.pointer (some ⟨g, 0, none⟩)] 41)) 48 #[.int .i64 a, .int .i64 b]
  simp only [World.size_alloc] at bn0
  go_loopw [13] (fun iv wr => ∃ (m : Nat), m ≤ n ∧ iv = .int .i64 m ∧ Blk wr w.heap.size 41 #[.pointer (some ⟨g, 0, none⟩)] ∧ Blk wr (w.heap.size + 1) 48 #[.int .i64 a, .int .i64 b] ∧
      DealAt wr ⟨g, gw, gg, gh, n, cw, cg, ch, Aw, Ag, Ah⟩ (upto m (fun j => rem j - gv rem wt a b j) rem) wt (upto m (fun j => has j + gv rem wt a b j) has) (left - SH.sumF (gv rem wt a b) m) ∧ Only [g, gw, gh] w wr) (fun i _ => n - (intOf i).toNat)
  case atStart =>
    refine ⟨0, by omega, rfl, bd0, bn0, ?_, ((Only.refl _ w).alloc _).alloc _⟩
    exact ((K.out.alloc _).alloc _).congr (fun j _ => by simp [upto]) (fun j _ => by simp [upto]) (by simp [SH.sumF])
  case round =>
    obtain ⟨m, hm, rfl, rd, rn, rk, ro⟩ := hrel
    by_cases hlt : m < n
    · have hk := rk.op (by omega)
      obtain ⟨rfl, rfl, rfl, n1, n2, n3, i1, i2, i3⟩ := hk
      have x1 := i1.cell hlt
      have zd := Blk.cell rd 0
      simp [upto] at x1 zd
      clear i1 i2 i3
      by_cases hp : 0 < rem m
      · have hgv : gv rem wt a b m = min (a * wt m / b) (rem m) := by simp only [gv, if_pos hp]
        have hg := HG.out m hlt
        have hpr := HP.out m hlt hp
        have hR := HR.out m hlt
        have hH := HH.out m hlt
        have hW := HW.out m hlt
        have hgs : 0 ≤ SH.sumF (gv rem wt a b) m := SH.sumF_nonneg m (fun j hj => HG.out j (by omega))
        have hu1 : upto m (fun j => rem j - gv rem wt a b j) rem m = rem m := by simp [upto]
        have hu2 : upto m (fun j => has j + gv rem wt a b j) has m = has m := by simp [upto]
        have RD := Lib.hid rd
        have RN := Lib.hid rn
        have RK := Lib.hid rk
        have RO := Lib.hid ro
        clear rd rn rk ro
        go_wp2_with fail
        refine wp_region_ord (fun w' => w'.cell? ⟨w.heap.size, 0, none⟩ = some (.pointer (some ⟨g, 0, none⟩))) 5 [(true, 0), (true, 1), (true, 2), (true, 3), (false, 4)] default (by kernel_rfl) (by kernel_rfl) (fun d _ _ _ _ h => by cases d <;> exact h) ?_ ?_
        · exact zd
        simp only [List.map_cons, List.map_nil, List.getD_cons_succ, List.getD_cons_zero]
        repeat
          (refine heldL_take ?_ ?_ ?_
           rotate_left
           · intro w' hw'
             try dsimp only at hw'
             go_simp
             try with_reducible rfl
           try simp only [Act.put, List.setIfInBounds_toArray, List.set_cons_zero, List.set_cons_succ])
        refine heldL_move (fun K hK => ?_)
        go_simp
        refine (part_any _ _ wt _ _ a b _ _ m _ RK.out.drew RN.out RD.out hlt ha ha' hb hb' hW.1 hW.2).mono ?_
        rintro e w1 ⟨rfl, q, rfl⟩
        refine hK.out _ _ ?_ (fun hS => ?_)
        · exact zd
        clear hK K
        try simp only [Act.put, List.setIfInBounds_toArray, List.set_cons_zero, List.set_cons_succ]
        refine heldL_last (fun K hK => ?_)
        go_simp
        refine (give_any _ _ wt _ _ m (a * wt m / b) _ (RK.out.drewN (1 + q)) hlt (gv rem wt a b m) (by rw [hu1, hgv]; omega) (by omega) (by rw [hu1]; omega) (by rw [hu1]; omega) (by omega) (by omega) (by rw [hu2]; omega) (by rw [hu2]; omega)).mono ?_
        rintro e w2 ⟨rfl, k2, o2⟩
        refine hK _ _ ?_
        clear hK K
        try simp only [Act.put, List.setIfInBounds_toArray, List.set_cons_zero, List.set_cons_succ]
        rw [hu1, hu2] at k2
        have o2' : Only [g, gw, gh] wr w2 := ⟨o2.os, o2.tape, o2.output, o2.size, o2.block⟩
        have K2 := Lib.hid k2
        have O2 := Lib.hid o2'
        clear k2 o2 o2' hu1 hu2 hgv hpr
        go_wp2_with fail
        go_roundw
        case rel =>
          have hsep : gw < w.heap.size ∧ gh < w.heap.size := by
            obtain ⟨_, _, _, _, _, _, j1, j2, j3⟩ := K.out.op (by omega)
            exact ⟨j1.lt, j3.lt⟩
          refine ⟨m + 1, by omega, by go_num, RD.out.only O2.out (by simp; omega), RN.out.only O2.out (by simp; omega), K2.out.congr (fun j _ => ?_) (fun j _ => ?_) ?_, RO.out.trans_ O2.out⟩
          · by_cases hj : j = m
            · subst hj; simp [upto, upd]
            · simp only [upto, upd, if_neg hj, show (j < m + 1) = (j < m) by rw [eq_iff_iff]; omega]
          · by_cases hj : j = m
            · subst hj; simp [upto, upd]
            · simp only [upto, upd, if_neg hj, show (j < m + 1) = (j < m) by rw [eq_iff_iff]; omega]
          · simp only [SH.sumF]; omega
        case measure => simp [intOf]; omega
      · have e1 : gv rem wt a b m = 0 := by simp only [gv, if_neg hp]
        have RD := Lib.hid rd
        have RN := Lib.hid rn
        have RK := Lib.hid rk
        have RO := Lib.hid ro
        clear rd rn rk ro
        go_wp2_with fail
        go_roundw
        case rel =>
          refine ⟨m + 1, by omega, by go_num, RD.out, RN.out, RK.out.congr (fun j _ => ?_) (fun j _ => ?_) ?_, RO.out⟩
          · by_cases hj : j = m
            · subst hj; simp [upto, e1]
            · simp only [upto, show (j < m + 1) = (j < m) by rw [eq_iff_iff]; omega]
          · by_cases hj : j = m
            · subst hj; simp [upto, e1]
            · simp only [upto, show (j < m + 1) = (j < m) by rw [eq_iff_iff]; omega]
          · simp [SH.sumF, e1]
        case measure => simp [intOf]; omega
    · obtain rfl : m = n := by omega
      have RK := Lib.hid rk
      have RO := Lib.hid ro
      clear rd rn rk ro
      go_wp2_with fail
      go_end0
      refine ⟨rfl, RK.out.congr (fun j hj => ?_) (fun j hj => ?_) rfl, RO.out⟩
      · simp only [upto]; rw [if_pos hj]
      · simp only [upto]; rw [if_pos hj]

/-! One each. -/
def onl (rem : Nat → Int) (left : Int) : Nat → Int
  | 0 => left
  | i + 1 => if 0 < onl rem left i ∧ 0 < rem i then onl rem left i - 1 else onl rem left i
def ov (rem : Nat → Int) (left : Int) (i : Nat) : Int := if 0 < onl rem left i ∧ 0 < rem i then 1 else 0
theorem onl_succ (rem : Nat → Int) (left : Int) (i : Nat) : onl rem left (i + 1) = onl rem left i - ov rem left i := by
  simp only [onl, ov]
  split <;> omega
theorem onl_bound (rem : Nat → Int) (left : Int) (h : 0 ≤ left) : ∀ i, 0 ≤ onl rem left i ∧ onl rem left i ≤ left
  | 0 => by simp only [onl]; omega
  | i + 1 => by
    have := onl_bound rem left h i
    simp only [onl]
    split <;> omega
def Oned (w : World) (d : DL) (rem wt has : Nat → Int) (left : Int) (e : Ending) (w' : World) : Prop :=
  e = .returned (.tuple #[]) ∧ DealAt w' d (fun j => rem j - ov rem left j) wt (fun j => has j + ov rem left j) (onl rem left d.n) ∧ Only [d.g, d.gw, d.gh] w w'

set_option maxHeartbeats 4000000 in
theorem ones_any (d : DL) (rem wt has : Nat → Int) (left : Int) (w : World) (k : DealAt w d rem wt has left)
    (hl0 : 0 ≤ left) (hl : left ≤ 2147483647) (hrem : ∀ j, j < d.n → 0 ≤ rem j ∧ rem j ≤ 2147483647) (hhas : ∀ j, j < d.n → 0 ≤ has j ∧ has j ≤ 2147483647) :
    Calls Try.prog 24 #[.pointer (some ⟨d.g, 0, none⟩)] w (Oned w d rem wt has left) := by
  obtain ⟨g, gw, gg, gh, n, cw, cg, ch, Aw, Ag, Ah⟩ := d
  have hlt := Blk.lt k.blk
  have c0 := Blk.cell k.blk 0
  obtain ⟨q1, q2, q3, q4⟩ := k.caps
  simp at c0 q1 q2 q3 q4 hlt hrem hhas
  have K := Lib.hid k
  have HR := Lib.hid hrem
  have HH := Lib.hid hhas
  clear k hrem hhas
  go_enter Try.func24, Try.ntmps24
  go_wp2_with fail
  go_loopw [9] (fun iv wr => ∃ (m : Nat), m ≤ n ∧ iv = .int .i64 m ∧
      DealAt wr ⟨g, gw, gg, gh, n, cw, cg, ch, Aw, Ag, Ah⟩ (upto m (fun j => rem j - ov rem left j) rem) wt (upto m (fun j => has j + ov rem left j) has) (onl rem left m) ∧ Only [g, gw, gh] w wr) (fun i _ => n - (intOf i).toNat)
  case atStart =>
    refine ⟨0, by omega, rfl, ?_, Only.refl _ w⟩
    exact K.out.congr (fun j _ => by simp [upto]) (fun j _ => by simp [upto]) (by simp [onl])
  case round =>
    obtain ⟨m, hm, rfl, rk, ro⟩ := hrel
    by_cases hlt : m < n
    · have hk := rk.op (by omega)
      obtain ⟨rfl, rfl, rfl, n1, n2, n3, i1, i2, i3⟩ := hk
      have x1 := i1.cell hlt
      simp [upto] at x1
      clear i1 i2 i3
      by_cases hp : 0 < rem m
      · have hR := HR.out m hlt
        have hH := HH.out m hlt
        have hO := onl_bound rem left hl0 m
        have hov : ov rem left m = min (min 1 (rem m)) (onl rem left m) := by simp only [ov]; split <;> omega
        have hu1 : upto m (fun j => rem j - ov rem left j) rem m = rem m := by simp [upto]
        have hu2 : upto m (fun j => has j + ov rem left j) has m = has m := by simp [upto]
        have RK := Lib.hid rk
        have RO := Lib.hid ro
        clear rk ro
        go_wp2_with fail
        refine (give_any _ _ wt _ _ m 1 _ RK.out hlt (ov rem left m) (by rw [hu1, hov]) (by omega) (by rw [hu1]; omega) (by rw [hu1]; omega) (by omega) (by omega) (by rw [hu2]; omega) (by rw [hu2]; omega)).mono ?_
        rintro e w2 ⟨rfl, k2, o2⟩
        rw [hu1, hu2] at k2
        have o2' : Only [g, gw, gh] wr w2 := ⟨o2.os, o2.tape, o2.output, o2.size, o2.block⟩
        have K2 := Lib.hid k2
        have O2 := Lib.hid o2'
        clear k2 o2 o2' hu1 hu2 hov
        go_wp2_with fail
        go_roundw
        case rel =>
          refine ⟨m + 1, by omega, by go_num, K2.out.congr (fun j _ => ?_) (fun j _ => ?_) (by rw [onl_succ]), RO.out.trans_ O2.out⟩
          · by_cases hj : j = m
            · subst hj; simp [upto, upd]
            · simp only [upto, upd, if_neg hj, show (j < m + 1) = (j < m) by rw [eq_iff_iff]; omega]
          · by_cases hj : j = m
            · subst hj; simp [upto, upd]
            · simp only [upto, upd, if_neg hj, show (j < m + 1) = (j < m) by rw [eq_iff_iff]; omega]
        case measure => simp [intOf]; omega
      · have e1 : ov rem left m = 0 := by simp only [ov]; rw [if_neg (fun h => hp h.2)]
        have RK := Lib.hid rk
        have RO := Lib.hid ro
        clear rk ro
        go_wp2_with fail
        go_roundw
        case rel =>
          refine ⟨m + 1, by omega, by go_num, RK.out.congr (fun j _ => ?_) (fun j _ => ?_) ?_, RO.out⟩
          · by_cases hj : j = m
            · subst hj; simp [upto, e1]
            · simp only [upto, show (j < m + 1) = (j < m) by rw [eq_iff_iff]; omega]
          · by_cases hj : j = m
            · subst hj; simp [upto, e1]
            · simp only [upto, show (j < m + 1) = (j < m) by rw [eq_iff_iff]; omega]
          · rw [onl_succ, e1]; omega
        case measure => simp [intOf]; omega
    · obtain rfl : m = n := by omega
      have RK := Lib.hid rk
      have RO := Lib.hid ro
      clear rk ro
      go_wp2_with fail
      go_end0
      refine ⟨rfl, RK.out.congr (fun j hj => ?_) (fun j hj => ?_) rfl, RO.out⟩
      · simp only [upto]; rw [if_pos hj]
      · simp only [upto]; rw [if_pos hj]
end Go.Proofs.Ytodkifkphhfnpaa
