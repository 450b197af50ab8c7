/- A call of both ledgers. -/
import Derived.Test.YtpbahmnlhckgbaaRef11
import Derived.Deep.QuietTactic
import Derived.BigQuiet
import Derived.Deep.RegionWith
import Derived.Deep.RegionHeld3
import Derived.Deep.DeepCutAuto
import Derived.WalkLawsBesides
import Derived.WalkSmall
namespace Go.Proofs.Ytpbahmnlhckgbaa
open Go.RowKit
set_option linter.unusedVariables false
def Joint (base g h : Nat) (M : Int) (w : World) : Prop := ∃ cw cn sp A cap B c l, Led base w g cw cn sp A cap l M ∧ Ref base w h cn sp B c l
def Answers (base g h : Nat) (M code : Int) (w : World) (f : FuncId) (args : Array Value) : Prop := ∀ q, Calls Try.prog f args (w.drewN q) fun e w' => e = .returned (.int .i64 code) ∧ Joint base g h M w' ∧ Only [h] w w'
def Told (base g h : Nat) (M : Int) (w : World) (f : FuncId) (args : Array Value) (e : Ending) (w' : World) : Prop := ∃ code, e = .returned (.int .i64 code) ∧ Below base w w' ∧ Still w w' ∧ Answers base g h M code w' f args
section
variable {base g h cw cap c : Nat} {cn sp M : Int} {A B : Option Addr} {l : List Ln} {w : World}
theorem ans_same {f : FuncId} {args : Array Value} {code : Int} (k : Led base w g cw cn sp A cap l M) (r : Ref base w h cn sp B c l) (hc : ∀ q, Calls Try.prog f args (w.drewN q) fun e w' => e = .returned (.int .i64 code) ∧ ∃ q', w' = (w.drewN q).drewN q') : Answers base g h M code w f args := fun q =>
  (hc q).mono fun e w' ⟨he, q', hw⟩ => by
    subst hw
    exact ⟨he, ⟨cw, cn, sp, A, cap, B, c, l, (k.drewN q).drewN q', (r.drewN q).drewN q'⟩, ((Only.refl _ _).drewN q).drewN q'⟩
theorem ans_turn {f : FuncId} {args : Array Value} {code : Int} {cn0 sp0 : Int} {l0 : List Ln} (k : Led base w g cw cn sp A cap l M) (r : Ref base w h cn0 sp0 B c l0) (hc : ∀ q, Calls Try.prog f args (w.drewN q) fun e w' => e = .returned (.int .i64 code) ∧ (∃ B' c', Ref base w' h cn sp B' c' l) ∧ Only [h] (w.drewN q) w') : Answers base g h M code w f args := fun q =>
  (hc q).mono fun e w' ⟨he, ⟨B', c', r'⟩, o⟩ => by
    have o2 : Only [h] w w' := ⟨o.os, o.tape, o.output, o.size, o.block⟩
    exact ⟨he, ⟨cw, cn, sp, A, cap, B', c', l, k.ref r.blk o2, r'⟩, o2⟩
theorem Ref.drew1 {f : FuncId} {args : Array Value} {v : Value} {W : World} (h : Calls Try.prog f args W fun e w' => e = .returned v ∧ W = w') : Calls Try.prog f args W fun e w' => e = .returned v ∧ ∃ q', w' = W.drewN q' :=
  h.mono fun _ _ ⟨he, hw⟩ => ⟨he, 0, by rw [← hw]; rfl⟩
theorem found_or (l : List Ln) (x : Int) : (∃ (i : Nat) (hi : i < l.length), l[i].id = x) ∨ ∀ (j : Nat) (hj : j < l.length), l[j].id ≠ x := by
  by_cases h : ∃ (i : Nat) (hi : i < l.length), l[i].id = x
  · exact .inl h
  · exact .inr fun j hj he => h ⟨j, hj, he⟩
end
theorem first_bad (l : List Ln) (d : Int) : ∀ m, m ≤ l.length → (∀ (j : Nat) (hj : j < l.length), j < m → Fits l[j].n d) ∨ ∃ (i : Nat) (hi : i < l.length), ¬ Fits l[i].n d ∧ ∀ (j : Nat) (hj : j < l.length), j < i → Fits l[j].n d := by
  intro m
  induction m with
  | zero => intro _; exact .inl fun j _ h => absurd h (by omega)
  | succ m ih =>
    intro hm
    rcases ih (by omega) with h | h
    · by_cases hf : Fits (l[m]'(by omega)).n d
      · refine .inl fun j hj hjm => ?_
        rcases Nat.lt_or_ge j m with h2 | h2
        · exact h j hj h2
        · obtain rfl : j = m := by omega
          exact hf
      · exact .inr ⟨m, by omega, hf, h⟩
    · exact .inr h
section
variable (base g h cw cap c : Nat) (cn sp M : Int) (A B : Option Addr) (l : List Ln) (w : World) (k : Led base w g cw cn sp A cap l M) (r : Ref base w h cn sp B c l) (hM : M + 2147483647 ≤ 1000000000000000000)
include k r hM
theorem open_both (x n : Int) : Calls Try.prog 8 #[.pointer (some ⟨g, 0, none⟩), .int .i64 x, .int .i64 n] w (Told base g h (M + 2147483647) w 31 #[.pointer (some ⟨h, 0, none⟩), .int .i64 x, .int .i64 n]) := by
  have hws : base ≤ w.heap.size := Nat.le_trans k.bas.1 (Nat.le_of_lt k.lt)
  have k' := k.mono (M' := M + 2147483647) (by omega) hM
  by_cases hx : x < 1 ∨ 2147483647 < x
  · refine (open_arg g x n w hx).mono ?_
    rintro e w1 ⟨rfl, rfl⟩
    exact ⟨2, rfl, Below.refl _ _, Still.of_below (Below.refl _ _), ans_same k' r fun q => Ref.drew1 (rop_arg h x n _ hx)⟩
  · by_cases hn : n < 0 ∨ 2147483647 < n
    · refine (open_range g x n w (by omega) (by omega) hn).mono ?_
      rintro e w1 ⟨rfl, rfl⟩
      exact ⟨3, rfl, Below.refl _ _, Still.of_below (Below.refl _ _), ans_same k' r fun q => Ref.drew1 (rop_range h x n _ (by omega) (by omega) hn)⟩
    · rcases found_or l x with ⟨i, hi, rfl⟩ | hno
      · refine (open_exist base g cw cap cn sp M A l w k n i hi (by omega) (by omega)).mono ?_
        rintro e w1 ⟨rfl, b⟩
        exact ⟨8, rfl, b.mono hws, Still.of_below b, ans_same (k'.below b) (r.below b) fun q => Ref.drew1 (rop_exist base h c cn sp B l _ ((r.below b).drewN q) n i hi k.srt (by omega) (by omega) (by omega) (by omega))⟩
      · by_cases hl : 64 ≤ l.length
        · refine (open_full base g cw cap cn sp M x A l w k n hno (by omega) (by omega) (by omega) (by omega) hl).mono ?_
          rintro e w1 ⟨rfl, b⟩
          exact ⟨16, rfl, b.mono hws, Still.of_below b, ans_same (k'.below b) (r.below b) fun q => Ref.drew1 (rop_full base h c cn sp x B l _ ((r.below b).drewN q) n hno (by omega) (by omega) (by omega) (by omega) hl)⟩
        · refine (open_ok base g cw cap cn sp M x A l w k n hno (by omega) (by omega) (by omega) (by omega) (by omega)).mono ?_
          rintro e w1 ⟨rfl, ⟨A', cap', wb, i, hp, k1⟩, b, s⟩
          exact ⟨0, rfl, b, s, ans_turn (k1.mono (by omega) hM) (r.still s) fun q => rop_ok base h c cn sp x B l _ ((r.still s).drewN q) n hno (by omega) (by omega) (by omega) (by omega) (by omega) i hp wb⟩
theorem close_both (x : Int) : Calls Try.prog 9 #[.pointer (some ⟨g, 0, none⟩), .int .i64 x] w (Told base g h (M + 2147483647) w 32 #[.pointer (some ⟨h, 0, none⟩), .int .i64 x]) := by
  have hws : base ≤ w.heap.size := Nat.le_trans k.bas.1 (Nat.le_of_lt k.lt)
  have k' := k.mono (M' := M + 2147483647) (by omega) hM
  rcases found_or l x with ⟨i, hi, rfl⟩ | hno
  · refine (close_at base g cw cap cn sp M A l w k i hi).mono ?_
    rintro e w1 ⟨rfl, ⟨A', cap', k1⟩, b, s⟩
    exact ⟨0, rfl, b, s, ans_turn (k1.mono (by omega) hM) (r.still s) fun q => rcl_at base h c cn sp B l _ ((r.still s).drewN q) i hi k.srt⟩
  · refine (close_no base g cw cap cn sp M x A l w k hno).mono ?_
    rintro e w1 ⟨rfl, b⟩
    exact ⟨7, rfl, b.mono hws, Still.of_below b, ans_same (k'.below b) (r.below b) fun q => Ref.drew1 (rcl_no base h c cn sp x B l _ ((r.below b).drewN q) hno)⟩
theorem spend_both (x n : Int) : Calls Try.prog 13 #[.pointer (some ⟨g, 0, none⟩), .int .i64 x, .int .i64 n] w (Told base g h (M + 2147483647) w 35 #[.pointer (some ⟨h, 0, none⟩), .int .i64 x, .int .i64 n]) := by
  have hws : base ≤ w.heap.size := Nat.le_trans k.bas.1 (Nat.le_of_lt k.lt)
  have k' := k.mono (M' := M + 2147483647) (by omega) hM
  rcases found_or l x with ⟨i, hi, rfl⟩ | hno
  · by_cases hk : n < 0
    · refine (spend_neg base g cw cap cn sp M A l w k n i hi hk).mono ?_
      rintro e w1 ⟨rfl, b⟩
      exact ⟨2, rfl, b.mono hws, Still.of_below b, ans_same (k'.below b) (r.below b) fun q => Ref.drew1 (rspend_neg base h c cn sp B l _ ((r.below b).drewN q) n i hi k.srt hk)⟩
    · by_cases hm : min (max l[i].n 0) (max cn 0) < n
      · refine (spend_much base g cw cap cn sp M A l w k n i hi (by omega) hm).mono ?_
        rintro e w1 ⟨rfl, b⟩
        exact ⟨9, rfl, b.mono hws, Still.of_below b, ans_same (k'.below b) (r.below b) fun q => rspend_much base h c cn sp B l _ ((r.below b).drewN q) n i hi k.srt (by omega) hm⟩
      · refine (spend_ok base g cw cap cn sp M A l w k n i hi (by omega) (by omega) hM).mono ?_
        rintro e w1 ⟨rfl, k1, b, s⟩
        have hb := k.bds l[i] (List.getElem_mem _)
        have hc := k.cnb
        have hs := k.spb
        have hmb := k.mb
        exact ⟨0, rfl, b, s, ans_turn k1 (r.still s) fun q => rspend_ok base h c cn sp B l _ ((r.still s).drewN q) n i hi k.srt (by omega) (by omega) (by omega)⟩
  · refine (spend_no base g cw cap cn sp M x A l w k n hno).mono ?_
    rintro e w1 ⟨rfl, b⟩
    exact ⟨7, rfl, b.mono hws, Still.of_below b, ans_same (k'.below b) (r.below b) fun q => Ref.drew1 (rspend_no base h c cn sp x B l _ ((r.below b).drewN q) n hno)⟩
theorem grow_both (x n : Int) : Calls Try.prog 10 #[.pointer (some ⟨g, 0, none⟩), .int .i64 x, .int .i64 n] w (Told base g h (M + 2147483647) w 33 #[.pointer (some ⟨h, 0, none⟩), .int .i64 x, .int .i64 n]) := by
  have hws : base ≤ w.heap.size := Nat.le_trans k.bas.1 (Nat.le_of_lt k.lt)
  have k' := k.mono (M' := M + 2147483647) (by omega) hM
  by_cases hx0 : x = 0
  · subst hx0
    refine (grow_conn base g cw cap cn sp M A l w k n).mono ?_
    rintro e w1 ⟨rfl, k1, b, s⟩
    exact ⟨_, rfl, b, s, ans_turn (k1.mono (by omega) hM) (r.still s) fun q => (rgr_conn base h c cn sp B l _ ((r.still s).drewN q) n k.cnb.1 k.cnb.2).mono fun e w' ⟨he, hr, ho⟩ => ⟨he, ⟨_, _, hr⟩, ho⟩⟩
  · rcases found_or l x with ⟨i, hi, rfl⟩ | hno
    · refine (grow_at base g cw cap cn sp M A l w k n i hi).mono ?_
      rintro e w1 ⟨rfl, k1, b, s⟩
      have hb := k.bds l[i] (List.getElem_mem _)
      exact ⟨_, rfl, b, s, ans_turn (k1.mono (by omega) hM) (r.still s) fun q => rgr_at base h c cn sp B l _ ((r.still s).drewN q) n i hi k.srt hx0 hb.1 hb.2.1⟩
    · refine (grow_no base g cw cap cn sp M x A l w k n hx0 hno).mono ?_
      rintro e w1 ⟨rfl, b⟩
      exact ⟨7, rfl, b.mono hws, Still.of_below b, ans_same (k'.below b) (r.below b) fun q => Ref.drew1 (rgr_no base h c cn sp x B l _ ((r.below b).drewN q) n hx0 hno)⟩
theorem resize_both (a b : Int) : Calls Try.prog 12 #[.pointer (some ⟨g, 0, none⟩), .int .i64 a, .int .i64 b] w (Told base g h (M + 2147483647) w 34 #[.pointer (some ⟨h, 0, none⟩), .int .i64 a, .int .i64 b]) := by
  have hws : base ≤ w.heap.size := Nat.le_trans k.bas.1 (Nat.le_of_lt k.lt)
  have k' := k.mono (M' := M + 2147483647) (by omega) hM
  by_cases hab : a < 0 ∨ 2147483647 < a ∨ b < 0 ∨ 2147483647 < b
  · refine (rsz_arg base g cw cap cn sp M A l w k a b hab).mono ?_
    rintro e w1 ⟨rfl, bb⟩
    exact ⟨2, rfl, bb.mono hws, Still.of_below bb, ans_same (k'.below bb) (r.below bb) fun q => Ref.drew1 (rrs_arg h a b _ hab)⟩
  · have hw : Win2 a b := by unfold Win2; omega
    have hbds : ∀ x ∈ l, -2147483647 ≤ x.n ∧ x.n ≤ 2147483647 := fun x hx => ⟨(k.bds x hx).1, (k.bds x hx).2.1⟩
    rcases first_bad l (b - a) l.length (Nat.le_refl _) with hall | ⟨i0, hi0, hov, hbef⟩
    · refine (rsz_ok base g cw cap cn sp M A l w k a b hw fun j hj => hall j hj hj).mono ?_
      rintro e w1 ⟨rfl, k1, bb, s⟩
      refine ⟨0, rfl, bb, s, ans_turn (k1.mono (by omega) hM) (r.still s) fun q => ?_⟩
      refine (rrs_loop base h c cn sp B l _ ((r.still s).drewN q) a b hw l.length (Nat.le_refl _) hall hbds (fun hi => absurd hi (Nat.lt_irrefl _))).mono ?_
      intro e w' hh
      unfold RrsIs at hh
      rwa [if_neg (Nat.lt_irrefl _)] at hh
    · refine (rsz_over base g cw cap cn sp M A l w k a b hw i0 hi0 hov hbef).mono ?_
      rintro e w1 ⟨rfl, bb⟩
      refine ⟨10, rfl, bb.mono hws, Still.of_below bb, fun q => ?_⟩
      refine (rrs_loop base h c cn sp B l _ ((r.below bb).drewN q) a b hw i0 (Nat.le_of_lt hi0) hbef hbds (fun _ => hov)).mono ?_
      intro e w' hh
      unfold RrsIs at hh
      rw [if_pos hi0] at hh
      obtain ⟨he, b2⟩ := hh
      have b3 : Below w1.heap.size w1 w' := ⟨b2.os, b2.tape, b2.output, b2.size, b2.block⟩
      exact ⟨he, ⟨cw, cn, sp, A, cap, B, c, l, (k'.below bb).below b3, (r.below bb).below b3⟩, Only.of_below b3⟩
end
--GEN
def Did (base g h : Nat) (M : Int) (w : World) (e : Ending) (w' : World) : Prop := e = .returned (.bool true) ∧ Joint base g h M w' ∧ Below base w w'
set_option maxHeartbeats 2000000 in
theorem do_open (base g h cw cap c : Nat) (cn sp M : Int) (A B : Option Addr) (l : List Ln) (w : World) (k : Led base w g cw cn sp A cap l M) (r : Ref base w h cn sp B c l) (hM : M + 2147483647 ≤ 1000000000000000000) (x n t : Int) :
    Calls Try.prog 15 #[.pointer (some ⟨g, 0, none⟩), .pointer (some ⟨h, 0, none⟩), .agg #[.int .i64 0, .int .i64 x, .int .i64 n, .int .i64 t]] w (Did base g h (M + 2147483647) w) := by
  have HT := Lib.hid (fun (V : World) (kV : Led base V g cw cn sp A cap l M) (rV : Ref base V h cn sp B c l) => open_both base g h cw cap c cn sp M A B l V kV rV hM x n)
  have HKA := Lib.hid (And.intro (k.alloc (.cells #[.int .i64 0, .int .i64 x, .int .i64 n, .int .i64 t] 31)) (And.intro (r.alloc (.cells #[.int .i64 0, .int .i64 x, .int .i64 n, .int .i64 t] 31)) (And.intro (Blk.new w 31 #[.int .i64 0, .int .i64 x, .int .i64 n, .int .i64 t]) (And.intro (show w.heap.size ≠ h by have := r.lt; omega) (And.intro ((Below.refl base w).alloc (Nat.le_trans k.bas.1 (Nat.le_of_lt k.lt)) (.cells #[.int .i64 0, .int .i64 x, .int .i64 n, .int .i64 t] 31)) (Nat.le_trans k.bas.1 (Nat.le_of_lt k.lt)))))))
  clear k r
  go_enter Try.func15, Try.ntmps15
  go_wp2_with fail
  go_region_held3 (fun w' => w'.cell? ⟨w.heap.size, 1, none⟩ = some (.int .i64 x) ∧ w'.cell? ⟨w.heap.size, 2, none⟩ = some (.int .i64 n))
    (first
      | go_keep
      | (refine ⟨?_, ?_⟩ <;> with_reducible assumption))
    ((first
      | (go_at_call 8
         refine (HT.out _ (by exact HKA.out.1.drewN 1) (by exact HKA.out.2.1.drewN 1)).mono ?_
         rintro e w2 ⟨code, rfl, b2, s2, an⟩
         have bx := s2.blk (by exact HKA.out.2.2.1.drewN 1) (by decide) (by decide) (by decide)
         have p1 := Blk.cell bx 1
         have p2 := Blk.cell bx 2
         simp at p1 p2
         have H2 := Lib.hid (And.intro an (And.intro b2 bx))
         clear an b2 s2 bx)
      | (go_at_call 31
         refine (by exact H2.out.1 0 : Calls Try.prog 31 _ w2 _).mono ?_
         rintro e w3 ⟨rfl, jn, o3⟩
         have by_ := H2.out.2.2.only o3 (by simpa using HKA.out.2.2.2.1)
         have r1 := Blk.cell by_ 1
         have r2 := Blk.cell by_ 2
         simp at r1 r2
         have H3 := Lib.hid (And.intro jn ((below_drewN HKA.out.2.2.2.2.1 1).trans (H2.out.2.1.trans (o3.below (Nat.le_trans HKA.out.2.2.2.2.2 (Nat.le_trans HKA.out.2.2.2.2.1.size H2.out.2.1.size)) (by simpa using HKA.out.2.1.bas)))))
         clear by_ jn o3)))
  go_wp2_with fail
  go_ret
  exact ⟨rfl, H3.out⟩
set_option maxHeartbeats 2000000 in
theorem do_close (base g h cw cap c : Nat) (cn sp M : Int) (A B : Option Addr) (l : List Ln) (w : World) (k : Led base w g cw cn sp A cap l M) (r : Ref base w h cn sp B c l) (hM : M + 2147483647 ≤ 1000000000000000000) (x n t : Int) :
    Calls Try.prog 15 #[.pointer (some ⟨g, 0, none⟩), .pointer (some ⟨h, 0, none⟩), .agg #[.int .i64 1, .int .i64 x, .int .i64 n, .int .i64 t]] w (Did base g h (M + 2147483647) w) := by
  have HT := Lib.hid (fun (V : World) (kV : Led base V g cw cn sp A cap l M) (rV : Ref base V h cn sp B c l) => close_both base g h cw cap c cn sp M A B l V kV rV hM x)
  have HKA := Lib.hid (And.intro (k.alloc (.cells #[.int .i64 1, .int .i64 x, .int .i64 n, .int .i64 t] 31)) (And.intro (r.alloc (.cells #[.int .i64 1, .int .i64 x, .int .i64 n, .int .i64 t] 31)) (And.intro (Blk.new w 31 #[.int .i64 1, .int .i64 x, .int .i64 n, .int .i64 t]) (And.intro (show w.heap.size ≠ h by have := r.lt; omega) (And.intro ((Below.refl base w).alloc (Nat.le_trans k.bas.1 (Nat.le_of_lt k.lt)) (.cells #[.int .i64 1, .int .i64 x, .int .i64 n, .int .i64 t] 31)) (Nat.le_trans k.bas.1 (Nat.le_of_lt k.lt)))))))
  clear k r
  go_enter Try.func15, Try.ntmps15
  go_wp2_with fail
  go_region_held3 (fun w' => w'.cell? ⟨w.heap.size, 1, none⟩ = some (.int .i64 x))
    (first
      | go_keep
      | with_reducible assumption)
    ((first
      | (go_at_call 9
         refine (HT.out _ (by exact HKA.out.1.drewN 1) (by exact HKA.out.2.1.drewN 1)).mono ?_
         rintro e w2 ⟨code, rfl, b2, s2, an⟩
         have bx := s2.blk (by exact HKA.out.2.2.1.drewN 1) (by decide) (by decide) (by decide)
         have p1 := Blk.cell bx 1
         simp at p1
         have H2 := Lib.hid (And.intro an (And.intro b2 bx))
         clear an b2 s2 bx)
      | (go_at_call 32
         refine (by exact H2.out.1 0 : Calls Try.prog 32 _ w2 _).mono ?_
         rintro e w3 ⟨rfl, jn, o3⟩
         have by_ := H2.out.2.2.only o3 (by simpa using HKA.out.2.2.2.1)
         have r1 := Blk.cell by_ 1
         simp at r1
         have H3 := Lib.hid (And.intro jn ((below_drewN HKA.out.2.2.2.2.1 1).trans (H2.out.2.1.trans (o3.below (Nat.le_trans HKA.out.2.2.2.2.2 (Nat.le_trans HKA.out.2.2.2.2.1.size H2.out.2.1.size)) (by simpa using HKA.out.2.1.bas)))))
         clear by_ jn o3)))
  go_wp2_with fail
  go_ret
  exact ⟨rfl, H3.out⟩
set_option maxHeartbeats 2000000 in
theorem do_grow5 (base g h cw cap c : Nat) (cn sp M : Int) (A B : Option Addr) (l : List Ln) (w : World) (k : Led base w g cw cn sp A cap l M) (r : Ref base w h cn sp B c l) (hM : M + 2147483647 ≤ 1000000000000000000) (x n t : Int) :
    Calls Try.prog 15 #[.pointer (some ⟨g, 0, none⟩), .pointer (some ⟨h, 0, none⟩), .agg #[.int .i64 5, .int .i64 x, .int .i64 n, .int .i64 t]] w (Did base g h (M + 2147483647) w) := by
  have HT := Lib.hid (fun (V : World) (kV : Led base V g cw cn sp A cap l M) (rV : Ref base V h cn sp B c l) => grow_both base g h cw cap c cn sp M A B l V kV rV hM x n)
  have HKA := Lib.hid (And.intro (k.alloc (.cells #[.int .i64 5, .int .i64 x, .int .i64 n, .int .i64 t] 31)) (And.intro (r.alloc (.cells #[.int .i64 5, .int .i64 x, .int .i64 n, .int .i64 t] 31)) (And.intro (Blk.new w 31 #[.int .i64 5, .int .i64 x, .int .i64 n, .int .i64 t]) (And.intro (show w.heap.size ≠ h by have := r.lt; omega) (And.intro ((Below.refl base w).alloc (Nat.le_trans k.bas.1 (Nat.le_of_lt k.lt)) (.cells #[.int .i64 5, .int .i64 x, .int .i64 n, .int .i64 t] 31)) (Nat.le_trans k.bas.1 (Nat.le_of_lt k.lt)))))))
  clear k r
  go_enter Try.func15, Try.ntmps15
  go_wp2_with fail
  go_region_held3 (fun w' => w'.cell? ⟨w.heap.size, 1, none⟩ = some (.int .i64 x) ∧ w'.cell? ⟨w.heap.size, 2, none⟩ = some (.int .i64 n))
    (first
      | go_keep
      | (refine ⟨?_, ?_⟩ <;> with_reducible assumption))
    ((first
      | (go_at_call 10
         refine (HT.out _ (by exact HKA.out.1.drewN 1) (by exact HKA.out.2.1.drewN 1)).mono ?_
         rintro e w2 ⟨code, rfl, b2, s2, an⟩
         have bx := s2.blk (by exact HKA.out.2.2.1.drewN 1) (by decide) (by decide) (by decide)
         have p1 := Blk.cell bx 1
         have p2 := Blk.cell bx 2
         simp at p1 p2
         have H2 := Lib.hid (And.intro an (And.intro b2 bx))
         clear an b2 s2 bx)
      | (go_at_call 33
         refine (by exact H2.out.1 0 : Calls Try.prog 33 _ w2 _).mono ?_
         rintro e w3 ⟨rfl, jn, o3⟩
         have by_ := H2.out.2.2.only o3 (by simpa using HKA.out.2.2.2.1)
         have r1 := Blk.cell by_ 1
         have r2 := Blk.cell by_ 2
         simp at r1 r2
         have H3 := Lib.hid (And.intro jn ((below_drewN HKA.out.2.2.2.2.1 1).trans (H2.out.2.1.trans (o3.below (Nat.le_trans HKA.out.2.2.2.2.2 (Nat.le_trans HKA.out.2.2.2.2.1.size H2.out.2.1.size)) (by simpa using HKA.out.2.1.bas)))))
         clear by_ jn o3)))
  go_wp2_with fail
  go_ret
  exact ⟨rfl, H3.out⟩
set_option maxHeartbeats 2000000 in
theorem do_grow6 (base g h cw cap c : Nat) (cn sp M : Int) (A B : Option Addr) (l : List Ln) (w : World) (k : Led base w g cw cn sp A cap l M) (r : Ref base w h cn sp B c l) (hM : M + 2147483647 ≤ 1000000000000000000) (x n t : Int) :
    Calls Try.prog 15 #[.pointer (some ⟨g, 0, none⟩), .pointer (some ⟨h, 0, none⟩), .agg #[.int .i64 6, .int .i64 x, .int .i64 n, .int .i64 t]] w (Did base g h (M + 2147483647) w) := by
  have HT := Lib.hid (fun (V : World) (kV : Led base V g cw cn sp A cap l M) (rV : Ref base V h cn sp B c l) => grow_both base g h cw cap c cn sp M A B l V kV rV hM x n)
  have HKA := Lib.hid (And.intro (k.alloc (.cells #[.int .i64 6, .int .i64 x, .int .i64 n, .int .i64 t] 31)) (And.intro (r.alloc (.cells #[.int .i64 6, .int .i64 x, .int .i64 n, .int .i64 t] 31)) (And.intro (Blk.new w 31 #[.int .i64 6, .int .i64 x, .int .i64 n, .int .i64 t]) (And.intro (show w.heap.size ≠ h by have := r.lt; omega) (And.intro ((Below.refl base w).alloc (Nat.le_trans k.bas.1 (Nat.le_of_lt k.lt)) (.cells #[.int .i64 6, .int .i64 x, .int .i64 n, .int .i64 t] 31)) (Nat.le_trans k.bas.1 (Nat.le_of_lt k.lt)))))))
  clear k r
  go_enter Try.func15, Try.ntmps15
  go_wp2_with fail
  go_region_held3 (fun w' => w'.cell? ⟨w.heap.size, 1, none⟩ = some (.int .i64 x) ∧ w'.cell? ⟨w.heap.size, 2, none⟩ = some (.int .i64 n))
    (first
      | go_keep
      | (refine ⟨?_, ?_⟩ <;> with_reducible assumption))
    ((first
      | (go_at_call 10
         refine (HT.out _ (by exact HKA.out.1.drewN 1) (by exact HKA.out.2.1.drewN 1)).mono ?_
         rintro e w2 ⟨code, rfl, b2, s2, an⟩
         have bx := s2.blk (by exact HKA.out.2.2.1.drewN 1) (by decide) (by decide) (by decide)
         have p1 := Blk.cell bx 1
         have p2 := Blk.cell bx 2
         simp at p1 p2
         have H2 := Lib.hid (And.intro an (And.intro b2 bx))
         clear an b2 s2 bx)
      | (go_at_call 33
         refine (by exact H2.out.1 0 : Calls Try.prog 33 _ w2 _).mono ?_
         rintro e w3 ⟨rfl, jn, o3⟩
         have by_ := H2.out.2.2.only o3 (by simpa using HKA.out.2.2.2.1)
         have r1 := Blk.cell by_ 1
         have r2 := Blk.cell by_ 2
         simp at r1 r2
         have H3 := Lib.hid (And.intro jn ((below_drewN HKA.out.2.2.2.2.1 1).trans (H2.out.2.1.trans (o3.below (Nat.le_trans HKA.out.2.2.2.2.2 (Nat.le_trans HKA.out.2.2.2.2.1.size H2.out.2.1.size)) (by simpa using HKA.out.2.1.bas)))))
         clear by_ jn o3)))
  go_wp2_with fail
  go_ret
  exact ⟨rfl, H3.out⟩
set_option maxHeartbeats 2000000 in
theorem do_resize (base g h cw cap c : Nat) (cn sp M : Int) (A B : Option Addr) (l : List Ln) (w : World) (k : Led base w g cw cn sp A cap l M) (r : Ref base w h cn sp B c l) (hM : M + 2147483647 ≤ 1000000000000000000) (x n t : Int) :
    Calls Try.prog 15 #[.pointer (some ⟨g, 0, none⟩), .pointer (some ⟨h, 0, none⟩), .agg #[.int .i64 7, .int .i64 x, .int .i64 n, .int .i64 t]] w (Did base g h (M + 2147483647) w) := by
  have HT := Lib.hid (fun (V : World) (kV : Led base V g cw cn sp A cap l M) (rV : Ref base V h cn sp B c l) => resize_both base g h cw cap c cn sp M A B l V kV rV hM n t)
  have HKA := Lib.hid (And.intro (k.alloc (.cells #[.int .i64 7, .int .i64 x, .int .i64 n, .int .i64 t] 31)) (And.intro (r.alloc (.cells #[.int .i64 7, .int .i64 x, .int .i64 n, .int .i64 t] 31)) (And.intro (Blk.new w 31 #[.int .i64 7, .int .i64 x, .int .i64 n, .int .i64 t]) (And.intro (show w.heap.size ≠ h by have := r.lt; omega) (And.intro ((Below.refl base w).alloc (Nat.le_trans k.bas.1 (Nat.le_of_lt k.lt)) (.cells #[.int .i64 7, .int .i64 x, .int .i64 n, .int .i64 t] 31)) (Nat.le_trans k.bas.1 (Nat.le_of_lt k.lt)))))))
  clear k r
  go_enter Try.func15, Try.ntmps15
  go_wp2_with fail
  go_region_held3 (fun w' => w'.cell? ⟨w.heap.size, 2, none⟩ = some (.int .i64 n) ∧ w'.cell? ⟨w.heap.size, 3, none⟩ = some (.int .i64 t))
    (first
      | go_keep
      | (refine ⟨?_, ?_⟩ <;> with_reducible assumption))
    ((first
      | (go_at_call 12
         refine (HT.out _ (by exact HKA.out.1.drewN 1) (by exact HKA.out.2.1.drewN 1)).mono ?_
         rintro e w2 ⟨code, rfl, b2, s2, an⟩
         have bx := s2.blk (by exact HKA.out.2.2.1.drewN 1) (by decide) (by decide) (by decide)
         have p2 := Blk.cell bx 2
         have p3 := Blk.cell bx 3
         simp at p2 p3
         have H2 := Lib.hid (And.intro an (And.intro b2 bx))
         clear an b2 s2 bx)
      | (go_at_call 34
         refine (by exact H2.out.1 0 : Calls Try.prog 34 _ w2 _).mono ?_
         rintro e w3 ⟨rfl, jn, o3⟩
         have by_ := H2.out.2.2.only o3 (by simpa using HKA.out.2.2.2.1)
         have r2 := Blk.cell by_ 2
         have r3 := Blk.cell by_ 3
         simp at r2 r3
         have H3 := Lib.hid (And.intro jn ((below_drewN HKA.out.2.2.2.2.1 1).trans (H2.out.2.1.trans (o3.below (Nat.le_trans HKA.out.2.2.2.2.2 (Nat.le_trans HKA.out.2.2.2.2.1.size H2.out.2.1.size)) (by simpa using HKA.out.2.1.bas)))))
         clear by_ jn o3)))
  go_wp2_with fail
  go_ret
  exact ⟨rfl, H3.out⟩
set_option maxHeartbeats 2000000 in
theorem do_spend (base g h cw cap c : Nat) (cn sp M : Int) (A B : Option Addr) (l : List Ln) (w : World) (k : Led base w g cw cn sp A cap l M) (r : Ref base w h cn sp B c l) (hM : M + 2147483647 ≤ 1000000000000000000) (kd x n t : Int) (h0 : (kd == 0) = false) (h1 : (kd == 1) = false) (h5 : (kd == 5) = false) (h6 : (kd == 6) = false) (h7 : (kd == 7) = false) :
    Calls Try.prog 15 #[.pointer (some ⟨g, 0, none⟩), .pointer (some ⟨h, 0, none⟩), .agg #[.int .i64 kd, .int .i64 x, .int .i64 n, .int .i64 t]] w (Did base g h (M + 2147483647) w) := by
  have HT := Lib.hid (fun (V : World) (kV : Led base V g cw cn sp A cap l M) (rV : Ref base V h cn sp B c l) => spend_both base g h cw cap c cn sp M A B l V kV rV hM x n)
  have HKA := Lib.hid (And.intro (k.alloc (.cells #[.int .i64 kd, .int .i64 x, .int .i64 n, .int .i64 t] 31)) (And.intro (r.alloc (.cells #[.int .i64 kd, .int .i64 x, .int .i64 n, .int .i64 t] 31)) (And.intro (Blk.new w 31 #[.int .i64 kd, .int .i64 x, .int .i64 n, .int .i64 t]) (And.intro (show w.heap.size ≠ h by have := r.lt; omega) (And.intro ((Below.refl base w).alloc (Nat.le_trans k.bas.1 (Nat.le_of_lt k.lt)) (.cells #[.int .i64 kd, .int .i64 x, .int .i64 n, .int .i64 t] 31)) (Nat.le_trans k.bas.1 (Nat.le_of_lt k.lt)))))))
  clear k r
  go_enter Try.func15, Try.ntmps15
  go_wp2_with fail
  go_region_held3 (fun w' => w'.cell? ⟨w.heap.size, 1, none⟩ = some (.int .i64 x) ∧ w'.cell? ⟨w.heap.size, 2, none⟩ = some (.int .i64 n))
    (first
      | go_keep
      | (refine ⟨?_, ?_⟩ <;> with_reducible assumption))
    ((first
      | (go_at_call 13
         refine (HT.out _ (by exact HKA.out.1.drewN 1) (by exact HKA.out.2.1.drewN 1)).mono ?_
         rintro e w2 ⟨code, rfl, b2, s2, an⟩
         have bx := s2.blk (by exact HKA.out.2.2.1.drewN 1) (by decide) (by decide) (by decide)
         have p1 := Blk.cell bx 1
         have p2 := Blk.cell bx 2
         simp at p1 p2
         have H2 := Lib.hid (And.intro an (And.intro b2 bx))
         clear an b2 s2 bx)
      | (go_at_call 35
         refine (by exact H2.out.1 0 : Calls Try.prog 35 _ w2 _).mono ?_
         rintro e w3 ⟨rfl, jn, o3⟩
         have by_ := H2.out.2.2.only o3 (by simpa using HKA.out.2.2.2.1)
         have r1 := Blk.cell by_ 1
         have r2 := Blk.cell by_ 2
         simp at r1 r2
         have H3 := Lib.hid (And.intro jn ((below_drewN HKA.out.2.2.2.2.1 1).trans (H2.out.2.1.trans (o3.below (Nat.le_trans HKA.out.2.2.2.2.2 (Nat.le_trans HKA.out.2.2.2.2.1.size H2.out.2.1.size)) (by simpa using HKA.out.2.1.bas)))))
         clear by_ jn o3)))
  go_wp2_with fail
  go_ret
  exact ⟨rfl, H3.out⟩
theorem do_any (base g h : Nat) (M : Int) (w : World) (j : Joint base g h M w) (hM : M + 2147483647 ≤ 1000000000000000000) (kd x n t : Int) :
    Calls Try.prog 15 #[.pointer (some ⟨g, 0, none⟩), .pointer (some ⟨h, 0, none⟩), .agg #[.int .i64 kd, .int .i64 x, .int .i64 n, .int .i64 t]] w (Did base g h (M + 2147483647) w) := by
  obtain ⟨cw, cn, sp, A, cap, B, c, l, k, r⟩ := j
  by_cases h0 : kd = 0
  · subst h0; exact do_open base g h cw cap c cn sp M A B l w k r hM x n t
  by_cases h1 : kd = 1
  · subst h1; exact do_close base g h cw cap c cn sp M A B l w k r hM x n t
  by_cases h5 : kd = 5
  · subst h5; exact do_grow5 base g h cw cap c cn sp M A B l w k r hM x n t
  by_cases h6 : kd = 6
  · subst h6; exact do_grow6 base g h cw cap c cn sp M A B l w k r hM x n t
  by_cases h7 : kd = 7
  · subst h7; exact do_resize base g h cw cap c cn sp M A B l w k r hM x n t
  exact do_spend base g h cw cap c cn sp M A B l w k r hM kd x n t (beq_eq_false_iff_ne.2 h0) (beq_eq_false_iff_ne.2 h1) (beq_eq_false_iff_ne.2 h5) (beq_eq_false_iff_ne.2 h6) (beq_eq_false_iff_ne.2 h7)
end Go.Proofs.Ytpbahmnlhckgbaa
