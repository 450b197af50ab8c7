/- The walks of the answer's Move, Insert. -/
import Derived.Test.YtifgbnjpiphidaaTreF
namespace Go.Proofs.Ytifgbnjpiphidaa
open Go.RowKit
set_option linter.unusedVariables false
def TurnRE (w : World) (h : Nat) (err : Int) (l' : List Nd) (e : Ending) (w' : World) : Prop := e = .returned (.int .i64 err) ∧ TurnR w h l' w'
theorem turnR_same {w w' : World} {h c : Nat} {B : Option Addr} {l : List Nd} (k : Rt w h B c l) (hb : Below w.heap.size w w') : TurnR w h l w' := ⟨B, c, k.below hb, Only.of_below hb⟩
theorem reads_tri (w : World) (e : TypeId) (x y z : Int) : Reads (w.alloc (.cells #[.int .i64 x, .int .i64 y, .int .i64 z] e)) (w.heap.size + 1) 3 (some ⟨w.heap.size, 0, none⟩) 1 [.int .i64 x, .int .i64 y, .int .i64 z] :=
  ⟨rfl, fun _ => ⟨_, rfl, by simp, fun j u hu => World.news_of_block (cs := #[.int .i64 x, .int .i64 y, .int .i64 z]) (t := e) (fr := (0, 0)) (heap_alloc_new w _) j u hu⟩⟩
theorem turnR_only {w w1 w2 : World} {h : Nat} {l : List Nd} (hb : Only [h] w w1) (t : TurnR w1 h l w2) : TurnR w h l w2 := by
  obtain ⟨B, c, k, o⟩ := t
  exact ⟨B, c, k, hb.trans_ o⟩
theorem turnR_from {w w1 w2 : World} {h : Nat} {l : List Nd} (hb : Below w.heap.size w w1) (t : TurnR w1 h l w2) : TurnR w h l w2 := by
  obtain ⟨B, c, k, o⟩ := t
  exact ⟨B, c, k, (Only.of_below (S := [h]) hb).trans_ o⟩
set_option maxHeartbeats 4000000 in
theorem rmove_any (h c : Nat) (B : Option Addr) (l : List Nd) (w : World) (k : Rt w h B c l) (ok : OkT l) (id : Int) (d : Dp) :
    Calls Try.prog 26 #[.pointer (some ⟨h, 0, none⟩), .int .i64 id, .agg (da d)] w (TurnRE w h (moveS l id d).1 (moveS l id d).2) := by
  obtain ⟨r, hr⟩ := ok
  obtain ⟨on, wt, ex⟩ := d
  have z1 := Blk.new w 30 #[.int .i64 on, .int .i64 wt, .bool ex]
  have B1 : Below w.heap.size w (w.alloc (.cells #[.int .i64 on, .int .i64 wt, .bool ex] 30)) := (Below.refl _ _).alloc (Nat.le_refl _) _
  have H1 := Lib.hid (And.intro (k.below B1) (And.intro z1 B1))
  have HK := Lib.hid k
  have HR := Lib.hid hr
  have d0 : (w.alloc (.cells #[.int .i64 on, .int .i64 wt, .bool ex] 30)).cell? ⟨w.heap.size, 0, none⟩ = some (.int .i64 on) := Blk.cell z1 0
  have d1 : (w.alloc (.cells #[.int .i64 on, .int .i64 wt, .bool ex] 30)).cell? ⟨w.heap.size, 1, none⟩ = some (.int .i64 wt) := Blk.cell z1 1
  have d2 : (w.alloc (.cells #[.int .i64 on, .int .i64 wt, .bool ex] 30)).cell? ⟨w.heap.size, 2, none⟩ = some (.bool ex) := Blk.cell z1 2
  clear k hr z1 B1
  unfold da
  cases hg : getN l id with
  | none =>
    have HM : Hid (moveS l id ⟨on, wt, ex⟩ = (7, l)) := by
      show moveS l id ⟨on, wt, ex⟩ = _
      unfold moveS
      rw [hg]
    rw [HM.out]
    have HC := Lib.hid (rfind_no h c id B l _ H1.out.1 hg)
    have HF := Lib.hid (turnR_same HK.out H1.out.2.2)
    clear hg
    go_enter Try.func26, Try.ntmps26
    go_wp2_with fail
    refine HC.out.mono ?_
    rintro e w2 ⟨rfl, rfl⟩
    go_wp2_with fail
    go_ret
    exact ⟨rfl, HF.out⟩
  | some p =>
    obtain ⟨i, hi, _, hF⟩ := rfind_fix (h := h) (c := c) (B := B) HR.out.uq hg
    have HC := Lib.hid (hF _ H1.out.1)
    have HG := Lib.hid hg
    have hi0 : (0 : Int) ≤ i := by omega
    clear hF
    by_cases h1 : mayB ⟨on, wt, ex⟩ = true
    · by_cases h2 : on = id
      · have HM : Hid (moveS l id ⟨on, wt, ex⟩ = (12, l)) := by
          show moveS l id ⟨on, wt, ex⟩ = _
          unfold moveS
          rw [hg]
          simp only
          rw [if_neg (by rw [h1]; decide), if_pos h2]
        rw [HM.out]
        have HB := Lib.hid h1
        have heb : (on == id) = true := by simp [h2]
        clear hg h1 h2
        go_enter Try.func26, Try.ntmps26
        go_wp2_with fail
        refine HC.out.mono ?_
        rintro e w2 ⟨rfl, rfl⟩
        generalize w.alloc (.cells #[.int .i64 on, .int .i64 wt, .bool ex] 30) = w1 at *
        go_wp2_with fail
        refine (may_ref ⟨on, wt, ex⟩ w1).mono ?_
        rintro e w3 ⟨rfl, b3⟩
        rw [HB.out]
        have HF := Lib.hid (turnR_same HK.out (H1.out.2.2.trans (b3.mono H1.out.2.2.size)))
        have e0 := Blk.cell (H1.out.2.1.below b3 H1.out.2.1.lt) 0
        simp at e0
        clear b3 d0 d1 d2
        go_wp2_with fail
        go_ret
        exact ⟨rfl, HF.out⟩
      · have HB := Lib.hid h1
        have HN := Lib.hid h2
        have heb : (on == id) = false := by simp [h2]
        have HM : Hid (∀ w', ((Abv l id (knownL l ⟨on, wt, ex⟩).on → TurnR w h (layL (hangN l (knownL l ⟨on, wt, ex⟩).on p.on) id (knownL l ⟨on, wt, ex⟩)) w') ∧ (¬ Abv l id (knownL l ⟨on, wt, ex⟩).on → TurnR w h (layL l id (knownL l ⟨on, wt, ex⟩)) w')) → (moveS l id ⟨on, wt, ex⟩).1 = 0 ∧ TurnR w h (moveS l id ⟨on, wt, ex⟩).2 w') := by
          intro w' ⟨q1, q2⟩
          unfold moveS
          rw [hg]
          simp only
          rw [if_neg (by rw [h1]; decide), if_neg h2]
          by_cases ha : Abv l id (knownL l ⟨on, wt, ex⟩).on
          · rw [if_pos ha]; exact ⟨rfl, q1 ha⟩
          · rw [if_neg ha]; exact ⟨rfl, q2 ha⟩
        generalize (moveS l id ⟨on, wt, ex⟩).1 = er at *
        generalize (moveS l id ⟨on, wt, ex⟩).2 = l2 at *
        clear hg h1 h2
        go_enter Try.func26, Try.ntmps26
        go_wp2_with fail
        refine HC.out.mono ?_
        rintro e w2 ⟨rfl, rfl⟩
        generalize w.alloc (.cells #[.int .i64 on, .int .i64 wt, .bool ex] 30) = w1 at *
        go_wp2_with fail
        refine (may_ref ⟨on, wt, ex⟩ w1).mono ?_
        rintro e w3 ⟨rfl, b3⟩
        rw [HB.out]
        have z3 := H1.out.2.1.below b3 H1.out.2.1.lt
        have H3 := Lib.hid (And.intro (H1.out.1.below b3) (H1.out.2.2.trans (b3.mono H1.out.2.2.size)))
        have e0 := Blk.cell z3 0
        have e1 := Blk.cell z3 1
        have e2 := Blk.cell z3 2
        simp at e0 e1 e2
        clear b3 d0 d1 d2 z3
        go_wp2_with fail
        refine (rlay_any h c B l w3 H3.out.1 r HR.out.uq HR.out.rk HR.out.root id ⟨on, wt, ex⟩ p HG.out).mono ?_
        rintro e w4 ⟨rfl, q1, q2⟩
        obtain ⟨q3, q4⟩ := HM.out w4 ⟨fun ha => turnR_from H3.out.2 (q1 ha), fun ha => turnR_from H3.out.2 (q2 ha)⟩
        have HF := Lib.hid q4
        subst q3
        clear q1 q2 q4
        go_wp2_with fail
        go_ret
        exact ⟨rfl, HF.out⟩
    · have h1' : mayB ⟨on, wt, ex⟩ = false := by cases h : mayB ⟨on, wt, ex⟩ with | false => rfl | true => exact absurd h h1
      have HM : Hid (moveS l id ⟨on, wt, ex⟩ = (2, l)) := by
        show moveS l id ⟨on, wt, ex⟩ = _
        unfold moveS
        rw [hg]
        simp only
        rw [if_pos h1']
      rw [HM.out]
      have HB := Lib.hid h1'
      clear hg h1 h1'
      go_enter Try.func26, Try.ntmps26
      go_wp2_with fail
      refine HC.out.mono ?_
      rintro e w2 ⟨rfl, rfl⟩
      generalize w.alloc (.cells #[.int .i64 on, .int .i64 wt, .bool ex] 30) = w1 at *
      go_wp2_with fail
      refine (may_ref ⟨on, wt, ex⟩ w1).mono ?_
      rintro e w3 ⟨rfl, b3⟩
      rw [HB.out]
      have HF := Lib.hid (turnR_same HK.out (H1.out.2.2.trans (b3.mono H1.out.2.2.size)))
      clear b3 d0 d1 d2
      go_wp2_with fail
      go_ret
      exact ⟨rfl, HF.out⟩
/-- A node that hangs on nothing yet. -/
def newL (l : List Nd) (id : Int) : List Nd := l ++ [⟨id, -1, 1⟩]
theorem new_none {l : List Nd} {r : Int → Nat} (h : TreeOk l r) {id : Int} (hi : id ≠ 0) (hn : getN l id = none) : ∀ p ∈ l, p.on ≠ id := fun p hp hh => by
  rcases h.cl p hp with h3 | ⟨q, h3⟩
  · rw [hh] at h3; exact hi h3
  · rw [hh, hn] at h3; cases h3
theorem new_rk {l : List Nd} {r : Int → Nat} (h : TreeOk l r) {id : Int} (hi : 1 ≤ id) (hn : getN l id = none) : Rk (newL l id) (fun x => if x = id then r (-1) + 1 else r x) := by
  intro p hp
  rcases List.mem_append.1 hp with hp | hp
  · have h4 := getN_none.1 hn p hp
    show (if p.on = id then r (-1) + 1 else r p.on) < (if p.id = id then r (-1) + 1 else r p.id)
    rw [if_neg (new_none h (by omega) hn p hp), if_neg h4]
    exact h.rk p hp
  · simp at hp
    subst hp
    show (if (-1 : Int) = id then r (-1) + 1 else r (-1)) < (if id = id then r (-1) + 1 else r id)
    rw [if_neg (by omega), if_pos rfl]
    omega
theorem new_abv {l : List Nd} {r : Int → Nat} (h : TreeOk l r) {id : Int} (hi : 1 ≤ id) (hn : getN l id = none) (x : Int) : ¬ Abv (newL l id) id x := by
  have key : ∀ p ∈ newL l id, p.on ≠ id := fun p hp => by
    rcases List.mem_append.1 hp with hp | hp
    · exact new_none h (by omega) hn p hp
    · simp at hp
      subst hp
      show (-1 : Int) ≠ id
      omega
  intro ha
  induction ha with
  | here h1 h2 => exact key _ (getN_mem h1).1 h2
  | up _ _ ih => exact ih
theorem new_get (l : List Nd) (id x : Int) (hx : x ≠ id) : getN (newL l id) x = getN l x := by
  unfold newL
  rw [getN_append, getN_cons, if_neg (fun e => hx e.symm), getN_nil]
  cases getN l x <;> rfl
theorem new_self {l : List Nd} {id : Int} (hn : getN l id = none) : getN (newL l id) id = some ⟨id, -1, 1⟩ := by
  unfold newL
  rw [getN_append, hn, getN_cons, if_pos rfl]
  rfl
theorem new_known (l : List Nd) (id : Int) (d : Dp) (hd : d.on ≠ id) : knownL (newL l id) d = knownL l d := by
  unfold knownL
  rw [new_get l id d.on hd]
theorem put_new {X : List Nd} {id : Int} (hn : getN X id = none) (o t : Int) : putN (X ++ [⟨id, -1, 1⟩]) ⟨id, o, t⟩ = putN X ⟨id, o, t⟩ := by
  have h1 : getN (X ++ [⟨id, -1, 1⟩]) id = some ⟨id, -1, 1⟩ := new_self hn
  unfold putN
  simp only [h1, hn, Option.isSome_some, Option.isSome_none, if_true, Bool.false_eq_true, if_false]
  rw [List.map_append]
  congr 1
  · have : X.map (fun p => if p.id = id then (⟨id, o, t⟩ : Nd) else p) = X.map (fun p => p) := List.map_congr_left fun p hp => by
      rw [if_neg (getN_none.1 hn p hp)]
    rw [this, List.map_id']
  · simp
theorem new_lay {l : List Nd} {id : Int} (hn : getN l id = none) (k : Dp) (hk : 0 ≤ k.on) : layL (newL l id) id k = layL l id k := by
  unfold layL
  cases k.ex with
  | false => exact put_new hn _ _
  | true =>
    simp only [if_true]
    have e : takeN (newL l id) id k.on = takeN l id k.on ++ [⟨id, -1, 1⟩] := by
      unfold takeN newL
      rw [List.map_append]
      congr 1
      simp
    rw [e]
    refine put_new ?_ _ _
    rw [getN_take, hn]
    rfl
theorem known_pos {l : List Nd} {d : Dp} (h : mayB d = true) : 0 ≤ (knownL l d).on := by
  have h1 := of_decide_eq_true h
  unfold knownL
  split
  · exact Int.le_refl _
  · exact h1.1
set_option maxHeartbeats 4000000 in
theorem rinsert_any (h c : Nat) (B : Option Addr) (l : List Nd) (w : World) (k : Rt w h B c l) (ok : OkT l) (hl : l.length ≤ 256) (most id : Int) (hmo : most ≤ 256) (d : Dp) :
    Calls Try.prog 28 #[.pointer (some ⟨h, 0, none⟩), .int .i64 id, .int .i64 most, .agg (da d)] w (TurnRE w h (insertS l most id d).1 (insertS l most id d).2) := by
  obtain ⟨i0, hi0, hz0, hz1, hz2⟩ := info_parts info_RE
  obtain ⟨r, hr⟩ := ok
  obtain ⟨on, wt, ex⟩ := d
  have z1 := Blk.new w 30 #[.int .i64 on, .int .i64 wt, .bool ex]
  have B1 : Below w.heap.size w (w.alloc (.cells #[.int .i64 on, .int .i64 wt, .bool ex] 30)) := (Below.refl _ _).alloc (Nat.le_refl _) _
  have H1 := Lib.hid (And.intro (k.below B1) (And.intro z1 B1))
  have HK := Lib.hid k
  have HR := Lib.hid hr
  have d0 : (w.alloc (.cells #[.int .i64 on, .int .i64 wt, .bool ex] 30)).cell? ⟨w.heap.size, 0, none⟩ = some (.int .i64 on) := Blk.cell z1 0
  have d1 : (w.alloc (.cells #[.int .i64 on, .int .i64 wt, .bool ex] 30)).cell? ⟨w.heap.size, 1, none⟩ = some (.int .i64 wt) := Blk.cell z1 1
  have d2 : (w.alloc (.cells #[.int .i64 on, .int .i64 wt, .bool ex] 30)).cell? ⟨w.heap.size, 2, none⟩ = some (.bool ex) := Blk.cell z1 2
  clear k hr z1 B1
  unfold da
  by_cases hid : 1 ≤ id ∧ id ≤ 2147483647
  · obtain ⟨hid1, hid2⟩ := hid
    cases hm : mayB ⟨on, wt, ex⟩ with
    | false =>
      have HM : Hid (insertS l most id ⟨on, wt, ex⟩ = (2, l)) := by
        show insertS l most id ⟨on, wt, ex⟩ = _
        unfold insertS
        rw [if_neg (by omega), if_pos hm]
      rw [HM.out]
      have HB := Lib.hid hm
      clear hm
      go_enter Try.func28, Try.ntmps28
      go_wp2_with fail
      generalize w.alloc (.cells #[.int .i64 on, .int .i64 wt, .bool ex] 30) = w1 at *
      refine (may_ref ⟨on, wt, ex⟩ w1).mono ?_
      rintro e w3 ⟨rfl, b3⟩
      rw [HB.out]
      have HF := Lib.hid (turnR_same HK.out (H1.out.2.2.trans (b3.mono H1.out.2.2.size)))
      clear b3 d0 d1 d2
      go_wp2_with fail
      go_ret
      exact ⟨rfl, HF.out⟩
    | true =>
      have HB := Lib.hid hm
      by_cases hc : on = id
      · have HM : Hid (insertS l most id ⟨on, wt, ex⟩ = (12, l)) := by
          show insertS l most id ⟨on, wt, ex⟩ = _
          unfold insertS
          rw [if_neg (by omega), if_neg (by rw [hm]; decide), if_pos hc]
        rw [HM.out]
        have heb : (on == id) = true := by simp [hc]
        clear hm hc
        go_enter Try.func28, Try.ntmps28
        go_wp2_with fail
        generalize w.alloc (.cells #[.int .i64 on, .int .i64 wt, .bool ex] 30) = w1 at *
        refine (may_ref ⟨on, wt, ex⟩ w1).mono ?_
        rintro e w3 ⟨rfl, b3⟩
        rw [HB.out]
        have HF := Lib.hid (turnR_same HK.out (H1.out.2.2.trans (b3.mono H1.out.2.2.size)))
        have e0 := Blk.cell (H1.out.2.1.below b3 H1.out.2.1.lt) 0
        simp at e0
        clear b3 d0 d1 d2
        go_wp2_with fail
        go_ret
        exact ⟨rfl, HF.out⟩
      · have heb : (on == id) = false := by simp [hc]
        cases hg : getN l id with
        | some p =>
          have HM : Hid (insertS l most id ⟨on, wt, ex⟩ = (8, l)) := by
            show insertS l most id ⟨on, wt, ex⟩ = _
            unfold insertS
            rw [if_neg (by omega), if_neg (by rw [hm]; decide), if_neg hc, if_pos (by rw [hg]; rfl)]
          rw [HM.out]
          obtain ⟨i, hi, _, hF⟩ := rfind_fix (h := h) (c := c) (B := B) HR.out.uq hg
          have HC := Lib.hid hF
          have hi0' : (0 : Int) ≤ i := by omega
          clear hF hg hm hc
          go_enter Try.func28, Try.ntmps28
          go_wp2_with fail
          generalize w.alloc (.cells #[.int .i64 on, .int .i64 wt, .bool ex] 30) = w1 at *
          refine (may_ref ⟨on, wt, ex⟩ w1).mono ?_
          rintro e w3 ⟨rfl, b3⟩
          rw [HB.out]
          have H3 := Lib.hid (And.intro (H1.out.1.below b3) (H1.out.2.2.trans (b3.mono H1.out.2.2.size)))
          have e0 := Blk.cell (H1.out.2.1.below b3 H1.out.2.1.lt) 0
          simp at e0
          clear b3 d0 d1 d2
          go_wp2_with fail
          refine (HC.out w3 H3.out.1).mono ?_
          rintro e w4 ⟨rfl, rfl⟩
          have HF := Lib.hid (turnR_same HK.out H3.out.2)
          go_wp2_with fail
          go_ret
          exact ⟨rfl, HF.out⟩
        | none =>
          have HC := Lib.hid (fun W (kW : Rt W h B c l) => rfind_no h c id B l W kW hg)
          have hcap := HK.out.capb
          by_cases hful : most ≤ l.length
          · have HM : Hid (insertS l most id ⟨on, wt, ex⟩ = (16, l)) := by
              show insertS l most id ⟨on, wt, ex⟩ = _
              unfold insertS
              rw [if_neg (by omega), if_neg (by rw [hm]; decide), if_neg hc, if_neg (by rw [hg]; decide), if_pos hful]
            rw [HM.out]
            clear hg hm hc
            go_enter Try.func28, Try.ntmps28
            go_wp2_with fail
            generalize w.alloc (.cells #[.int .i64 on, .int .i64 wt, .bool ex] 30) = w1 at *
            refine (may_ref ⟨on, wt, ex⟩ w1).mono ?_
            rintro e w3 ⟨rfl, b3⟩
            rw [HB.out]
            have H3 := Lib.hid (And.intro (H1.out.1.below b3) (H1.out.2.2.trans (b3.mono H1.out.2.2.size)))
            have e0 := Blk.cell (H1.out.2.1.below b3 H1.out.2.1.lt) 0
            have g0 := Blk.cell H3.out.1.blk 0
            simp at e0 g0
            clear b3 d0 d1 d2
            go_wp2_with fail
            refine (HC.out w3 H3.out.1).mono ?_
            rintro e w4 ⟨rfl, rfl⟩
            have HF := Lib.hid (turnR_same HK.out H3.out.2)
            go_wp2_with fail
            go_ret
            exact ⟨rfl, HF.out⟩
          · have hful' : (l.length : Int) < most := by omega
            have HM : Hid (insertS l most id ⟨on, wt, ex⟩ = (0, layL (newL l id) id (knownL (newL l id) ⟨on, wt, ex⟩))) := by
              show insertS l most id ⟨on, wt, ex⟩ = _
              unfold insertS
              rw [if_neg (by omega), if_neg (by rw [hm]; decide), if_neg hc, if_neg (by rw [hg]; decide), if_neg hful, new_known l id _ hc, new_lay hg _ (known_pos hm)]
            rw [HM.out]
            have HN : Hid (Uq (newL l id) ∧ Rk (newL l id) (fun x => if x = id then r (-1) + 1 else r x) ∧ getN (newL l id) 0 = none ∧ getN (newL l id) id = some ⟨id, -1, 1⟩ ∧ ¬ Abv (newL l id) id (knownL (newL l id) ⟨on, wt, ex⟩).on) := ⟨HR.out.uq.snoc _ hg, new_rk HR.out hid1 hg, by rw [new_get l id 0 (by omega)]; exact HR.out.root, new_self hg, new_abv HR.out hid1 hg _⟩
            have HLE : Hid (prq (newL l id) = prq l ++ [.int .i64 id, .int .i64 (-1), .int .i64 1] ∧ (newL l id).length = l.length + 1) := ⟨by unfold newL; rw [prq_append]; rfl, by unfold newL; rw [List.length_append]; rfl⟩
            generalize newL l id = l0 at *
            clear hg hm hc hful
            go_enter Try.func28, Try.ntmps28
            go_wp2_with fail
            generalize w.alloc (.cells #[.int .i64 on, .int .i64 wt, .bool ex] 30) = w1 at *
            refine (may_ref ⟨on, wt, ex⟩ w1).mono ?_
            rintro e w3 ⟨rfl, b3⟩
            rw [HB.out]
            have z3 := H1.out.2.1.below b3 H1.out.2.1.lt
            have H3 := Lib.hid (And.intro (H1.out.1.below b3) (And.intro (H1.out.2.2.trans (b3.mono H1.out.2.2.size)) z3))
            have e0 := Blk.cell z3 0
            have g0 := Blk.cell H3.out.1.blk 0
            simp at e0 g0
            clear b3 d0 d1 d2 z3
            go_wp2_with fail
            refine (HC.out w3 H3.out.1).mono ?_
            rintro e w4 ⟨rfl, rfl⟩
            have hs3 := H3.out.2.1.size
            have HRD := Lib.hid (reads_of_held H3.out.1.row)
            have e1 := Blk.cell H3.out.2.2 1
            have e2 := Blk.cell H3.out.2.2 2
            have hbl := H3.out.2.2.lt
            simp at e1 e2
            have hhl := H3.out.1.lt
            go_wp2_with (first
              | (at_builtin
                 refine wpList_append_any _ rfl (.tmp 36) (.tmp 40) _ rfl w3.heap.size 63 i0 _ 3 24 Try.underlying37 hi0 hz0 hz1 hz2 rfl (by omega) (.slice (some ⟨w3.heap.size, 0, none⟩) 0 0) 0 [] rfl (own_empty (Blk.new w3 63 #[]) (Nat.le_refl _)) w3.heap.size B l.length c _ rfl (HRD.out.alloc (Nat.le_refl _) _) (prq_one _) (by simp only [maxLen]; omega) (by omega) (by simp) ?_
                 intro v4 w4 hn4 hg4 hd4
                 obtain ⟨A4, c4, rfl⟩ := slice_of_own' hn4
                 rw [Nat.zero_add, List.nil_append] at hn4
                 have b4 : Below w3.heap.size w3 w4 := ((Below.refl _ _).alloc (Nat.le_refl _) _).grown hg4 (by simp) (fun k hk => by simp [Value.ownBlock] at hk; omega)
                 have H4 := Lib.hid (And.intro hn4 b4)
                 have hs4 := b4.size
                 clear hn4 hg4 hd4 b4
                 try simp only [Nat.zero_add])
              | (at_builtin
                 refine wpList_append_any _ rfl (.tmp 41) (.tmp 44) _ rfl w3.heap.size 63 i0 _ 3 24 Try.underlying37 hi0 hz0 hz1 hz2 rfl (by omega) (.slice A4 l.length c4) l.length _ rfl (H4.out.1.alloc _) (w4.heap.size + 1) (some ⟨w4.heap.size, 0, none⟩) 1 1 [.int .i64 id, .int .i64 (-1), .int .i64 1] rfl (reads_tri w4 63 id (-1) 1) (by simp [Value.oneCell']) (by simp only [maxLen]; omega) (by omega) (by simp; omega) ?_
                 intro v5 w5 hn5 hg5 hd5
                 obtain ⟨A5, c5, rfl⟩ := slice_of_own' hn5
                 have b5 : Below w3.heap.size w3 w5 := (H4.out.2.alloc hs4 _).grown hg5 (by simp; omega) (fun k hk => ownBlock_ge H4.out.1 hk)
                 rw [← HLE.out.1] at hn5
                 have ks := rt_store H3.out.1 b5 (Held.of_own hn5) HLE.out.2.symm (by rw [HLE.out.2]; omega)
                 have kz := H3.out.2.2.below b5 hbl
                 have hbh : w.heap.size ≠ h := blk_ty_ne H3.out.2.2 H3.out.1.blk (by decide)
                 have kz2 := kz.only (show Only [h] w5 (w5.setCell ⟨h, 0, none⟩ (.slice A5 (l.length + 1) c5)) from (Only.refl _ _).setCell (by simp) _) (by simp; exact hbh)
                 have H5 := Lib.hid (And.intro ks.1 (And.intro ks.2 kz2))
                 have g5 := Blk.cell (H3.out.1.below b5).blk 0
                 have f5 := Blk.frozen (H3.out.1.below b5).blk 0
                 simp at g5
                 have y0 := Blk.cell kz2 0
                 have y1 := Blk.cell kz2 1
                 have y2 := Blk.cell kz2 2
                 have y0' : (w5.setCell ⟨h, 0, none⟩ (.slice A5 (l.length + 1) c5)).cell? ⟨w.heap.size, 0, none⟩ = some (.int .i64 on) := y0
                 have y1' : (w5.setCell ⟨h, 0, none⟩ (.slice A5 (l.length + 1) c5)).cell? ⟨w.heap.size, 1, none⟩ = some (.int .i64 wt) := y1
                 have y2' : (w5.setCell ⟨h, 0, none⟩ (.slice A5 (l.length + 1) c5)).cell? ⟨w.heap.size, 2, none⟩ = some (.bool ex) := y2
                 clear hn5 hg5 hd5 b5 ks kz kz2 y0 y1 y2 hbh)
              | (go_at_call 37
                 refine (rlay_any h c5 A5 l0 _ H5.out.1 _ HN.out.1 HN.out.2.1 HN.out.2.2.1 id ⟨on, wt, ex⟩ ⟨id, -1, 1⟩ HN.out.2.2.2.1).mono ?_
                 rintro e w7 ⟨rfl, _, q2⟩
                 have HF := Lib.hid (turnR_from H3.out.2.1 (turnR_only H5.out.2.1 (q2 HN.out.2.2.2.2)))
                 clear q2))
            go_ret
            exact ⟨rfl, HF.out⟩
  · have HM : Hid (insertS l most id ⟨on, wt, ex⟩ = (2, l)) := by
      show insertS l most id ⟨on, wt, ex⟩ = _
      unfold insertS
      rw [if_pos hid]
    rw [HM.out]
    have HF := Lib.hid (turnR_same HK.out H1.out.2.2)
    by_cases h1 : id < 1
    · clear hid
      go_enter Try.func28, Try.ntmps28
      go_wp2_with fail
      go_ret
      exact ⟨rfl, HF.out⟩
    · have h2 : 2147483647 < id := by omega
      clear hid
      go_enter Try.func28, Try.ntmps28
      go_wp2_with fail
      go_ret
      exact ⟨rfl, HF.out⟩
end Go.Proofs.Ytifgbnjpiphidaa
