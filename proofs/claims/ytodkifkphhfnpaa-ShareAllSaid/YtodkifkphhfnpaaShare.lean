/- The walks of package share: the deal's own functions. -/
import Derived.Test.YtodkifkphhfnpaaRows
import Derived.WalkKit
import Derived.ProofKit
import Derived.Handy
import Derived.Test.YtodkifkphhfnpaaMem
import Derived.Test.YtodkifkphhfnpaaLift
import Derived.Test.YtodkifkphhfnpaaApp
import Derived.Test.YtodkifkphhfnpaaReads
import Derived.Test.YtodkifkphhfnpaaOrd
import Derived.Test.YtodkifkphhfnpaaShLaw
import Derived.Deep.QuietTactic
import Derived.BigQuiet
import Derived.Deep.RegionWith
import Derived.Deep.RegionHeld3
import Derived.Deep.AppendLies
import Derived.WalkLawsBesides
import Derived.WalkSmall
namespace Go.Proofs.Ytodkifkphhfnpaa
open Go.RowKit
set_option linter.unusedVariables false

theorem info_I : (Try.prog.info? 3).map (fun i => (i.zero, i.size, i.bytes)) = some (some (.int .i64 0), 1, 8) := by kernel_rfl

/-- A row of ints, its first n known. -/
def IRow (w : World) (g n : Nat) (h : Nat → Int) : Prop := ∃ cur : Array Value, w.heap[g]? = some (.cells cur 3 (0, 0)) ∧ ∀ j, j < n → cur[j]? = some (.int .i64 (h j))
def upd (h : Nat → Int) (i : Nat) (x : Int) : Nat → Int := fun j => if j = i then x else h j
section
variable {w w' : World} {g n : Nat} {h h' : Nat → Int}
theorem IRow.lt (r : IRow w g n h) : g < w.heap.size := by
  obtain ⟨cur, hb, _⟩ := r
  exact lt_of_blk hb
theorem IRow.cell (r : IRow w g n h) {i : Nat} (hi : i < n) : w.cell? ⟨g, i, none⟩ = some (.int .i64 (h i)) := by
  obtain ⟨cur, hb, hc⟩ := r
  exact (cell_of_row w g i cur 3 (0, 0) hb).trans (hc i hi)
theorem IRow.free (r : IRow w g n h) (i : Nat) : w.frozen? ⟨g, i, none⟩ = false := by
  obtain ⟨cur, hb, hc⟩ := r
  simp [World.frozen?, hb]
theorem IRow.congr (r : IRow w g n h) (he : ∀ j, j < n → h j = h' j) : IRow w g n h' := by
  obtain ⟨cur, hb, hc⟩ := r
  exact ⟨cur, hb, fun j hj => by rw [hc j hj, he j hj]⟩
theorem IRow.keep (r : IRow w g n h) (hk : w'.heap[g]? = w.heap[g]?) : IRow w' g n h := by
  obtain ⟨cur, hb, hc⟩ := r
  exact ⟨cur, hk.trans hb, hc⟩
theorem IRow.alloc (r : IRow w g n h) (o : Obj) : IRow (w.alloc o) g n h := r.keep (Below.heap_alloc w o g r.lt)
theorem IRow.below {B : Nat} (r : IRow w g n h) (hb : Below B w w') (hg : g < B) : IRow w' g n h := r.keep (hb.block g hg)
theorem IRow.only {S : List Nat} (r : IRow w g n h) (o : Only S w w') (hg : g ∉ S) : IRow w' g n h := r.keep (o.block g r.lt hg)
theorem IRow.far (r : IRow w g n h) {p : Addr} (hp : g ≠ p.block) (u : Value) : IRow (w.setCell p u) g n h := r.keep (Below.heap_setCell w p u g hp)
theorem IRow.set (r : IRow w g n h) (i : Nat) (x : Int) : IRow (w.setCell ⟨g, i, none⟩ (.int .i64 x)) g n (upd h i x) := by
  obtain ⟨cur, hb, hc⟩ := r
  refine ⟨cur.setIfInBounds i (.int .i64 x), by simp [World.setCell, Array.getElem?_modify, hb], fun j hj => ?_⟩
  have hlt : j < cur.size := by
    have := hc j hj
    rcases Nat.lt_or_ge j cur.size with h1 | h1
    · exact h1
    · rw [Array.getElem?_eq_none h1] at this; cases this
  unfold upd
  rw [Array.getElem?_setIfInBounds]
  by_cases e : j = i
  · subst e; simp [hlt]
  · rw [if_neg (Ne.symm e), if_neg e]; exact hc j hj
theorem IRow.ne_blk {t : TypeId} {cs : Array Value} {b : Nat} (r : IRow w g n h) (hb : Blk w b t cs) (ht : t ≠ 3) : g ≠ b := by
  obtain ⟨cur, hg, _⟩ := r
  rintro rfl
  unfold Blk at hb
  rw [hb] at hg
  injection hg with hg
  injection hg with _ h2
  exact ht h2
theorem IRow.of_own {base : Nat} {c : Nat} {b : Addr} (hown : w.ownsRow base 3 1 (.slice (some b) n c) n ((List.range n).map fun j => Value.int .i64 (h j))) : ∃ g, b = ⟨g, 0, none⟩ ∧ base ≤ g ∧ IRow w g n h := by
  rcases hown.2 with ⟨h1, _⟩ | ⟨g, cap, cur, hv, hg, hh, _, _, hsz, htake⟩
  · cases h1
  · injection hv with hv
    injection hv with hv
    refine ⟨g, hv, hg, cur, hh, fun j hj => ?_⟩
    have : (cur.toList.take (n * 1))[j]? = some (Value.int .i64 (h j)) := by rw [htake]; simp [hj]
    rw [List.getElem?_take] at this
    split at this
    · rw [← Array.getElem?_toList]; exact this
    · cases this
end

/-- Where a deal lies. -/
structure DL where
  (g gw gg gh n cw cg ch : Nat)
  (Aw Ag Ah : Option Addr)
structure DealAt (w : World) (d : DL) (rem wt has : Nat → Int) (left : Int) : Prop where
  blk : Blk w d.g 40 #[.slice d.Aw d.n d.cw, .slice d.Ag d.n d.cg, .slice d.Ah d.n d.ch, .int .i64 left]
  caps : d.n ≤ d.cw ∧ d.n ≤ d.cg ∧ d.n ≤ d.ch ∧ d.n ≤ 256
  row : 0 < d.n → d.Aw = some ⟨d.gw, 0, none⟩ ∧ d.Ag = some ⟨d.gg, 0, none⟩ ∧ d.Ah = some ⟨d.gh, 0, none⟩ ∧ d.gw ≠ d.gg ∧ d.gw ≠ d.gh ∧ d.gg ≠ d.gh ∧ IRow w d.gw d.n rem ∧ IRow w d.gg d.n wt ∧ IRow w d.gh d.n has
theorem DealAt.op {w : World} {g gw gg gh n cw cg ch : Nat} {Aw Ag Ah : Option Addr} {rem wt has : Nat → Int} {left : Int} (k : DealAt w ⟨g, gw, gg, gh, n, cw, cg, ch, Aw, Ag, Ah⟩ rem wt has left) (h : 0 < n) :
    Aw = some ⟨gw, 0, none⟩ ∧ Ag = some ⟨gg, 0, none⟩ ∧ Ah = some ⟨gh, 0, none⟩ ∧ gw ≠ gg ∧ gw ≠ gh ∧ gg ≠ gh ∧ IRow w gw n rem ∧ IRow w gg n wt ∧ IRow w gh n has := k.row h
section
variable {w w' : World} {d : DL} {rem wt has rem' wt' has' : Nat → Int} {left left' : Int}
theorem DealAt.below (k : DealAt w d rem wt has left) (hb : Below w.heap.size w w') : DealAt w' d rem wt has left :=
  ⟨Blk.below k.blk hb (Blk.lt k.blk), k.caps, fun h => by
    obtain ⟨h1, h2, h3, h4, h5, h6, r1, r2, r3⟩ := k.row h
    exact ⟨h1, h2, h3, h4, h5, h6, r1.below hb r1.lt, r2.below hb r2.lt, r3.below hb r3.lt⟩⟩
theorem DealAt.drew (k : DealAt w d rem wt has left) : DealAt w.drew d rem wt has left := ⟨k.blk, k.caps, k.row⟩
theorem DealAt.drewN (k : DealAt w d rem wt has left) (q : Nat) : DealAt (w.drewN q) d rem wt has left := ⟨k.blk, k.caps, k.row⟩
/-- A block apart has turned. -/
theorem DealAt.far (k : DealAt w d rem wt has left) (b i : Nat) (u : Value) (h0 : d.g ≠ b) (h1 : 0 < d.n → d.gw ≠ b ∧ d.gg ≠ b ∧ d.gh ≠ b) : DealAt (w.setCell ⟨b, i, none⟩ u) d rem wt has left :=
  ⟨k.blk.far (p := ⟨b, i, none⟩) h0 u, k.caps, fun h => by
    obtain ⟨e1, e2, e3, h4, h5, h6, r1, r2, r3⟩ := k.row h
    obtain ⟨a1, a2, a3⟩ := h1 h
    exact ⟨e1, e2, e3, h4, h5, h6, r1.far (p := ⟨b, i, none⟩) a1 u, r2.far (p := ⟨b, i, none⟩) a2 u, r3.far (p := ⟨b, i, none⟩) a3 u⟩⟩
theorem DealAt.alloc (k : DealAt w d rem wt has left) (o : Obj) : DealAt (w.alloc o) d rem wt has left := k.below ((Below.refl _ _).alloc (Nat.le_refl _) o)
theorem DealAt.congr (k : DealAt w d rem wt has left) (h1 : ∀ j, j < d.n → rem j = rem' j) (h2 : ∀ j, j < d.n → has j = has' j) (h3 : left = left') : DealAt w d rem' wt has' left' := by
  subst h3
  exact ⟨k.blk, k.caps, fun h => by
    obtain ⟨e1, e2, e3, h4, h5, h6, r1, r2, r3⟩ := k.row h
    exact ⟨e1, e2, e3, h4, h5, h6, r1.congr h1, r2, r3.congr h2⟩⟩
end

theorem within_any (a lo hi : Int) (w : World) : Calls Try.prog 21 #[.int .i64 a, .int .i64 lo, .int .i64 hi] w fun e w' => e = .returned (.int .i64 (max (min a hi) lo)) ∧ w = w' := by
  go_enter Try.func21, Try.ntmps21
  go_wp2_with fail
  all_goals go_ret
  all_goals exact ⟨ret_int (by omega), rfl⟩

/-- What one gets. -/
def Gave (w : World) (d : DL) (rem wt has : Nat → Int) (left : Int) (i : Nat) (m : Int) (e : Ending) (w' : World) : Prop :=
  e = .returned (.tuple #[]) ∧ DealAt w' d (upd rem i (rem i - m)) wt (upd has i (has i + m)) (left - m) ∧ Only [d.g, d.gw, d.gh] w w'

set_option maxHeartbeats 1000000 in
theorem give_any (d : DL) (rem wt has : Nat → Int) (left : Int) (i : Nat) (x : Int) (w : World) (k : DealAt w d rem wt has left) (hi : i < d.n) (m : Int) (hm : min (min x (rem i)) left = m) (h1 : 0 ≤ m) (h2 : m ≤ rem i) (h2' : rem i ≤ 2147483647) (h3 : m ≤ left) (h3' : left ≤ 2147483647)
    (h4 : 0 ≤ has i) (h5 : has i ≤ 2147483647) :
    Calls Try.prog 26 #[.pointer (some ⟨d.g, 0, none⟩), .int .i64 i, .int .i64 x] w (Gave w d rem wt has left i m) := by
  obtain ⟨g, gw, gg, gh, n, cw, cg, ch, Aw, Ag, Ah⟩ := d
  obtain ⟨hb, ⟨q1, q2, q3, q4⟩, hr⟩ := k
  simp only at hb q1 q2 q3 q4 hr hi
  obtain ⟨rfl, rfl, rfl, n1, n2, n3, r1, r2, r3⟩ := hr (by omega)
  have d1 : gw ≠ g := r1.ne_blk hb (by decide)
  have d2 : gg ≠ g := r2.ne_blk hb (by decide)
  have d3 : gh ≠ g := r3.ne_blk hb (by decide)
  have c0 := Blk.cell hb 0
  have c2 := Blk.cell hb 2
  have c3 := Blk.cell hb 3
  have f3 := Blk.frozen hb 3
  have x1 := r1.cell hi
  have x3 := r3.cell hi
  have y1 := r1.free i
  have y3 := r3.free i
  simp at c0 c2 c3
  have KO : ∀ (q : Nat) (a b c : Int), a = has i + m → b = rem i - m → c = left - m →
      DealAt ((((w.drewN q).setCell ⟨gh, i, none⟩ (.int .i64 a)).setCell ⟨gw, i, none⟩ (.int .i64 b)).setCell ⟨g, 3, none⟩ (.int .i64 c)) ⟨g, gw, gg, gh, n, cw, cg, ch, some ⟨gw, 0, none⟩, some ⟨gg, 0, none⟩, some ⟨gh, 0, none⟩⟩ (upd rem i (rem i - m)) wt (upd has i (has i + m)) (left - m) ∧
      Only [g, gw, gh] w ((((w.drewN q).setCell ⟨gh, i, none⟩ (.int .i64 a)).setCell ⟨gw, i, none⟩ (.int .i64 b)).setCell ⟨g, 3, none⟩ (.int .i64 c)) := by
    rintro q a b c rfl rfl rfl
    refine ⟨⟨?_, ⟨q1, q2, q3, q4⟩, fun _ => ⟨rfl, rfl, rfl, n1, n2, n3, ?_, ?_, ?_⟩⟩, ((((Only.refl _ w).drewN q).setCell (by simp) _).setCell (by simp) _).setCell (by simp) _⟩
    · have := Blk.set_ (((Blk.drewN hb q).far (p := ⟨gh, i, none⟩) (Ne.symm d3) (.int .i64 (has i + m))).far (p := ⟨gw, i, none⟩) (Ne.symm d1) (.int .i64 (rem i - m))) 3 (.int .i64 (left - m))
      simpa using this
    · have r1' : IRow (w.drewN q) gw n rem := r1
      exact ((r1'.far (p := ⟨gh, i, none⟩) n2 _).set i _).far (p := ⟨g, 3, none⟩) d1 _
    · have r2' : IRow (w.drewN q) gg n wt := r2
      exact ((r2'.far (p := ⟨gh, i, none⟩) n3 _).far (p := ⟨gw, i, none⟩) (Ne.symm n1) _).far (p := ⟨g, 3, none⟩) d2 _
    · have r3' : IRow (w.drewN q) gh n has := r3
      exact ((r3'.set i _).far (p := ⟨gw, i, none⟩) (Ne.symm n2) _).far (p := ⟨g, 3, none⟩) d3 _
  have HKO := Lib.hid KO
  clear KO hr r1 r2 r3 hb
  generalize hR : rem i = R at *
  generalize hH : has i = H at *
  go_enter Try.func26, Try.ntmps26
  go_wp2_with fail
  go_quiet (fail)
  go_wp2_with fail
  all_goals go_end0
  all_goals (subst hR hH; refine ⟨rfl, HKO.out _ _ _ _ ?_ ?_ ?_⟩ <;> omega)

theorem ret_cell2 {P : Program} {fn : Func} {R : Ending → World → Prop} {a : Act} {W : World} {p : Tmp} {ty t : TypeId} {g : Nat} {x y : Value} (h : fn.results = #[.cell p ty]) (hd : a.defers = [])
    (hp : a.tmps.getD p undef = .pointer (some ⟨g, 0, none⟩)) (hB : Blk W g t #[x, y])
    (hl : ∀ W' : World, W'.cell? ⟨g, 0, none⟩ = some x → W'.cell? ⟨g, 1, none⟩ = some y → (loadVar ty ⟨g, 0, none⟩).run P W' = .ok (.agg #[x, y]) W')
    (hR : R (.returned (.agg #[x, y])) W) : bodyPost P fn R .ret a W := by
  refine bodyPost_ret (v := .agg #[x, y]) ?_ hd hR
  have hr : (results fn a.tmps).run P W = ((asAddr (a.tmps.getD p undef)).run P W).andThen fun a w₁ => (loadVar ty a).run P w₁ := by
    simp only [results, h]
    simp [Sem.run_bind, Result.andThen]
  rw [hr, hp]
  show (loadVar ty ⟨g, 0, none⟩).run P W = _
  exact hl W (Blk.cell hB 0) (Blk.cell hB 1)

def uw (rem wt : Nat → Int) (j : Nat) : Int := if 0 < rem j then wt j else 0
theorem uw_bound {rem wt : Nat → Int} {n : Nat} (hw : ∀ j, j < n → 1 ≤ wt j ∧ wt j ≤ 256) : ∀ k, k ≤ n → 0 ≤ SH.sumF (uw rem wt) k ∧ SH.sumF (uw rem wt) k ≤ 256 * k
  | 0, _ => by simp [SH.sumF]
  | k + 1, h => by
    have h1 := uw_bound (rem := rem) hw k (by omega)
    have h2 := hw k (by omega)
    simp only [SH.sumF, uw]
    split <;> omega
set_option maxHeartbeats 2000000 in
theorem look_any (d : DL) (rem wt has : Nat → Int) (left : Int) (w : World) (k : DealAt w d rem wt has left) (hw : ∀ j, j < d.n → 1 ≤ wt j ∧ wt j ≤ 256) :
    Calls Try.prog 22 #[.pointer (some ⟨d.g, 0, none⟩)] w fun e w' => e = .returned (.agg #[.int .i64 left, .int .i64 (SH.sumF (uw rem wt) d.n)]) ∧ Below w.heap.size w w' := by
  obtain ⟨g, gw, gg, gh, n, cw, cg, ch, Aw, Ag, Ah⟩ := d
  have hlt := Blk.lt k.blk
  have c0 := Blk.cell k.blk 0
  have c1 := Blk.cell k.blk 1
  have c3 := Blk.cell k.blk 3
  obtain ⟨q1, q2, q3, q4⟩ := k.caps
  simp at c0 c1 c3 q1 q2 q3 q4 hlt hw
  have hlt1 : g < w.heap.size + 1 := by omega
  have hlt2 : g < w.heap.size + 1 + 1 := by omega
  have K := Lib.hid k
  have HB := Lib.hid (fun m hm => uw_bound (rem := rem) hw m hm)
  clear k hw
  go_enter Try.func22, Try.ntmps22
  go_wp2_with fail
  have r0 := Blk.alloc (Blk.new w 48 #[.int .i64 0, .int .i64 0]) (.cells #[.int .i64 left, .int .i64 0] 48)
  have n0 := Blk.new (w.alloc (.cells #[.int .i64 0, .int .i64 0] 48)) 48 #[.int .i64 left, .int .i64 0]
  go_loopw [16] (fun iv wr => ∃ (m : Nat), m ≤ n ∧ iv = .int .i64 m ∧ Blk wr w.heap.size 48 #[.int .i64 0, .int .i64 0] ∧ Blk wr (w.heap.size + 1) 48 #[.int .i64 left, .int .i64 (SH.sumF (uw rem wt) m)] ∧ DealAt wr ⟨g, gw, gg, gh, n, cw, cg, ch, Aw, Ag, Ah⟩ rem wt has left ∧ Below w.heap.size w wr) (fun i _ => n - (intOf i).toNat)
  case atStart => exact ⟨0, by omega, rfl, r0, by simpa [SH.sumF] using n0, (K.out.alloc _).alloc _, ((Below.refl _ _).alloc (Nat.le_refl _) _).alloc (by simp) _⟩
  case round =>
    obtain ⟨m, hm, rfl, rr, rn, rk, rb⟩ := hrel
    by_cases hlt : m < n
    · have hk := rk.op (by omega)
      obtain ⟨rfl, rfl, rfl, n1, n2, n3, i1, i2, i3⟩ := hk
      have hsep : gw < w.heap.size ∧ gg < w.heap.size ∧ gh < w.heap.size := by
        obtain ⟨_, _, _, _, _, _, j1, j2, j3⟩ := K.out.op (by omega)
        exact ⟨j1.lt, j2.lt, j3.lt⟩
      have x1 := i1.cell hlt
      have x2 := i2.cell hlt
      have c1 := Blk.cell rk.blk 1
      have z1 := Blk.cell rn 1
      have zf := Blk.frozen rn 1
      simp at c1 z1 x1 x2
      obtain ⟨hB1, hB2⟩ := HB.out m (by omega)
      have hB3 := HB.out (m + 1) (by omega)
      simp only [SH.sumF, uw] at hB3
      have RK := Lib.hid rk
      have RR := Lib.hid rr
      have RN := Lib.hid rn
      clear rk rr rn i1 i2 i3
      by_cases hp : 0 < rem m
      · rw [if_pos hp] at hB3
        have hB4 : SH.sumF (uw rem wt) m + wt m ≤ 65536 := by have := hB3.2; omega
        have hB5 : 0 ≤ SH.sumF (uw rem wt) m + wt m := hB3.1
        clear hB3
        have e1 : SH.sumF (uw rem wt) (m + 1) = SH.sumF (uw rem wt) m + wt m := by simp only [SH.sumF, uw, if_pos hp]
        go_wp2_with fail
        go_region
        go_wp2_with fail
        go_roundw
        case rel =>
          have hkg := RK.out
          have hge := hsep
          refine ⟨m + 1, by omega, by go_num, ?_, ?_, ?_, ?_⟩
          · exact RR.out.far (p := ⟨w.heap.size + 1, 1, none⟩) (by simp) _
          · have := Blk.set_ RN.out 1 (.int .i64 (SH.sumF (uw rem wt) m + wt m))
            rw [e1]
            have := this.drew
            simpa using this
          · exact (hkg.far (w.heap.size + 1) 1 _ (by simp; omega) (fun _ => by simp; omega)).drew
          · exact (rb.setCell (p := ⟨w.heap.size + 1, 1, none⟩) (by simp) _).drew
        case measure => simp [intOf]; omega
      · rw [if_neg hp] at hB3
        have e1 : SH.sumF (uw rem wt) (m + 1) = SH.sumF (uw rem wt) m := by simp only [SH.sumF, uw, if_neg hp]; omega
        go_wp2_with fail
        go_roundw
        case rel => exact ⟨m + 1, by omega, by go_num, RR.out, by rw [e1]; exact RN.out, RK.out, rb⟩
        case measure => simp [intOf]; omega
    · obtain rfl : m = n := by omega
      have z0 := Blk.cell rn 0
      have z1 := Blk.cell rn 1
      have y0 := Blk.frozen rr 0
      have y1 := Blk.frozen rr 1
      have x0 := Blk.cell rr 0
      have x1 := Blk.cell rr 1
      simp at z0 z1 x0 x1
      go_wp2_with fail
      have o1 : (((wr.setCell ⟨w.heap.size, 0, none⟩ (.int .i64 left)).setCell ⟨w.heap.size, 1, none⟩ (.int .i64 (SH.sumF (uw rem wt) m)))).heap.size = wr.heap.size := by simp [World.setCell]
      refine ret_cell2 (g := w.heap.size) rfl rfl rfl (Blk.set_ (Blk.set_ rr 0 (.int .i64 left)) 1 (.int .i64 (SH.sumF (uw rem wt) m))) (fun W' q0 q1 => by simp [go_sem, q0, q1]) ⟨rfl, ?_⟩
      exact (rb.setCell (p := ⟨w.heap.size, 0, none⟩) (by simp) _).setCell (p := ⟨w.heap.size, 1, none⟩) (by simp) _
end Go.Proofs.Ytodkifkphhfnpaa
