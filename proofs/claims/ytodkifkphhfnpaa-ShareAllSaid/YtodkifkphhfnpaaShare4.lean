/- The walks of package share: a deal is made. -/
import Derived.Test.YtodkifkphhfnpaaRows
import Derived.WalkKit
import Derived.ProofKit
import Derived.Handy
import Derived.Test.YtodkifkphhfnpaaMem
import Derived.Test.YtodkifkphhfnpaaLift
import Derived.Test.YtodkifkphhfnpaaApp
import Derived.Test.YtodkifkphhfnpaaReads
import Derived.Test.YtodkifkphhfnpaaOrd
import Derived.Test.YtodkifkphhfnpaaShLaw
import Derived.Test.YtodkifkphhfnpaaShare
import Derived.Test.YtodkifkphhfnpaaShare2
import Derived.Test.YtodkifkphhfnpaaShare3
import Derived.Deep.QuietTactic
import Derived.BigQuiet
import Derived.Deep.RegionWith
import Derived.Deep.RegionHeld3
import Derived.Deep.AppendLies
import Derived.WalkLawsBesides
import Derived.WalkSmall
import Derived.ChangeKeysEq
import Derived.Laws.StructEq
namespace Go.Proofs.Ytodkifkphhfnpaa
open Go.RowKit
set_option linter.unusedVariables false
set_option linter.unusedSimpArgs false




def cellsI (f : Nat → Int) (m : Nat) : List Value := (List.range m).map fun j => Value.int .i64 (f j)
theorem cellsI_succ (f : Nat → Int) (m : Nat) : cellsI f (m + 1) = cellsI f m ++ [.int .i64 (f m)] := by simp [cellsI, List.range_succ]
theorem cellsI_length (f : Nat → Int) (m : Nat) : (cellsI f m).length = m := by simp [cellsI]
theorem sep_or {v u : Value} (h : ∀ k, v.ownBlock = some k → u.ownBlock ≠ some k) : u.ownBlock = none ∨ u.ownBlock ≠ v.ownBlock := by
  cases hu : u.ownBlock with
  | none => exact .inl rfl
  | some k => exact .inr (fun e => h k e.symm hu)
theorem sep_or' {v u : Value} (h : ∀ k, v.ownBlock = some k → u.ownBlock ≠ some k) : v.ownBlock = none ∨ v.ownBlock ≠ u.ownBlock := by
  cases hv : v.ownBlock with
  | none => exact .inl rfl
  | some k => exact .inr (fun e => h k hv e.symm)
theorem sep_new {v v' u : Value} {s : Nat} (h : ∀ k, v.ownBlock = some k → u.ownBlock ≠ some k) (hd : v'.ownBlock = v.ownBlock ∨ v'.ownBlock = some s) (hl : ∀ k, u.ownBlock = some k → k < s) : ∀ k, v'.ownBlock = some k → u.ownBlock ≠ some k := by
  intro k hk hu
  rcases hd with hd | hd
  · exact h k (hd ▸ hk) hu
  · rw [hd] at hk
    injection hk with hk
    have := hl k hu
    omega
theorem sep_new' {v u u' : Value} {s : Nat} (h : ∀ k, v.ownBlock = some k → u.ownBlock ≠ some k) (hd : u'.ownBlock = u.ownBlock ∨ u'.ownBlock = some s) (hl : ∀ k, v.ownBlock = some k → k < s) : ∀ k, v.ownBlock = some k → u'.ownBlock ≠ some k := by
  intro k hk hu
  rcases hd with hd | hd
  · exact h k hk (hd ▸ hu)
  · rw [hd] at hu
    injection hu with hu
    have := hl k hk
    omega
def wantOf (x : Int) : Int := max (min x 2147483647) 0
def wtOf (x : Int) : Int := max (min x 256) 1
/-- The claims, as they count. -/
structure Claims (w : World) (v : Value) (n : Nat) (X Y : Nat → Int) : Prop where
  row : ∃ (A : Option Addr) (cap : Nat), v = .slice A n cap ∧ n ≤ cap ∧ cap ≤ 9223372036854775807 ∧ (A = none → n = 0) ∧
    ∀ i, i < n → ∃ b off, A = some ⟨b, off, none⟩ ∧ b < w.heap.size ∧ w.cell? ⟨b, off + i * 2, none⟩ = some (.int .i64 (X i)) ∧ w.cell? ⟨b, off + i * 2 + 1, none⟩ = some (.int .i64 (Y i))
  bx : ∀ i, i < n → -9223372036854775808 ≤ X i ∧ X i ≤ 9223372036854775807
  bY : ∀ i, i < n → -9223372036854775808 ≤ Y i ∧ Y i ≤ 9223372036854775807
theorem Claims.below {w w' : World} {v : Value} {n : Nat} {X Y : Nat → Int} (h : Claims w v n X Y) {B : Nat} (hb : Below B w w') (hB : w.heap.size ≤ B) : Claims w' v n X Y := by
  obtain ⟨⟨A, cap, rfl, h1, h2, h3, h4⟩, bx, bY⟩ := h
  refine ⟨⟨A, cap, rfl, h1, h2, h3, fun i hi => ?_⟩, bx, bY⟩
  obtain ⟨b, off, hA, hlt, c0, c1⟩ := h4 i hi
  exact ⟨b, off, hA, by have := hb.size; omega, by rw [hb.cell (p := ⟨b, off + i * 2, none⟩) (by simp; omega)]; exact c0, by rw [hb.cell (p := ⟨b, off + i * 2 + 1, none⟩) (by simp; omega)]; exact c1⟩

def dealOf (whole : Int) (n : Nat) (X Y : Nat → Int) : SH.Deal := ⟨n, whole, fun j => wantOf (X j), fun j => wtOf (Y j)⟩
theorem fits_of (whole : Int) (n : Nat) (X Y : Nat → Int) (h0 : 0 ≤ whole) (h1 : whole ≤ 2147483647) : Fits (dealOf whole n X Y) :=
  ⟨⟨h0, fun j _ => by simp only [dealOf, wantOf]; omega, fun j _ => by simp only [dealOf, wtOf]; omega⟩, h1, fun j _ => by simp only [dealOf, wantOf]; omega, fun j _ => by simp only [dealOf, wtOf]; omega⟩
def Made (w : World) (whole : Int) (n : Nat) (X Y : Nat → Int) (e : Ending) (w' : World) : Prop :=
  ∃ d : DL, e = .returned (.pointer (some ⟨d.g, 0, none⟩)) ∧ d.n = n ∧ Dealt w' d (dealOf whole n X Y) ((dealOf whole n X Y).it 0) ∧ w.heap.size ≤ d.g ∧ w.heap.size ≤ d.gw ∧ w.heap.size ≤ d.gh ∧ Below w.heap.size w w'

set_option maxHeartbeats 8000000 in
theorem made_any (whole : Int) (v : Value) (n : Nat) (X Y : Nat → Int) (w : World) (hc : Claims w v n X Y) (hn : n ≤ 256) (h0 : 0 ≤ whole) (h1 : whole ≤ 2147483647) :
    Calls Try.prog 15 #[.int .i64 whole, v] w (Made w whole n X Y) := by
  obtain ⟨⟨A, cap, rfl, hnc, hcap, hA0, hcells⟩, bx, bY⟩ := hc
  obtain ⟨i0, hi0, hz0, hz1, hz2⟩ := info_parts info_I
  have HC := Lib.hid hcells
  have HX := Lib.hid bx
  have HY := Lib.hid bY
  clear hcells bx bY
  generalize hB : w.heap.size = B at *
  have hBw : B ≤ w.heap.size := by omega
  go_enter Try.func15, Try.ntmps15
  go_wp2_with fail
  have d0 := Blk.new w 40 #[.slice none 0 0, .slice none 0 0, .slice none 0 0, .int .i64 whole]
  rw [hB] at d0
  have B0 : Below B w (w.alloc (.cells #[.slice none 0 0, .slice none 0 0, .slice none 0 0, .int .i64 whole] 40)) := (Below.refl B w).alloc hBw _
  go_loopw [13] (fun iv wr => ∃ (m : Nat) (Aw Ag : Option Addr) (cw cg : Nat), m ≤ n ∧ iv = .int .i64 m ∧ Blk wr B 40 #[.slice Aw m cw, .slice Ag m cg, .slice none 0 0, .int .i64 whole] ∧
      wr.ownsRow B 3 1 (.slice Aw m cw) m (cellsI (fun j => wantOf (X j)) m) ∧ wr.ownsRow B 3 1 (.slice Ag m cg) m (cellsI (fun j => wtOf (Y j)) m) ∧
      (∀ k, (Value.slice Aw m cw).ownBlock = some k → (Value.slice Ag m cg).ownBlock ≠ some k) ∧ Below B w wr) (fun i _ => n - (intOf i).toNat)
  case atStart => exact ⟨0, none, none, 0, 0, by omega, rfl, d0, own_nil _ _ _ _, own_nil _ _ _ _, fun k hk => by simp [Value.ownBlock] at hk, B0⟩
  case round =>
    obtain ⟨m, Aw, Ag, cw, cg, hm, rfl, rd, ow, og, hsep, rb⟩ := hrel
    have hwr : B ≤ wr.heap.size := by have := rb.size; omega
    have hgl := Blk.lt rd
    have hgl1 : B < wr.heap.size + 1 := by omega
    have hgl2 : B < wr.heap.size + 1 + 1 := by omega
    by_cases hlt : m < n
    · obtain ⟨b, off, rfl, hbl, c0, c1⟩ := HC.out m hlt
      have hx := HX.out m hlt
      have hy := HY.out m hlt
      rw [← rb.cell (p := ⟨b, off + m * 2, none⟩) (by simp; omega)] at c0
      rw [← rb.cell (p := ⟨b, off + m * 2 + 1, none⟩) (by simp; omega)] at c1
      have rda := Blk.alloc rd (.cells #[.int .i64 (X m), .int .i64 (Y m)] 32)
      have owa := ow.alloc (.cells #[.int .i64 (X m), .int .i64 (Y m)] 32)
      have oga := og.alloc (.cells #[.int .i64 (X m), .int .i64 (Y m)] 32)
      have xb := Blk.new wr 32 #[.int .i64 (X m), .int .i64 (Y m)]
      have rba := rb.alloc hwr (.cells #[.int .i64 (X m), .int .i64 (Y m)] 32)
      clear rd ow og rb
      have hws' : wr.heap.size < (wr.alloc (.cells #[.int .i64 (X m), .int .i64 (Y m)] 32)).heap.size := by simp
      go_wp2_with fail
      generalize wr.alloc (.cells #[.int .i64 (X m), .int .i64 (Y m)] 32) = wa at *
      generalize wr.heap.size = bx at *
      have l0 := Blk.cell rda 0
      have z0 := Blk.cell xb 0
      simp at l0 z0
      refine wp_region_ord (fun w' => w'.cell? ⟨B, 0, none⟩ = some (.slice Aw m cw) ∧ w'.cell? ⟨bx, 0, none⟩ = some (.int .i64 (X m))) 12 [(true, 0), (true, 1), (true, 2), (true, 3), (true, 4), (true, 5), (true, 6), (false, 7), (false, 8), (false, 9), (true, 10), (true, 11)] default (by kernel_rfl) (by kernel_rfl) (fun d _ _ _ _ h => by cases d <;> exact h) ?_ ?_
      · exact ⟨l0, z0⟩
      simp only [List.map_cons, List.map_nil, List.getD_cons_succ, List.getD_cons_zero]
      repeat
        (refine heldL_take ?_ ?_ ?_
         rotate_left
         · intro w' hw'
           try dsimp only at hw'
           go_simp
           try with_reducible rfl
         try simp only [Act.put, List.setIfInBounds_toArray, List.set_cons_zero, List.set_cons_succ])
      refine heldL_move (fun K hK => ?_)
      go_simp
      refine (within_any _ _ _ _).mono ?_
      rintro e w1 ⟨rfl, rfl⟩
      refine hK.out _ _ ?_ (fun hS => ?_)
      · exact ⟨l0, z0⟩
      clear hK K
      try simp only [Act.put, List.setIfInBounds_toArray, List.set_cons_zero, List.set_cons_succ]
      refine heldL_move (fun K hK => ?_)
      go_simp
      refine hK.out _ _ ?_ (fun hS2 => ?_)
      · refine ⟨?_, ?_⟩ <;> go_keep
      clear hK K
      try simp only [Act.put, List.setIfInBounds_toArray, List.set_cons_zero, List.set_cons_succ]
      refine heldL_move (fun K hK => ?_)
      have own0 : World.ownsRow (wa.drew.alloc (.cells #[.int .i64 (wantOf (X m))] 3)) B 3 1 (.slice Aw m cw) m _ := ((owa).drew).alloc _
      refine wp_append_any _ (.tmp 21) (.tmp 25) 25 (by rfl) B 3 i0 _ 1 8 Try.underlying25 hi0 hz0 hz1 hz2 rfl (by omega) (.slice Aw m cw) m _ (by rfl) own0 (wa.drew.heap.size + 1) (some ⟨wa.drew.heap.size, 0, none⟩) 1 1 [.int .i64 (wantOf (X m))] (by rfl) ⟨rfl, fun _ => ⟨_, rfl, by simp, fun j u hu => World.news_of_block (cs := #[.int .i64 (wantOf (X m))]) (t := 3) (fr := (0, 0)) (heap_alloc_new wa.drew _) j u hu⟩⟩ (by intro u hu; simp at hu; subst hu; rfl) (by simp only [maxLen]; omega) (by omega) (by simp; omega) ?_
      intro v0 w4 hn0 hg0 hd0
      obtain ⟨A0, k0, rfl⟩ := slice_of_own hn0
      have hne0 := own_blk_ne own0 (Blk.alloc (Blk.drew rda) (.cells #[.int .i64 (wantOf (X m))] 3)) (by decide)
      have hnx0 := own_blk_ne own0 (Blk.alloc (Blk.drew xb) (.cells #[.int .i64 (wantOf (X m))] 3)) (by decide)
      have rdq0 := Blk.grown (Blk.alloc (Blk.drew rda) (.cells #[.int .i64 (wantOf (X m))] 3)) hg0 (Ne.symm hne0)
      have xbq0 := Blk.grown (Blk.alloc (Blk.drew xb) (.cells #[.int .i64 (wantOf (X m))] 3)) hg0 (Ne.symm hnx0)
      have oth0 := World.ownsRow.kept (World.ownsRow.alloc (World.ownsRow.drew oga) (.cells #[.int .i64 (wantOf (X m))] 3)) hg0 (sep_or hsep)
      have bq0 : Below B w w4 := ((rba).drew.alloc (by simp; omega) (.cells #[.int .i64 (wantOf (X m))] 3)).grown hg0 (by simp; omega) (fun k hk => ownBlock_ge own0 hk)
      have nsep0 : ∀ k, (Value.slice A0 (m + 1) k0).ownBlock = some k → (Value.slice Ag m cg).ownBlock ≠ some k := sep_new hsep hd0 (fun k hk => own_lt (World.ownsRow.alloc (World.ownsRow.drew oga) (.cells #[.int .i64 (wantOf (X m))] 3)) hk)
      have lq0 := Blk.cell rdq0 0
      have zq0 := Blk.cell xbq0 0
      simp at lq0 zq0
      refine hK.out _ _ ?_ (fun hS3 => ?_)
      · exact ⟨lq0, zq0⟩
      clear hK K
      try simp only [Act.put, List.setIfInBounds_toArray, List.set_cons_zero, List.set_cons_succ]
      repeat
        (refine heldL_take ?_ ?_ ?_
         rotate_left
         · intro w' hw'
           try dsimp only at hw'
           go_simp
           try with_reducible rfl
         try simp only [Act.put, List.setIfInBounds_toArray, List.set_cons_zero, List.set_cons_succ])
      refine heldL_last (fun K hK => ?_)
      have fq0 := Blk.frozen rdq0 0
      go_simp
      refine hK _ _ ?_
      clear hK K
      try simp only [Act.put, List.setIfInBounds_toArray, List.set_cons_zero, List.set_cons_succ]
      have rd5 := Blk.set_ rdq0 0 (.slice A0 (m + 1) k0)
      have xb5 := Blk.far xbq0 (p := ⟨B, 0, none⟩) (by simp; omega) (.slice A0 (m + 1) k0)
      have ow5 := own_only (S := [B]) (w' := w4.setCell ⟨B, 0, none⟩ (.slice A0 (m + 1) k0)) hn0 ((Only.refl _ _).setCell (.inl (by simp)) _) (fun g hg => by have := own_blk_ne hn0 rdq0 (by decide); rw [hg] at this; simpa using this)
      have og5 := own_only (S := [B]) (w' := w4.setCell ⟨B, 0, none⟩ (.slice A0 (m + 1) k0)) oth0 ((Only.refl _ _).setCell (.inl (by simp)) _) (fun g hg => by have := own_blk_ne oth0 rdq0 (by decide); rw [hg] at this; simpa using this)
      have rb5 : Below B w (w4.setCell ⟨B, 0, none⟩ (.slice A0 (m + 1) k0)) := bq0.setCell (p := ⟨B, 0, none⟩) (by simp) _
      have hsz0 : bx < (w4.setCell ⟨B, 0, none⟩ (.slice A0 (m + 1) k0)).heap.size := Blk.lt xb5
      generalize w4.setCell ⟨B, 0, none⟩ (.slice A0 (m + 1) k0) = w5 at *
      simp at rd5
      clear lq0 zq0 hS hS2 hS3 rdq0 xbq0 oth0 bq0 hn0 hg0 hd0 own0 hne0 hnx0 fq0 rda xb owa oga rba l0 z0
      go_wp2_with fail
      have l1 := Blk.cell rd5 1
      have z1 := Blk.cell xb5 1
      simp at l1 z1
      refine wp_region_ord (fun w' => w'.cell? ⟨B, 1, none⟩ = some (.slice Ag m cg) ∧ w'.cell? ⟨bx, 1, none⟩ = some (.int .i64 (Y m))) 12 [(true, 0), (true, 1), (true, 2), (true, 3), (true, 4), (true, 5), (true, 6), (false, 7), (false, 8), (false, 9), (true, 10), (true, 11)] default (by kernel_rfl) (by kernel_rfl) (fun d _ _ _ _ h => by cases d <;> exact h) ?_ ?_
      · exact ⟨l1, z1⟩
      simp only [List.map_cons, List.map_nil, List.getD_cons_succ, List.getD_cons_zero]
      repeat
        (refine heldL_take ?_ ?_ ?_
         rotate_left
         · intro w' hw'
           try dsimp only at hw'
           go_simp
           try with_reducible rfl
         try simp only [Act.put, List.setIfInBounds_toArray, List.set_cons_zero, List.set_cons_succ])
      refine heldL_move (fun K hK => ?_)
      go_simp
      refine (within_any _ _ _ _).mono ?_
      rintro e w1 ⟨rfl, rfl⟩
      refine hK.out _ _ ?_ (fun hS => ?_)
      · exact ⟨l1, z1⟩
      clear hK K
      try simp only [Act.put, List.setIfInBounds_toArray, List.set_cons_zero, List.set_cons_succ]
      refine heldL_move (fun K hK => ?_)
      go_simp
      refine hK.out _ _ ?_ (fun hS2 => ?_)
      · refine ⟨?_, ?_⟩ <;> go_keep
      clear hK K
      try simp only [Act.put, List.setIfInBounds_toArray, List.set_cons_zero, List.set_cons_succ]
      refine heldL_move (fun K hK => ?_)
      have own1 : World.ownsRow (w5.drew.alloc (.cells #[.int .i64 (wtOf (Y m))] 3)) B 3 1 (.slice Ag m cg) m _ := ((og5).drew).alloc _
      refine wp_append_any _ (.tmp 33) (.tmp 37) 25 (by rfl) B 3 i0 _ 1 8 Try.underlying25 hi0 hz0 hz1 hz2 rfl (by omega) (.slice Ag m cg) m _ (by rfl) own1 (w5.drew.heap.size + 1) (some ⟨w5.drew.heap.size, 0, none⟩) 1 1 [.int .i64 (wtOf (Y m))] (by rfl) ⟨rfl, fun _ => ⟨_, rfl, by simp, fun j u hu => World.news_of_block (cs := #[.int .i64 (wtOf (Y m))]) (t := 3) (fr := (0, 0)) (heap_alloc_new w5.drew _) j u hu⟩⟩ (by intro u hu; simp at hu; subst hu; rfl) (by simp only [maxLen]; omega) (by omega) (by simp; omega) ?_
      intro v1 w6 hn1 hg1 hd1
      obtain ⟨A1, k1, rfl⟩ := slice_of_own hn1
      have hne1 := own_blk_ne own1 (Blk.alloc (Blk.drew rd5) (.cells #[.int .i64 (wtOf (Y m))] 3)) (by decide)
      have hnx1 := own_blk_ne own1 (Blk.alloc (Blk.drew xb5) (.cells #[.int .i64 (wtOf (Y m))] 3)) (by decide)
      have rdq1 := Blk.grown (Blk.alloc (Blk.drew rd5) (.cells #[.int .i64 (wtOf (Y m))] 3)) hg1 (Ne.symm hne1)
      have xbq1 := Blk.grown (Blk.alloc (Blk.drew xb5) (.cells #[.int .i64 (wtOf (Y m))] 3)) hg1 (Ne.symm hnx1)
      have oth1 := World.ownsRow.kept (World.ownsRow.alloc (World.ownsRow.drew ow5) (.cells #[.int .i64 (wtOf (Y m))] 3)) hg1 (sep_or' nsep0)
      have bq1 : Below B w w6 := ((rb5).drew.alloc (by simp; omega) (.cells #[.int .i64 (wtOf (Y m))] 3)).grown hg1 (by simp; omega) (fun k hk => ownBlock_ge own1 hk)
      have nsep1 : ∀ k, (Value.slice A0 (m + 1) k0).ownBlock = some k → (Value.slice A1 (m + 1) k1).ownBlock ≠ some k := sep_new' nsep0 hd1 (fun k hk => own_lt (World.ownsRow.alloc (World.ownsRow.drew ow5) (.cells #[.int .i64 (wtOf (Y m))] 3)) hk)
      have lq1 := Blk.cell rdq1 1
      have zq1 := Blk.cell xbq1 1
      simp at lq1 zq1
      refine hK.out _ _ ?_ (fun hS3 => ?_)
      · exact ⟨lq1, zq1⟩
      clear hK K
      try simp only [Act.put, List.setIfInBounds_toArray, List.set_cons_zero, List.set_cons_succ]
      repeat
        (refine heldL_take ?_ ?_ ?_
         rotate_left
         · intro w' hw'
           try dsimp only at hw'
           go_simp
           try with_reducible rfl
         try simp only [Act.put, List.setIfInBounds_toArray, List.set_cons_zero, List.set_cons_succ])
      refine heldL_last (fun K hK => ?_)
      have fq1 := Blk.frozen rdq1 1
      go_simp
      refine hK _ _ ?_
      clear hK K
      try simp only [Act.put, List.setIfInBounds_toArray, List.set_cons_zero, List.set_cons_succ]
      have rd7 := Blk.set_ rdq1 1 (.slice A1 (m + 1) k1)
      have xb7 := Blk.far xbq1 (p := ⟨B, 1, none⟩) (by simp; omega) (.slice A1 (m + 1) k1)
      have og7 := own_only (S := [B]) (w' := w6.setCell ⟨B, 1, none⟩ (.slice A1 (m + 1) k1)) hn1 ((Only.refl _ _).setCell (.inl (by simp)) _) (fun g hg => by have := own_blk_ne hn1 rdq1 (by decide); rw [hg] at this; simpa using this)
      have ow7 := own_only (S := [B]) (w' := w6.setCell ⟨B, 1, none⟩ (.slice A1 (m + 1) k1)) oth1 ((Only.refl _ _).setCell (.inl (by simp)) _) (fun g hg => by have := own_blk_ne oth1 rdq1 (by decide); rw [hg] at this; simpa using this)
      have rb7 : Below B w (w6.setCell ⟨B, 1, none⟩ (.slice A1 (m + 1) k1)) := bq1.setCell (p := ⟨B, 1, none⟩) (by simp) _
      have hsz1 : bx < (w6.setCell ⟨B, 1, none⟩ (.slice A1 (m + 1) k1)).heap.size := Blk.lt xb7
      generalize w6.setCell ⟨B, 1, none⟩ (.slice A1 (m + 1) k1) = w7 at *
      simp at rd7
      clear lq1 zq1 hS hS2 hS3 rdq1 xbq1 oth1 bq1 hn1 hg1 hd1 own1 hne1 hnx1 fq1 rd5 xb5 og5 ow5 rb5 l1 z1
      go_wp2_with fail
      go_roundw
      case rel => exact ⟨m + 1, A0, A1, k0, k1, by omega, by go_num, rd7, by rw [cellsI_succ]; exact ow7, by rw [cellsI_succ]; exact og7, nsep1, rb7⟩
      case measure => simp [intOf]; omega
    · obtain rfl : m = n := by omega
      have l2 := Blk.cell rd 2
      simp at l2
      go_wp2_with (first
        | (at_make
           refine wpList_make_full _ rfl (.tmp 44) (.tmp 44) 25 rfl B 3 i0 _ 1 Try.underlying25 hi0 hz0 hz1 .i64 .i64 _ _ m rfl rfl rfl rfl ?c1 ?c2 ?c3 ?_
           case c1 => rw [hz2]; omega
           case c2 => simp only [maxLen]; omega
           case c3 => omega
           intro w2 hn2 hg2
           have rd2 := Blk.grown rd hg2 (by simp)
           have f2 := Blk.frozen rd2 2
           have l2' := Blk.cell rd2 2
           simp at l2'))
      go_ret
      rw [show (madeCells (Value.int .i64 0).cells (m * 1)).toList = cellsI (fun _ => 0) m by
        rw [Nat.mul_one, show (Value.int .i64 0).cells = #[Value.int .i64 0] from rfl, toList_madeCells_one]
        simp [cellsI, List.map_const']] at hn2
      have ow2 := World.ownsRow.kept ow hg2 (by
        cases hu : (Value.slice Aw m cw).ownBlock with
        | none => exact .inl rfl
        | some k => exact .inr (by simp))
      have og2 := World.ownsRow.kept og hg2 (by
        cases hu : (Value.slice Ag m cg).ownBlock with
        | none => exact .inl rfl
        | some k => exact .inr (by simp))
      have b2 : Below B w w2 := rb.grown hg2 hwr (by simp)
      have hsz : (w2.setCell ⟨B, 2, none⟩ (.slice (some ⟨wr.heap.size, 0, none⟩) m m)).heap.size = w2.heap.size := by simp [World.setCell]
      have b3 : Below B w (w2.setCell ⟨B, 2, none⟩ (.slice (some ⟨wr.heap.size, 0, none⟩) m m)) := b2.setCell (p := ⟨B, 2, none⟩) (by simp) _
      have rd3 := Blk.set_ rd2 2 (.slice (some ⟨wr.heap.size, 0, none⟩) m m)
      simp at rd3
      have lift : ∀ {A : Option Addr} {c : Nat} {xs : List Value}, w2.ownsRow B 3 1 (.slice A m c) m xs → (w2.setCell ⟨B, 2, none⟩ (.slice (some ⟨wr.heap.size, 0, none⟩) m m)).ownsRow B 3 1 (.slice A m c) m xs := by
        intro A c xs h
        exact own_only (S := [B]) h ((Only.refl _ _).setCell (.inl (by simp)) _) (fun g hg => by have := own_blk_ne h rd2 (by decide); rw [hg] at this; simpa using this)
      have ow3 := lift ow2
      have og3 := lift og2
      have oh3 := lift hn2
      have hlw := fun k (hk : (Value.slice Aw m cw).ownBlock = some k) => own_lt ow hk
      have hlg := fun k (hk : (Value.slice Ag m cg).ownBlock = some k) => own_lt og hk
      have hcw : m ≤ cw := by
        rcases ow.2 with ⟨hv, h0⟩ | ⟨g, cap', cur, hv, _, _, h, _⟩
        · omega
        · injection hv with _ _ hv; omega
      have hcg : m ≤ cg := by
        rcases og.2 with ⟨hv, h0⟩ | ⟨g, cap', cur, hv, _, _, h, _⟩
        · omega
        · injection hv with _ _ hv; omega
      generalize w2.setCell ⟨B, 2, none⟩ (.slice (some ⟨wr.heap.size, 0, none⟩) m m) = w3 at *
      rcases Nat.eq_zero_or_pos m with hm0 | hm0
      · refine ⟨⟨B, B, B, B, m, cw, cg, m, Aw, Ag, some ⟨wr.heap.size, 0, none⟩⟩, rfl, rfl, ⟨?_, ⟨hcw, hcg, Nat.le_refl _, hn⟩, fun h => absurd h (by simp; omega)⟩, by dsimp only; omega, by dsimp only; omega, by dsimp only; omega, by rw [hB]; exact b3⟩
        subst hm0
        simpa [SH.Deal.left, dealOf, SH.sumF] using rd3
      · obtain ⟨bw, hbw⟩ : ∃ bw, Aw = some bw := by
          cases Aw with
          | none => exact absurd (ow3.2) (by
              rintro (⟨_, h⟩ | ⟨g, cap', cur, hv, _⟩)
              · omega
              · cases hv)
          | some bw => exact ⟨bw, rfl⟩
        obtain ⟨bg, hbg⟩ : ∃ bg, Ag = some bg := by
          cases Ag with
          | none => exact absurd (og3.2) (by
              rintro (⟨_, h⟩ | ⟨g, cap', cur, hv, _⟩)
              · omega
              · cases hv)
          | some bg => exact ⟨bg, rfl⟩
        subst hbw hbg
        obtain ⟨gw, rfl, hgw, iw⟩ := IRow.of_own ow3
        obtain ⟨gg, rfl, hgg, ig⟩ := IRow.of_own og3
        obtain ⟨gh, hgh0, hgh, ih⟩ := IRow.of_own oh3
        obtain rfl : wr.heap.size = gh := by simpa using hgh0
        have n1 : gw ≠ gg := fun e => hsep gw rfl (by rw [e]; rfl)
        have n2 := hlw gw rfl
        have n3 := hlg gg rfl
        refine ⟨⟨B, gw, gg, wr.heap.size, m, cw, cg, m, some ⟨gw, 0, none⟩, some ⟨gg, 0, none⟩, some ⟨wr.heap.size, 0, none⟩⟩, rfl, rfl, ⟨?_, ⟨hcw, hcg, Nat.le_refl _, hn⟩, fun _ => ⟨rfl, rfl, rfl, n1, by dsimp only; omega, by dsimp only; omega, ?_, ?_, ?_⟩⟩, by dsimp only; omega, by dsimp only; omega, by dsimp only; omega, by rw [hB]; exact b3⟩
        · have hz : SH.sumF (fun _ => (0 : Int)) m = 0 := by
            have : ∀ k, SH.sumF (fun _ => (0 : Int)) k = 0 := fun k => by induction k with
              | zero => rfl
              | succ k ih => simp [SH.sumF, ih]
            exact this m
          simpa [SH.Deal.left, dealOf, SH.Deal.it, hz] using rd3
        · exact iw.congr (fun j _ => by simp [dealOf, SH.Deal.it])
        · exact ig
        · exact ih
end Go.Proofs.Ytodkifkphhfnpaa
