/- The walks of package ring: Peek, Read. -/
import Derived.Test.YtejbpjfigopplaaRows
import Derived.WalkKit
import Derived.ProofKit
import Derived.Handy
import Derived.Test.YtejbpjfigopplaaMem
import Derived.Test.YtejbpjfigopplaaLift
import Derived.Test.YtejbpjfigopplaaApp
import Derived.Test.YtejbpjfigopplaaReads
import Derived.Test.YtejbpjfigopplaaOrd
import Derived.Test.YtejbpjfigopplaaRing
import Derived.Test.YtejbpjfigopplaaRing2
import Derived.Test.YtejbpjfigopplaaRing3
import Derived.Deep.QuietTactic
import Derived.BigQuiet
import Derived.Deep.RegionWith
import Derived.Deep.RegionHeld3
import Derived.Deep.AppendLies
import Derived.WalkLawsBesides
import Derived.WalkSmall
import Derived.Lib.BufferWrite
import Derived.Laws.BytesArg
namespace Go.Proofs.Ytejbpjfigopplaa
open Go.RowKit
set_option linter.unusedVariables false




def bytesV (l : List UInt8) : List Value := l.map byteV
theorem bytesV_length (l : List UInt8) : (bytesV l).length = l.length := by simp [bytesV]
theorem bytesV_one (l : List UInt8) : ∀ u ∈ bytesV l, u.oneCell' = true := by
  intro u hu
  simp only [bytesV, List.mem_map] at hu
  obtain ⟨x, _, rfl⟩ := hu
  rfl
theorem part_full (g gb c kq f bx : Nat) (s : List UInt8) (a b : Nat) (x y : Int) (w : World) (k : RingAt w g gb c kq s f) (hb : Blk w bx 23 #[.pointer (some ⟨g, 0, none⟩)]) (hx : x = (a : Int)) (hy : y = (b : Int)) (h1 : a < b) (h2 : b ≤ c) :
    Calls Try.prog 20 #[.int .i64 x, .int .i64 y, .pointer (some ⟨bx, 0, none⟩)] w fun e w' => e = .returned (.slice (some ⟨gb, a, none⟩) (b - a) (b - a)) ∧ w = w' := by
  subst hx hy
  have hkq := k.ck
  have hkb := k.kb
  have c0 := Blk.cell k.blk 0
  have cb := Blk.cell hb 0
  simp at c0 cb
  have hc := k.cap
  have hba : ¬ b = a := by omega
  have hba' : ¬ b - a = 0 := by omega
  clear k hb
  go_enter Try.func20, Try.ntmps20
  go_wp2_with fail
  go_ret
  exact ⟨rfl, rfl⟩
theorem part_empty (g gb c kq f bx : Nat) (s : List UInt8) (a : Nat) (x y : Int) (w : World) (k : RingAt w g gb c kq s f) (hb : Blk w bx 23 #[.pointer (some ⟨g, 0, none⟩)]) (hx : x = (a : Int)) (hy : y = (a : Int)) (h2 : a ≤ c) :
    Calls Try.prog 20 #[.int .i64 x, .int .i64 y, .pointer (some ⟨bx, 0, none⟩)] w fun e w' => e = .returned (.slice (some ⟨gb, 0, none⟩) 0 0) ∧ w = w' := by
  subst hx hy
  have hkq := k.ck
  have hkb := k.kb
  have c0 := Blk.cell k.blk 0
  have cb := Blk.cell hb 0
  simp at c0 cb
  have hc := k.cap
  clear k hb
  go_enter Try.func20, Try.ntmps20
  go_wp2_with fail
  go_ret
  exact ⟨rfl, rfl⟩
theorem bytesV_split (l : List UInt8) {k N : Nat} (h : k ≤ N) : bytesV (l.take k) ++ bytesV ((l.take N).drop k) = bytesV (l.take N) := by
  have e : l.take k = (l.take N).take k := by rw [List.take_take, Nat.min_eq_left h]
  rw [e]
  simp only [bytesV, ← List.map_append, List.take_append_drop]
def Peeked (w : World) (s : List UInt8) (d : Nat) (e : Ending) (w' : World) : Prop :=
  e = .returned (.string ⟨(s.take d).toArray⟩) ∧ Below w.heap.size w w'
theorem str_of_bytes (l : List UInt8) : strOfNums (l.map fun x => (x.toNat : Int)) = ⟨l.toArray⟩ := by
  simp only [strOfNums, List.map_map]
  congr 2
  apply List.ext_getElem (by simp)
  intro i h1 h2
  simp
theorem own_cells {w : World} {B n k : Nat} {A : Option Addr} {l : List UInt8} (o : w.ownsRow B 5 1 (.slice A n k) n (bytesV l)) (hn : 0 < n) (hl : l.length = n) : ∃ g, A = some ⟨g, 0, none⟩ ∧ ∀ i, i < n → w.cell? ⟨g, 0 + i, none⟩ = some (.int .u8 ((l.map fun x => (x.toNat : Int)).getD i 0)) := by
  rcases o.2 with ⟨hv, h0⟩ | ⟨g, cap', cur, hv, _, hh, _, _, _, ht⟩
  · omega
  · injection hv with h1 h2 h3
    subst h1
    refine ⟨g, rfl, fun i hi => ?_⟩
    rw [cell_of_row w g _ cur 5 (0, 0) hh, Nat.zero_add]
    have hb : (bytesV l)[i]? = some (byteV (l[i]'(by omega))) := by simp [bytesV, hl, hi]
    rw [← ht, List.getElem?_take] at hb
    split at hb
    · rw [← Array.getElem?_toList, hb]
      simp [byteV, List.getD, hl, hi]
    · cases hb

set_option maxRecDepth 20000 in
set_option maxHeartbeats 4000000 in
theorem peek_any (g gb c kq f : Nat) (s : List UInt8) (m : Int) (d : Nat) (w : World) (k : RingAt w g gb c kq s f) (hd : (d : Int) = max (min m s.length) 0) :
    Calls Try.prog 14 #[.pointer (some ⟨g, 0, none⟩), .int .i64 m] w (Peeked w s d) := by
  obtain ⟨i0, hi0, hz0, hz1, hz2⟩ := info_parts info_U
  have ka := k.alloc (.cells #[.pointer (some ⟨g, 0, none⟩)] 23)
  have bx := Blk.new w 23 #[.pointer (some ⟨g, 0, none⟩)]
  have HL := Lib.hid (len_any g gb c kq f s _ ka)
  have HK := Lib.hid (And.intro ka bx)
  have hl := k.len
  have hc := k.cap
  have c0 := Blk.cell k.blk 0
  have c1 := Blk.cell k.blk 1
  have c2 := Blk.cell k.blk 2
  simp at c0 c1 c2
  have hf := k.f0
  have hgl := k.lt
  have B0 : Below w.heap.size w (w.alloc (.cells #[.pointer (some ⟨g, 0, none⟩)] 23)) := (Below.refl _ _).alloc (Nat.le_refl _) _
  have HB0 := Lib.hid B0
  clear k ka bx B0
  rcases Nat.eq_zero_or_pos d with h0 | h0
  · subst h0
    have hd' : max (min m (s.length : Int)) 0 = 0 := by omega
    clear hd
    go_enter Try.func14, Try.ntmps14
    go_wp2_with fail
    refine HL.out.mono ?_
    rintro e w1 ⟨rfl, rfl⟩
    go_wp2_with fail
    all_goals go_ret
    all_goals exact ⟨rfl, HB0.out⟩
  · have hcc : 0 < c := by omega
    have hfc : f < c := by omega
    rcases (by omega : (m = d ∧ d ≤ s.length) ∨ (d = s.length ∧ (s.length : Int) < m)) with ⟨rfl, hm⟩ | ⟨hm1, hm2⟩
    · clear hd
      by_cases hw : f + d ≤ c
      · have hw' : (f : Int) + d ≤ c := by omega
        go_enter Try.func14, Try.ntmps14
        go_wp2_with fail
        refine HL.out.mono ?_
        rintro e w1 ⟨rfl, rfl⟩
        go_wp2_with fail
        go_quiet (fail)
        have HK1 := Lib.hid (And.intro (HK.out.1.drewN nq) (And.intro (HK.out.2.drewN nq) (below_drewN HB0.out nq)))
        generalize hW1 : World.drewN _ nq = W1 at *
        have hsz1 : w.heap.size ≤ W1.heap.size := HK1.out.2.2.size
        have b1 := Blk.cell HK1.out.2.1 0
        have v1 := Blk.cell HK1.out.1.blk 1
        simp at b1 v1
        clear hW1
        go_wp2_with fail
        refine (part_full g gb c kq f _ s f (f + d) _ _ W1 HK1.out.1 HK1.out.2.1 (by omega) (by omega) (by omega) (by omega)).mono ?_
        rintro e w1 ⟨rfl, rfl⟩
        have ek : f + d - f = d := by omega
        rw [ek]
        clear ek
        have R1 : Reads W1 W1.heap.size 1 (some ⟨gb, f, none⟩) d (bytesV (s.take d)) := by
          obtain ⟨cur, q1, q2, q3⟩ := HK1.out.1.row
          refine ⟨by rw [bytesV_length, List.length_take]; omega, fun _ => ⟨_, rfl, lt_of_blk q1, fun j u hu => ?_⟩⟩
          rw [add_plain_, cell_of_row W1 gb _ cur 5 (0, 0) q1]
          have hj : j < d := by
            rcases Nat.lt_or_ge j d with h | h
            · exact h
            · rw [List.getElem?_eq_none (by rw [bytesV_length, List.length_take]; omega)] at hu; cases hu
          have := q3 j (by omega)
          rw [Nat.mod_eq_of_lt (by omega)] at this
          rw [this, ← hu]
          simp [bytesV, List.getElem?_take, hj, show j < s.length by omega]
        have HR1 := Lib.hid R1
        clear R1
        go_wp2_with (first
          | (at_builtin
             refine wpList_append_any _ rfl (.const (.slice none 0 0)) (.tmp 34) _ rfl W1.heap.size 5 i0 _ 1 1 Try.underlying22 hi0 hz0 hz1 hz2 rfl (by omega) (.slice none 0 0) 0 [] rfl (own_nil _ _ _ _) W1.heap.size (some ⟨gb, f, none⟩) d d (bytesV (s.take d)) rfl HR1.out (bytesV_one _) (by simp only [maxLen]; omega) (by omega) (Nat.le_refl _) ?_
             intro v2 w2 hn2 hg2 hd2
             obtain ⟨A2, k2, rfl⟩ := slice_of_own' hn2
             rw [Nat.zero_add] at *
             rw [List.nil_append] at hn2
             have bb2 : Below W1.heap.size W1 w2 := (Below.refl _ _).grown hg2 (Nat.le_refl _) (by simp [Value.ownBlock])
             have HN2 := Lib.hid (And.intro hn2 bb2)
             have rg2 := HK1.out.1.below bb2
             have rb2 := Blk.below HK1.out.2.1 bb2 (Blk.lt HK1.out.2.1)
             have hsz2 := bb2.size
             have HRG := Lib.hid (And.intro rg2 rb2)
             clear hn2 hg2 hd2 bb2 rg2 rb2))
        refine (part_empty g gb c kq f _ s 0 _ _ w2 HRG.out.1 HRG.out.2 (by omega) (by omega) (by omega)).mono ?_
        rintro e w3 ⟨rfl, rfl⟩
        have R2 : Reads w2 w2.heap.size 1 (some ⟨gb, 0, none⟩) 0 (bytesV ((s.take d).drop d)) := ⟨by simp [bytesV], fun h => absurd h (by omega)⟩
        have HR2 := Lib.hid R2
        clear R2
        go_wp2_with (first
          | (at_builtin
             refine wpList_append_any _ rfl (.tmp 36) (.tmp 42) _ rfl W1.heap.size 5 i0 _ 1 1 Try.underlying22 hi0 hz0 hz1 hz2 rfl (by omega) (.slice A2 d k2) d _ rfl HN2.out.1 w2.heap.size (some ⟨gb, 0, none⟩) 0 0 (bytesV ((s.take d).drop d)) rfl HR2.out (bytesV_one _) (by simp only [maxLen]; omega) (by omega) (by omega) ?_
             intro v4 w4 hn4 hg4 hd4
             obtain ⟨A4, k4, rfl⟩ := slice_of_own' hn4
             have hn4' : w4.ownsRow W1.heap.size 5 1 (.slice A4 (d + 0) k4) (d + 0) (bytesV (s.take d)) := by
               rw [bytesV_split s (by omega)] at hn4
               exact hn4
             obtain ⟨g4, rfl, hc4⟩ := own_cells hn4' (by omega) (by rw [List.length_take]; omega)
             have hcv := run_convert_bytes_arg (P := Try.prog) w4 22 5 Try.underlying22 Try.underlying5 g4 0 (d + 0) k4 ((s.take d).map fun x => (x.toNat : Int)) (by rw [List.length_map, List.length_take]; omega) hc4 9 Try.underlying9
             rw [str_of_bytes] at hcv
             try simp only [Nat.add_zero] at hcv
             have B4 : Below w.heap.size w w4 := (HK1.out.2.2.trans (HN2.out.2.mono hsz1)).grown hg4 (by omega) (fun k hk => by have := ownBlock_ge HN2.out.1 hk; omega)
             have HB4 := Lib.hid B4
             clear hn4 hn4' hc4 hg4 hd4 B4))
        go_ret
        exact ⟨by first | rfl | (rw [List.take_length]; rfl) | rw [List.take_length], HB4.out⟩
      · have hw' : (c : Int) < (f : Int) + d := by omega
        go_enter Try.func14, Try.ntmps14
        go_wp2_with fail
        refine HL.out.mono ?_
        rintro e w1 ⟨rfl, rfl⟩
        go_wp2_with fail
        go_quiet (fail)
        have HK1 := Lib.hid (And.intro (HK.out.1.drewN nq) (And.intro (HK.out.2.drewN nq) (below_drewN HB0.out nq)))
        generalize hW1 : World.drewN _ nq = W1 at *
        have hsz1 : w.heap.size ≤ W1.heap.size := HK1.out.2.2.size
        have b1 := Blk.cell HK1.out.2.1 0
        have v1 := Blk.cell HK1.out.1.blk 1
        simp at b1 v1
        clear hW1
        go_wp2_with fail
        refine (part_full g gb c kq f _ s f c _ _ W1 HK1.out.1 HK1.out.2.1 (by omega) (by omega) (by omega) (by omega)).mono ?_
        rintro e w1 ⟨rfl, rfl⟩
        have R1 : Reads W1 W1.heap.size 1 (some ⟨gb, f, none⟩) (c - f) (bytesV (s.take (c - f))) := by
          obtain ⟨cur, q1, q2, q3⟩ := HK1.out.1.row
          refine ⟨by rw [bytesV_length, List.length_take]; omega, fun _ => ⟨_, rfl, lt_of_blk q1, fun j u hu => ?_⟩⟩
          rw [add_plain_, cell_of_row W1 gb _ cur 5 (0, 0) q1]
          have hj : j < (c - f) := by
            rcases Nat.lt_or_ge j (c - f) with h | h
            · exact h
            · rw [List.getElem?_eq_none (by rw [bytesV_length, List.length_take]; omega)] at hu; cases hu
          have := q3 j (by omega)
          rw [Nat.mod_eq_of_lt (by omega)] at this
          rw [this, ← hu]
          simp [bytesV, List.getElem?_take, hj, show j < s.length by omega]
        have HR1 := Lib.hid R1
        clear R1
        go_wp2_with (first
          | (at_builtin
             refine wpList_append_any _ rfl (.const (.slice none 0 0)) (.tmp 34) _ rfl W1.heap.size 5 i0 _ 1 1 Try.underlying22 hi0 hz0 hz1 hz2 rfl (by omega) (.slice none 0 0) 0 [] rfl (own_nil _ _ _ _) W1.heap.size (some ⟨gb, f, none⟩) (c - f) (c - f) (bytesV (s.take (c - f))) rfl HR1.out (bytesV_one _) (by simp only [maxLen]; omega) (by omega) (Nat.le_refl _) ?_
             intro v2 w2 hn2 hg2 hd2
             obtain ⟨A2, k2, rfl⟩ := slice_of_own' hn2
             rw [Nat.zero_add] at *
             rw [List.nil_append] at hn2
             have bb2 : Below W1.heap.size W1 w2 := (Below.refl _ _).grown hg2 (Nat.le_refl _) (by simp [Value.ownBlock])
             have HN2 := Lib.hid (And.intro hn2 bb2)
             have rg2 := HK1.out.1.below bb2
             have rb2 := Blk.below HK1.out.2.1 bb2 (Blk.lt HK1.out.2.1)
             have hsz2 := bb2.size
             have HRG := Lib.hid (And.intro rg2 rb2)
             clear hn2 hg2 hd2 bb2 rg2 rb2))
        refine (part_full g gb c kq f _ s 0 (d - (c - f)) _ _ w2 HRG.out.1 HRG.out.2 (by omega) (by omega) (by omega) (by omega)).mono ?_
        rintro e w3 ⟨rfl, rfl⟩
        rw [Nat.sub_zero]
        have R2 : Reads w2 w2.heap.size 1 (some ⟨gb, 0, none⟩) (d - (c - f)) (bytesV ((s.take d).drop (c - f))) := by
          obtain ⟨cur, q1, q2, q3⟩ := HRG.out.1.row
          refine ⟨by rw [bytesV_length, List.length_drop, List.length_take]; omega, fun _ => ⟨_, rfl, lt_of_blk q1, fun j u hu => ?_⟩⟩
          rw [add_plain_, cell_of_row w2 gb _ cur 5 (0, 0) q1, Nat.zero_add]
          have hj : j < d - (c - f) := by
            rcases Nat.lt_or_ge j (d - (c - f)) with h | h
            · exact h
            · rw [List.getElem?_eq_none (by rw [bytesV_length, List.length_drop, List.length_take]; omega)] at hu; cases hu
          have := q3 (c - f + j) (by omega)
          rw [show f + (c - f + j) = c + j by omega, Nat.add_mod_left, Nat.mod_eq_of_lt (by omega)] at this
          rw [this, ← hu]
          simp [bytesV, List.getElem?_drop, List.getElem?_take, show c - f + j < d by omega, show c - f + j < s.length by omega]
        have HR2 := Lib.hid R2
        clear R2
        go_wp2_with (first
          | (at_builtin
             refine wpList_append_any _ rfl (.tmp 36) (.tmp 42) _ rfl W1.heap.size 5 i0 _ 1 1 Try.underlying22 hi0 hz0 hz1 hz2 rfl (by omega) (.slice A2 (c - f) k2) (c - f) _ rfl HN2.out.1 w2.heap.size (some ⟨gb, 0, none⟩) (d - (c - f)) (d - (c - f)) (bytesV ((s.take d).drop (c - f))) rfl HR2.out (bytesV_one _) (by simp only [maxLen]; omega) (by omega) (by omega) ?_
             intro v4 w4 hn4 hg4 hd4
             obtain ⟨A4, k4, rfl⟩ := slice_of_own' hn4
             have hn4' : w4.ownsRow W1.heap.size 5 1 (.slice A4 ((c - f) + (d - (c - f))) k4) ((c - f) + (d - (c - f))) (bytesV (s.take d)) := by
               rw [bytesV_split s (by omega)] at hn4
               exact hn4
             obtain ⟨g4, rfl, hc4⟩ := own_cells hn4' (by omega) (by rw [List.length_take]; omega)
             have hcv := run_convert_bytes_arg (P := Try.prog) w4 22 5 Try.underlying22 Try.underlying5 g4 0 ((c - f) + (d - (c - f))) k4 ((s.take d).map fun x => (x.toNat : Int)) (by rw [List.length_map, List.length_take]; omega) hc4 9 Try.underlying9
             rw [str_of_bytes] at hcv
             try simp only [Nat.add_zero] at hcv
             have B4 : Below w.heap.size w w4 := (HK1.out.2.2.trans (HN2.out.2.mono hsz1)).grown hg4 (by omega) (fun k hk => by have := ownBlock_ge HN2.out.1 hk; omega)
             have HB4 := Lib.hid B4
             clear hn4 hn4' hc4 hg4 hd4 B4))
        go_ret
        exact ⟨by first | rfl | (rw [List.take_length]; rfl) | rw [List.take_length], HB4.out⟩
    · have e0 := hm1.symm
      clear hm1 hd
      subst e0
      have hm3 : ¬ m ≤ (s.length : Int) := by omega
      by_cases hw : f + s.length ≤ c
      · have hw' : (f : Int) + s.length ≤ c := by omega
        go_enter Try.func14, Try.ntmps14
        go_wp2_with fail
        refine HL.out.mono ?_
        rintro e w1 ⟨rfl, rfl⟩
        go_wp2_with fail
        go_quiet (fail)
        have HK1 := Lib.hid (And.intro (HK.out.1.drewN nq) (And.intro (HK.out.2.drewN nq) (below_drewN HB0.out nq)))
        generalize hW1 : World.drewN _ nq = W1 at *
        have hsz1 : w.heap.size ≤ W1.heap.size := HK1.out.2.2.size
        have b1 := Blk.cell HK1.out.2.1 0
        have v1 := Blk.cell HK1.out.1.blk 1
        simp at b1 v1
        clear hW1
        go_wp2_with fail
        refine (part_full g gb c kq f _ s f (f + s.length) _ _ W1 HK1.out.1 HK1.out.2.1 (by omega) (by omega) (by omega) (by omega)).mono ?_
        rintro e w1 ⟨rfl, rfl⟩
        have ek : f + s.length - f = s.length := by omega
        rw [ek]
        clear ek
        have R1 : Reads W1 W1.heap.size 1 (some ⟨gb, f, none⟩) s.length (bytesV (s.take s.length)) := by
          obtain ⟨cur, q1, q2, q3⟩ := HK1.out.1.row
          refine ⟨by rw [bytesV_length, List.length_take]; omega, fun _ => ⟨_, rfl, lt_of_blk q1, fun j u hu => ?_⟩⟩
          rw [add_plain_, cell_of_row W1 gb _ cur 5 (0, 0) q1]
          have hj : j < s.length := by
            rcases Nat.lt_or_ge j s.length with h | h
            · exact h
            · rw [List.getElem?_eq_none (by rw [bytesV_length, List.length_take]; omega)] at hu; cases hu
          have := q3 j (by omega)
          rw [Nat.mod_eq_of_lt (by omega)] at this
          rw [this, ← hu]
          simp [bytesV, List.getElem?_take, hj, show j < s.length by omega]
        have HR1 := Lib.hid R1
        clear R1
        go_wp2_with (first
          | (at_builtin
             refine wpList_append_any _ rfl (.const (.slice none 0 0)) (.tmp 34) _ rfl W1.heap.size 5 i0 _ 1 1 Try.underlying22 hi0 hz0 hz1 hz2 rfl (by omega) (.slice none 0 0) 0 [] rfl (own_nil _ _ _ _) W1.heap.size (some ⟨gb, f, none⟩) s.length s.length (bytesV (s.take s.length)) rfl HR1.out (bytesV_one _) (by simp only [maxLen]; omega) (by omega) (Nat.le_refl _) ?_
             intro v2 w2 hn2 hg2 hd2
             obtain ⟨A2, k2, rfl⟩ := slice_of_own' hn2
             rw [Nat.zero_add] at *
             rw [List.nil_append] at hn2
             have bb2 : Below W1.heap.size W1 w2 := (Below.refl _ _).grown hg2 (Nat.le_refl _) (by simp [Value.ownBlock])
             have HN2 := Lib.hid (And.intro hn2 bb2)
             have rg2 := HK1.out.1.below bb2
             have rb2 := Blk.below HK1.out.2.1 bb2 (Blk.lt HK1.out.2.1)
             have hsz2 := bb2.size
             have HRG := Lib.hid (And.intro rg2 rb2)
             clear hn2 hg2 hd2 bb2 rg2 rb2))
        refine (part_empty g gb c kq f _ s 0 _ _ w2 HRG.out.1 HRG.out.2 (by omega) (by omega) (by omega)).mono ?_
        rintro e w3 ⟨rfl, rfl⟩
        have R2 : Reads w2 w2.heap.size 1 (some ⟨gb, 0, none⟩) 0 (bytesV ((s.take s.length).drop s.length)) := ⟨by simp [bytesV], fun h => absurd h (by omega)⟩
        have HR2 := Lib.hid R2
        clear R2
        go_wp2_with (first
          | (at_builtin
             refine wpList_append_any _ rfl (.tmp 36) (.tmp 42) _ rfl W1.heap.size 5 i0 _ 1 1 Try.underlying22 hi0 hz0 hz1 hz2 rfl (by omega) (.slice A2 s.length k2) s.length _ rfl HN2.out.1 w2.heap.size (some ⟨gb, 0, none⟩) 0 0 (bytesV ((s.take s.length).drop s.length)) rfl HR2.out (bytesV_one _) (by simp only [maxLen]; omega) (by omega) (by omega) ?_
             intro v4 w4 hn4 hg4 hd4
             obtain ⟨A4, k4, rfl⟩ := slice_of_own' hn4
             have hn4' : w4.ownsRow W1.heap.size 5 1 (.slice A4 (s.length + 0) k4) (s.length + 0) (bytesV (s.take s.length)) := by
               rw [bytesV_split s (by omega)] at hn4
               exact hn4
             obtain ⟨g4, rfl, hc4⟩ := own_cells hn4' (by omega) (by rw [List.length_take]; omega)
             have hcv := run_convert_bytes_arg (P := Try.prog) w4 22 5 Try.underlying22 Try.underlying5 g4 0 (s.length + 0) k4 ((s.take s.length).map fun x => (x.toNat : Int)) (by rw [List.length_map, List.length_take]; omega) hc4 9 Try.underlying9
             rw [str_of_bytes] at hcv
             try simp only [Nat.add_zero] at hcv
             have B4 : Below w.heap.size w w4 := (HK1.out.2.2.trans (HN2.out.2.mono hsz1)).grown hg4 (by omega) (fun k hk => by have := ownBlock_ge HN2.out.1 hk; omega)
             have HB4 := Lib.hid B4
             clear hn4 hn4' hc4 hg4 hd4 B4))
        go_ret
        exact ⟨by first | rfl | (rw [List.take_length]; rfl) | rw [List.take_length], HB4.out⟩
      · have hw' : (c : Int) < (f : Int) + s.length := by omega
        go_enter Try.func14, Try.ntmps14
        go_wp2_with fail
        refine HL.out.mono ?_
        rintro e w1 ⟨rfl, rfl⟩
        go_wp2_with fail
        go_quiet (fail)
        have HK1 := Lib.hid (And.intro (HK.out.1.drewN nq) (And.intro (HK.out.2.drewN nq) (below_drewN HB0.out nq)))
        generalize hW1 : World.drewN _ nq = W1 at *
        have hsz1 : w.heap.size ≤ W1.heap.size := HK1.out.2.2.size
        have b1 := Blk.cell HK1.out.2.1 0
        have v1 := Blk.cell HK1.out.1.blk 1
        simp at b1 v1
        clear hW1
        go_wp2_with fail
        refine (part_full g gb c kq f _ s f c _ _ W1 HK1.out.1 HK1.out.2.1 (by omega) (by omega) (by omega) (by omega)).mono ?_
        rintro e w1 ⟨rfl, rfl⟩
        have R1 : Reads W1 W1.heap.size 1 (some ⟨gb, f, none⟩) (c - f) (bytesV (s.take (c - f))) := by
          obtain ⟨cur, q1, q2, q3⟩ := HK1.out.1.row
          refine ⟨by rw [bytesV_length, List.length_take]; omega, fun _ => ⟨_, rfl, lt_of_blk q1, fun j u hu => ?_⟩⟩
          rw [add_plain_, cell_of_row W1 gb _ cur 5 (0, 0) q1]
          have hj : j < (c - f) := by
            rcases Nat.lt_or_ge j (c - f) with h | h
            · exact h
            · rw [List.getElem?_eq_none (by rw [bytesV_length, List.length_take]; omega)] at hu; cases hu
          have := q3 j (by omega)
          rw [Nat.mod_eq_of_lt (by omega)] at this
          rw [this, ← hu]
          simp [bytesV, List.getElem?_take, hj, show j < s.length by omega]
        have HR1 := Lib.hid R1
        clear R1
        go_wp2_with (first
          | (at_builtin
             refine wpList_append_any _ rfl (.const (.slice none 0 0)) (.tmp 34) _ rfl W1.heap.size 5 i0 _ 1 1 Try.underlying22 hi0 hz0 hz1 hz2 rfl (by omega) (.slice none 0 0) 0 [] rfl (own_nil _ _ _ _) W1.heap.size (some ⟨gb, f, none⟩) (c - f) (c - f) (bytesV (s.take (c - f))) rfl HR1.out (bytesV_one _) (by simp only [maxLen]; omega) (by omega) (Nat.le_refl _) ?_
             intro v2 w2 hn2 hg2 hd2
             obtain ⟨A2, k2, rfl⟩ := slice_of_own' hn2
             rw [Nat.zero_add] at *
             rw [List.nil_append] at hn2
             have bb2 : Below W1.heap.size W1 w2 := (Below.refl _ _).grown hg2 (Nat.le_refl _) (by simp [Value.ownBlock])
             have HN2 := Lib.hid (And.intro hn2 bb2)
             have rg2 := HK1.out.1.below bb2
             have rb2 := Blk.below HK1.out.2.1 bb2 (Blk.lt HK1.out.2.1)
             have hsz2 := bb2.size
             have HRG := Lib.hid (And.intro rg2 rb2)
             clear hn2 hg2 hd2 bb2 rg2 rb2))
        refine (part_full g gb c kq f _ s 0 (s.length - (c - f)) _ _ w2 HRG.out.1 HRG.out.2 (by omega) (by omega) (by omega) (by omega)).mono ?_
        rintro e w3 ⟨rfl, rfl⟩
        rw [Nat.sub_zero]
        have R2 : Reads w2 w2.heap.size 1 (some ⟨gb, 0, none⟩) (s.length - (c - f)) (bytesV ((s.take s.length).drop (c - f))) := by
          obtain ⟨cur, q1, q2, q3⟩ := HRG.out.1.row
          refine ⟨by rw [bytesV_length, List.length_drop, List.length_take]; omega, fun _ => ⟨_, rfl, lt_of_blk q1, fun j u hu => ?_⟩⟩
          rw [add_plain_, cell_of_row w2 gb _ cur 5 (0, 0) q1, Nat.zero_add]
          have hj : j < s.length - (c - f) := by
            rcases Nat.lt_or_ge j (s.length - (c - f)) with h | h
            · exact h
            · rw [List.getElem?_eq_none (by rw [bytesV_length, List.length_drop, List.length_take]; omega)] at hu; cases hu
          have := q3 (c - f + j) (by omega)
          rw [show f + (c - f + j) = c + j by omega, Nat.add_mod_left, Nat.mod_eq_of_lt (by omega)] at this
          rw [this, ← hu]
          simp [bytesV, List.getElem?_drop, List.getElem?_take, show c - f + j < s.length by omega, show c - f + j < s.length by omega]
        have HR2 := Lib.hid R2
        clear R2
        go_wp2_with (first
          | (at_builtin
             refine wpList_append_any _ rfl (.tmp 36) (.tmp 42) _ rfl W1.heap.size 5 i0 _ 1 1 Try.underlying22 hi0 hz0 hz1 hz2 rfl (by omega) (.slice A2 (c - f) k2) (c - f) _ rfl HN2.out.1 w2.heap.size (some ⟨gb, 0, none⟩) (s.length - (c - f)) (s.length - (c - f)) (bytesV ((s.take s.length).drop (c - f))) rfl HR2.out (bytesV_one _) (by simp only [maxLen]; omega) (by omega) (by omega) ?_
             intro v4 w4 hn4 hg4 hd4
             obtain ⟨A4, k4, rfl⟩ := slice_of_own' hn4
             have hn4' : w4.ownsRow W1.heap.size 5 1 (.slice A4 ((c - f) + (s.length - (c - f))) k4) ((c - f) + (s.length - (c - f))) (bytesV (s.take s.length)) := by
               rw [bytesV_split s (by omega)] at hn4
               exact hn4
             obtain ⟨g4, rfl, hc4⟩ := own_cells hn4' (by omega) (by rw [List.length_take]; omega)
             have hcv := run_convert_bytes_arg (P := Try.prog) w4 22 5 Try.underlying22 Try.underlying5 g4 0 ((c - f) + (s.length - (c - f))) k4 ((s.take s.length).map fun x => (x.toNat : Int)) (by rw [List.length_map, List.length_take]; omega) hc4 9 Try.underlying9
             rw [str_of_bytes] at hcv
             try simp only [Nat.add_zero] at hcv
             have B4 : Below w.heap.size w w4 := (HK1.out.2.2.trans (HN2.out.2.mono hsz1)).grown hg4 (by omega) (fun k hk => by have := ownBlock_ge HN2.out.1 hk; omega)
             have HB4 := Lib.hid B4
             clear hn4 hn4' hc4 hg4 hd4 B4))
        go_ret
        exact ⟨by first | rfl | (rw [List.take_length]; rfl) | rw [List.take_length], HB4.out⟩
end Go.Proofs.Ytejbpjfigopplaa
