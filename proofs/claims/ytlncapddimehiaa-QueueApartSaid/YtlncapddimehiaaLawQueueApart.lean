/- Proved: QueueApart answers true for every input, and leaves its arguments as they were; no condition. -/
import Derived.Test.YtlncapddimehiaaRows
import Derived.Test.YtlncapddimehiaaMem
import Derived.Test.YtlncapddimehiaaLift
import Derived.Test.YtlncapddimehiaaQueueL
import Derived.WalkKit
import Derived.ProofKit
import Derived.OpenShut
import Derived.Handy
import Derived.Deep.QuietTactic
import Derived.BigQuiet
import Derived.Deep.RegionWith
import Derived.WalkLawsBesides
import Derived.Deep.RegionHeld3
namespace Go.Proofs.Ytlncapddimehiaa.QueueApart
open Go.ChangeShapes Go.WideShapes Go.ChangeAt Go.RowKit Go.Deep
set_option linter.unusedVariables false

set_option maxRecDepth 100000 in
set_option maxHeartbeats 16000000 in
theorem walk (w : World) (v0 : Value) (k0 : FourOf w v0) :
    Calls Try.prog 5 #[v0] w fun e w' => e = .returned (.bool true) ∧ Below w.heap.size w w' := by
  obtain ⟨a0, a1, A, n, cap, A', n', cap', C, C', rfl, ha0, ha0', ha1, ha1', hnc, hcap, hcells, hnc', hcap', hcells'⟩ := k0
  have HC := Lib.hid hcells
  have HC' := Lib.hid hcells'
  clear hcells hcells'
  obtain ⟨cp, hcp⟩ : ∃ x : Int, x = a0 % 65 := ⟨_, rfl⟩
  obtain ⟨st, hst⟩ : ∃ x : Int, x = a1 % 3 := ⟨_, rfl⟩
  have h0 : 0 ≤ cp := by omega
  have h1 : cp ≤ 64 := by omega
  have s0 : 0 ≤ st := by omega
  have s1 : st ≤ 2 := by omega
  have e0 : a0 % 65 = cp := hcp.symm
  have e1 : a1 % 3 = st := hst.symm
  clear hcp hst
  go_enter Try.func5, Try.ntmps5
  go_wp2_with fail
  go_quiet (fail)
  go_wp2_with fail
  have x0 : Blk (((w.alloc (.cells #[.int .u8 a0, .int .u8 a1, .slice A n cap, .slice A' n' cap'] 46)).drewN nq).alloc (.cells #[.int .i64 cp, .int .i64 st, .slice none 0 0, .int .i64 0, .int .i64 0, .int .i64 0] 40)) (w.heap.size + 1) 40 #[.int .i64 cp, .int .i64 st, .slice none 0 0, .int .i64 0, .int .i64 0, .int .i64 0] := by
    have := Blk.new ((w.alloc (.cells #[.int .u8 a0, .int .u8 a1, .slice A n cap, .slice A' n' cap'] 46)).drewN nq) 40 #[.int .i64 cp, .int .i64 st, .slice none 0 0, .int .i64 0, .int .i64 0, .int .i64 0]
    simpa using this
  have B0 : Below w.heap.size w (((w.alloc (.cells #[.int .u8 a0, .int .u8 a1, .slice A n cap, .slice A' n' cap'] 46)).drewN nq).alloc (.cells #[.int .i64 cp, .int .i64 st, .slice none 0 0, .int .i64 0, .int .i64 0, .int .i64 0] 40)) := (below_drewN ((Below.refl _ _).alloc (Nat.le_refl _) _) nq).alloc (by simp) _
  generalize ((w.alloc (.cells #[.int .u8 a0, .int .u8 a1, .slice A n cap, .slice A' n' cap'] 46)).drewN nq).alloc (.cells #[.int .i64 cp, .int .i64 st, .slice none 0 0, .int .i64 0, .int .i64 0, .int .i64 0] 40) = W0 at *
  have z0 := Blk.cell x0 0
  have z1 := Blk.cell x0 1
  simp at z0 z1
  have X0 := Lib.hid (And.intro x0 B0)
  have hx0 := Blk.lt x0
  have hB0 : w.heap.size ≤ W0.heap.size := B0.size
  clear x0 B0
  go_region_held3 (fun w' => w'.cell? ⟨w.heap.size + 1, 0, none⟩ = some (.int .i64 cp) ∧ w'.cell? ⟨w.heap.size + 1, 1, none⟩ = some (.int .i64 st))
    (first
      | go_keep
      | (refine ⟨?_, ?_⟩ <;> with_reducible assumption))
    ((first
      | (go_at_call 6
         refine (new_ok cp st _ h0 h1 s0 s1).mono ?_
         rintro e w1 ⟨rfl, k1, b1'⟩
         have b1 : Below W0.heap.size W0 w1 := ⟨b1'.os, b1'.tape, b1'.output, b1'.size, b1'.block⟩
         have k1' : QAt 50 w1 W0.heap.size cp st [] 0 0 0 := k1
         have x1 := Blk.below X0.out.1 b1 (Blk.lt X0.out.1)
         have y0 := Blk.cell x1 0
         have y1 := Blk.cell x1 1
         simp at y0 y1
         have H1 := Lib.hid (And.intro k1' (And.intro x1 (X0.out.2.trans (b1.mono hB0))))
         clear k1 b1' b1 k1' x1)))
  go_wp2_with fail
  refine (awake_any _).mono ?_
  rintro e w2 ⟨rfl, bb2⟩
  have k2 : Both w2 W0.heap.size (w.heap.size + 1) cp st [] 0 0 0 := ⟨H1.out.1.below bb2, QAt.below ⟨none, 0, H1.out.2.1, Held.nil_ _ _ _⟩ bb2⟩
  have B2 := H1.out.2.2.trans (bb2.mono H1.out.2.2.size)
  have H2 := Lib.hid (And.intro k2 B2)
  clear k2 B2 bb2
  generalize hh : w.heap.size + 1 = h at *
  have hh1 : w.heap.size ≤ h := by omega
  generalize W0.heap.size = g at *
  go_wp2_with fail
  go_loopw [10] (fun iv wr => ∃ (m : Nat) (L : List ByteArray) (a b c : Int), m ≤ 60 ∧ iv = .int .i64 m ∧ Both wr g h cp st L a b c ∧ QInv cp st L a b c m ∧ Below w.heap.size w wr) (fun i _ => 60 - (intOf i).toNat)
  case atStart => exact ⟨0, [], 0, 0, 0, by omega, rfl, H2.out.1, ⟨h0, h1, s0, s1, by simpa using h0, by omega, by omega, by simp, by simp⟩, H2.out.2⟩
  case round =>
    obtain ⟨m, L, a, b, c, hm, rfl, k, I, rb⟩ := hrel
    have HK := Lib.hid (And.intro k (And.intro I rb))
    clear k I rb
    have hIN : ∀ (M : Nat), m ≤ M → QInv cp st L a b c M := fun M hM => by
      obtain ⟨i1, i2, i3, i4, i5, i6, i7, i8, i9⟩ := HK.out.2.1
      exact ⟨i1, i2, i3, i4, i5, i6, i7, i8, by omega⟩
    have HIN := Lib.hid hIN
    clear hIN
    by_cases hgo : m < n ∧ m < 60
    · obtain ⟨hlt, hlt2⟩ := hgo
      obtain ⟨bq, off, kd, s, rfl, hbl, c0, c1, hx, hsz⟩ := ks_at HC.out hlt
      rw [← HK.out.2.2.cell (p := ⟨bq, off + m * 2, none⟩) hbl] at c0
      rw [← HK.out.2.2.cell (p := ⟨bq, off + m * 2 + 1, none⟩) hbl] at c1
      by_cases hbig : 300 < s.size
      · have hbig' : (300 : Int) < s.size := by omega
        go_wp2_with fail
        go_roundw
        case rel => exact ⟨m + 1, L, a, b, c, by omega, by go_num, HK.out.1, HIN.out _ (by omega), HK.out.2.2⟩
        case measure => simp [intOf]; omega
      · have hbig' : (s.size : Int) ≤ 300 := by omega
        have HD := Lib.hid (do_any g h cp st L a b c m kd s wr HK.out.1 HK.out.2.1 (by omega) (by omega))
        go_wp2_with fail
        refine HD.out.mono ?_
        rintro e w3 ⟨rfl, ⟨L', a', b', c', k3, I3⟩, o3⟩
        have B3 : Below w.heap.size w w3 := bonly HK.out.2.2 o3 (by simp; omega)
        have H3 := Lib.hid (And.intro k3 (And.intro I3 B3))
        clear k3 I3 B3 o3
        go_wp2_with fail
        go_roundw
        case rel => exact ⟨m + 1, L', a', b', c', by omega, by go_num, H3.out.1, by have := H3.out.2.1; simpa using this, H3.out.2.2⟩
        case measure => simp [intOf]; omega
    · have hl64 : L.length ≤ 64 := by have := HK.out.2.1.len; omega
      have hcopy := copy_any g cp st L a b c wr HK.out.1.q hl64
      have HCP := Lib.hid hcopy
      have I60 := HIN.out 60 (by omega)
      have HI60 := Lib.hid I60
      have hend : ¬ m < n ∨ (m < n ∧ ¬ m < 60) := by omega
      clear hcopy hgo I60
      rcases hend with hend | ⟨hend, hend2⟩
      all_goals
        (go_wp2_with fail
         refine HCP.out.mono ?_
         rintro e w4 ⟨rfl, k4, b4⟩
         have HB4 := Lib.hid (And.intro (HK.out.1.below b4) (And.intro k4 (HK.out.2.2.trans (b4.mono HK.out.2.2.size))))
         have hg2 : g ≠ wr.heap.size := by have := HK.out.1.q.lt; omega
         have hg3 : h < wr.heap.size := HK.out.1.r.lt
         have hsz4 : wr.heap.size < w4.heap.size := k4.lt
         have hwr : w.heap.size ≤ wr.heap.size := HK.out.2.2.size
         clear b4 k4
         obtain ⟨Ar, nr, r1, r2⟩ := HB4.out.1.r
         have z0 := Blk.cell r1 0
         have z1 := Blk.cell r1 1
         have z2 := Blk.cell r1 2
         have z3 := Blk.cell r1 3
         have z4 := Blk.cell r1 4
         have z5 := Blk.cell r1 5
         simp at z0 z1 z2 z3 z4 z5
         have HR2 := Lib.hid (And.intro r1 r2)
         clear r1 r2
         go_wp2_with fail
         refine wp_region_ord (fun w' => w'.cell? ⟨h, 0, none⟩ = some (.int .i64 cp) ∧ w'.cell? ⟨h, 1, none⟩ = some (.int .i64 st) ∧ w'.cell? ⟨h, 2, none⟩ = some (.slice Ar L.length nr) ∧ w'.cell? ⟨h, 3, none⟩ = some (.int .i64 a) ∧ w'.cell? ⟨h, 4, none⟩ = some (.int .i64 b) ∧ w'.cell? ⟨h, 5, none⟩ = some (.int .i64 c)) 26 [(true, 0), (true, 1), (true, 2), (true, 3), (true, 4), (true, 5), (true, 6), (true, 7), (true, 8), (true, 9), (true, 10), (true, 11), (true, 12), (true, 13), (true, 14), (true, 15), (true, 16), (true, 17), (true, 18), (true, 19), (true, 20), (true, 21), (true, 22), (true, 23), (true, 24), (false, 25)] default (by kernel_rfl) (by kernel_rfl) (fun d _ _ _ _ h => by cases d <;> exact h) ?_ ?_
         · exact ⟨z0, z1, z2, z3, z4, z5⟩
         simp only [List.map_cons, List.map_nil, List.getD_cons_succ, List.getD_cons_zero]
         repeat
           (refine heldL_take ?_ ?_ ?_
            rotate_left
            · intro w' hw'
              try dsimp only at hw'
              go_simp
              try with_reducible rfl
            try simp only [Act.put, List.setIfInBounds_toArray, List.set_cons_zero, List.set_cons_succ])
         have hhlt : h < w4.heap.size := by omega
         refine heldL_move (fun K hK => ?_)
         go_simp
         refine hK.out _ _ ?_ (fun hS => ?_)
         · refine ⟨?_, ?_, ?_, ?_, ?_, ?_⟩ <;> go_keep
         clear hK K
         try simp only [Act.put, List.setIfInBounds_toArray, List.set_cons_zero, List.set_cons_succ]
         refine heldL_last (fun K hK => ?_)
         go_simp
         refine hK _ _ ?_
         clear hK K
         try simp only [Act.put, List.setIfInBounds_toArray, List.set_cons_zero, List.set_cons_succ]
         have y5 : Both (w4.drew.alloc (.cells #[.int .i64 cp, .int .i64 st, .slice Ar L.length nr, .int .i64 a, .int .i64 b, .int .i64 c] 40)) wr.heap.size w4.heap.size cp st L a b c := ⟨(HB4.out.2.1.drewN 1).alloc _, ⟨Ar, nr, Blk.new w4.drew _ _, (HR2.out.2.drewN 1).alloc _⟩⟩
         have x5 : Both (w4.drew.alloc (.cells #[.int .i64 cp, .int .i64 st, .slice Ar L.length nr, .int .i64 a, .int .i64 b, .int .i64 c] 40)) g h cp st L a b c := ⟨(HB4.out.1.q.drewN 1).alloc _, (HB4.out.1.r.drewN 1).alloc _⟩
         have B5 : Below w.heap.size w (w4.drew.alloc (.cells #[.int .i64 cp, .int .i64 st, .slice Ar L.length nr, .int .i64 a, .int .i64 b, .int .i64 c] 40)) := (below_drewN HB4.out.2.2 1).alloc (by have := HB4.out.2.2.size; simpa using this) _
         have H5 := Lib.hid (And.intro x5 (And.intro y5 B5))
         clear x5 y5 B5 hS
         go_wp2_with fail
         have hh2 : h ≠ w4.heap.size := by omega
         generalize w4.heap.size = h2 at *
         generalize wr.heap.size = g2 at *
         go_loopw [13] (fun iv wr => ∃ (m : Nat) (L1 : List ByteArray) (a1 b1 c1 : Int) (L2 : List ByteArray) (a2 b2 c2 : Int), m ≤ 60 ∧ iv = .int .i64 m ∧ Both wr g h cp st L1 a1 b1 c1 ∧ Both wr g2 h2 cp st L2 a2 b2 c2 ∧ QInv cp st L1 a1 b1 c1 (60 + m) ∧ QInv cp st L2 a2 b2 c2 (60 + m) ∧ Below w.heap.size w wr) (fun i _ => 60 - (intOf i).toNat)
         case atStart => exact ⟨0, L, a, b, c, L, a, b, c, by omega, rfl, H5.out.1, H5.out.2.1, by simpa using HI60.out, by simpa using HI60.out, H5.out.2.2⟩
         case round =>
           obtain ⟨m, L1, a1, b1, c1, L2, a2, b2, c2, hm, rfl, k1, k2, I1, I2, rb⟩ := hrel
           have HK := Lib.hid (And.intro k1 (And.intro k2 (And.intro I1 (And.intro I2 rb))))
           clear k1 k2 I1 I2 rb
           by_cases hgo : m < n' ∧ m < 60
           · obtain ⟨hlt, hlt2⟩ := hgo
             obtain ⟨bq, off, kd, s, rfl, hbl, c0, c1', hx, hsz⟩ := ks_at HC'.out hlt
             rw [← HK.out.2.2.2.2.cell (p := ⟨bq, off + m * 2, none⟩) hbl] at c0
             rw [← HK.out.2.2.2.2.cell (p := ⟨bq, off + m * 2 + 1, none⟩) hbl] at c1'
             by_cases hbig : 300 < s.size
             · have hbig' : (300 : Int) < s.size := by omega
               as_aux_lemma =>
               go_wp2_with fail
               go_roundw
               case rel => exact ⟨m + 1, L1, a1, b1, c1, L2, a2, b2, c2, by omega, by go_num, HK.out.1, HK.out.2.1, (by obtain ⟨i1, i2, i3, i4, i5, i6, i7, i8, i9⟩ := HK.out.2.2.1; exact ⟨i1, i2, i3, i4, i5, i6, i7, i8, by omega⟩), (by obtain ⟨i1, i2, i3, i4, i5, i6, i7, i8, i9⟩ := HK.out.2.2.2.1; exact ⟨i1, i2, i3, i4, i5, i6, i7, i8, by omega⟩), HK.out.2.2.2.2⟩
               case measure => simp [intOf]; omega
             · have hbig' : (s.size : Int) ≤ 300 := by omega
               rcases (by omega : (m : Int) % 2 = 0 ∨ (m : Int) % 2 = 1) with hp | hp
               · have HD := Lib.hid (do_any g h cp st L1 a1 b1 c1 (60 + m) kd s wr HK.out.1 HK.out.2.2.1 (by omega) (by omega))
                 as_aux_lemma =>
                 go_wp2_with fail
                 refine HD.out.mono ?_
                 rintro e w6 ⟨rfl, ⟨L', a', b', c', k3, I3⟩, o3⟩
                 have B3 : Below w.heap.size w w6 := bonly HK.out.2.2.2.2 o3 (by simp; omega)
                 have k4 := HK.out.2.1.other o3 HK.out.1 (Ne.symm hg2) (Ne.symm hh2)
                 have H3 := Lib.hid (And.intro k3 (And.intro I3 (And.intro B3 k4)))
                 clear k3 I3 B3 o3 k4
                 go_wp2_with fail
                 go_roundw
                 case rel => exact ⟨m + 1, L', a', b', c', L2, a2, b2, c2, by omega, by go_num, H3.out.1, H3.out.2.2.2, (by obtain ⟨i1, i2, i3, i4, i5, i6, i7, i8, i9⟩ := H3.out.2.1; exact ⟨i1, i2, i3, i4, i5, i6, i7, i8, by omega⟩), (by obtain ⟨i1, i2, i3, i4, i5, i6, i7, i8, i9⟩ := HK.out.2.2.2.1; exact ⟨i1, i2, i3, i4, i5, i6, i7, i8, by omega⟩), H3.out.2.2.1⟩
                 case measure => simp [intOf]; omega
               · have HD := Lib.hid (do_any g2 h2 cp st L2 a2 b2 c2 (60 + m) kd s wr HK.out.2.1 HK.out.2.2.2.1 (by omega) (by omega))
                 as_aux_lemma =>
                 go_wp2_with fail
                 refine HD.out.mono ?_
                 rintro e w6 ⟨rfl, ⟨L', a', b', c', k3, I3⟩, o3⟩
                 have B3 : Below w.heap.size w w6 := bonly HK.out.2.2.2.2 o3 (by simp; omega)
                 have k4 := HK.out.1.other o3 HK.out.2.1 hg2 hh2
                 have H3 := Lib.hid (And.intro k3 (And.intro I3 (And.intro B3 k4)))
                 clear k3 I3 B3 o3 k4
                 go_wp2_with fail
                 go_roundw
                 case rel => exact ⟨m + 1, L1, a1, b1, c1, L', a', b', c', by omega, by go_num, H3.out.2.2.2, H3.out.1, (by obtain ⟨i1, i2, i3, i4, i5, i6, i7, i8, i9⟩ := HK.out.2.2.1; exact ⟨i1, i2, i3, i4, i5, i6, i7, i8, by omega⟩), (by obtain ⟨i1, i2, i3, i4, i5, i6, i7, i8, i9⟩ := H3.out.2.1; exact ⟨i1, i2, i3, i4, i5, i6, i7, i8, by omega⟩), H3.out.2.2.1⟩
                 case measure => simp [intOf]; omega
           · have hl1 : L1.length ≤ 64 := by have := HK.out.2.2.1.len; omega
             have hl2 : L2.length ≤ 64 := by have := HK.out.2.2.2.1.len; omega
             have hend : ¬ m < n' ∨ (m < n' ∧ ¬ m < 60) := by omega
             obtain ⟨A1, n1, r1, r2⟩ := HK.out.1.r
             obtain ⟨A2, n2, s1', s2⟩ := HK.out.2.1.r
             have z1 := Blk.cell r1 2
             have z2 := Blk.cell s1' 2
             simp at z1 z2
             have HR1 := Lib.hid (And.intro r1 r2)
             have HR2' := Lib.hid (And.intro s1' s2)
             clear hgo r1 r2 s1' s2
             rcases hend with hend | ⟨hend, hend2⟩
             all_goals
               (as_aux_lemma =>
                go_wp2_with fail
                refine (take_nil _).mono ?_
                rintro e w6 ⟨rfl, rfl⟩
                go_wp2_with fail
                refine (first_nil _).mono ?_
                rintro e w6 ⟨rfl, rfl⟩
                go_wp2_with fail
                refine (counts_nil _).mono ?_
                rintro e w6 ⟨rfl, rfl⟩
                go_wp2_with fail
                try simp only [List.append]
                go_region_held3 (fun w' => w'.cell? ⟨h, 2, none⟩ = some (.slice A1 L1.length n1) ∧ w'.cell? ⟨h2, 2, none⟩ = some (.slice A2 L2.length n2))
                  (first
                    | go_keep
                    | (refine ⟨?_, ?_⟩ <;> with_reducible assumption))
                  ((first
                    | (go_at_call_of 12 (Value.pointer (some ⟨g, 0, none⟩))
                       refine (items_any g cp st L1 a1 b1 c1 _ (by exact HK.out.1.q) hl1).mono ?_
                       rintro e w6 ⟨A6, k6, rfl, hh6, b6'⟩
                       have b6 : Below wr.heap.size wr w6 := ⟨b6'.os, b6'.tape, b6'.output, b6'.size, b6'.block⟩
                       have q6 := HK.out.1.below b6
                       have p6 := HK.out.2.1.below b6
                       have hb6 := Blk.below HR1.out.1 b6 (Blk.lt HR1.out.1)
                       have hr6 := Held.below HR1.out.2 b6
                       have sb6 := Blk.below HR2'.out.1 b6 (Blk.lt HR2'.out.1)
                       have sr6 := Held.below HR2'.out.2 b6
                       have z61 := Blk.cell hb6 2
                       have z62 := Blk.cell sb6 2
                       simp at z61 z62
                       have H6 := Lib.hid (And.intro hh6 (And.intro hr6 (And.intro p6 (And.intro sb6 (And.intro sr6 (And.intro hb6 b6))))))
                       clear hh6 hr6 b6 b6' hb6 q6 p6 sb6 sr6)
                    | (go_at_call_of 11 (Value.slice A6 L1.length k6)
                       refine (texts_any A6 A1 k6 n1 L1 _ (by exact H6.out.1) (by exact H6.out.2.1) (by omega)).mono ?_
                       rintro e w7 ⟨rfl, q7, rfl⟩)
                    | (go_at_call_of 12 (Value.pointer (some ⟨g2, 0, none⟩))
                       refine (items_any g2 cp st L2 a2 b2 c2 _ (by exact H6.out.2.2.1.q) hl2).mono ?_
                       rintro e w8 ⟨A8, k8, rfl, hh8, b8'⟩
                       have b8 : Below w6.heap.size w6 w8 := ⟨b8'.os, b8'.tape, b8'.output, b8'.size, b8'.block⟩
                       have hb8 := Blk.below H6.out.2.2.2.2.2.1 b8 (Blk.lt H6.out.2.2.2.2.2.1)
                       have sb8 := Blk.below H6.out.2.2.2.1 b8 (Blk.lt H6.out.2.2.2.1)
                       have sr8 := Held.below H6.out.2.2.2.2.1 b8
                       have z81 := Blk.cell hb8 2
                       have z82 := Blk.cell sb8 2
                       simp at z81 z82
                       have H8 := Lib.hid (And.intro hh8 (And.intro sr8 (And.intro hb8 (And.intro sb8 b8))))
                       clear hh8 sr8 hb8 sb8 b8 b8')
                    | (go_at_call_of 11 (Value.slice A8 L2.length k8)
                       refine (texts_any A8 A2 k8 n2 L2 _ (by exact H8.out.1) (by exact H8.out.2.1) (by omega)).mono ?_
                       rintro e w9 ⟨rfl, q9, rfl⟩)
                    | (go_at_call 9
                       refine (put_nil _ _).mono ?_
                       rintro e w10 ⟨rfl, b10'⟩
                       have b10 : Below w8.heap.size w8 w10 := ⟨b10'.os, b10'.tape, b10'.output, b10'.size, b10'.block⟩
                       have hb10 := Blk.below H8.out.2.2.1 b10 (Blk.lt H8.out.2.2.1)
                       have sb10 := Blk.below H8.out.2.2.2.1 b10 (Blk.lt H8.out.2.2.2.1)
                       have z101 := Blk.cell hb10 2
                       have z102 := Blk.cell sb10 2
                       simp at z101 z102
                       have H10 := Lib.hid b10
                       clear b10 b10' hb10 sb10)
                    | (go_at_call 10
                       refine (len_nil _).mono ?_
                       rintro e w11 ⟨rfl, rfl⟩)
                    | (go_at_call 18
                       refine (clear_nil _).mono ?_
                       rintro e w11 ⟨rfl, rfl⟩)
                    | (go_at_call_of 12 (Value.pointer none)
                       refine (items_nil _).mono ?_
                       rintro e w11 ⟨rfl, rfl⟩)
                    | (go_at_call 15
                       refine (full_nil _).mono ?_
                       rintro e w11 ⟨rfl, q11, rfl⟩)
                    | (go_at_call 16
                       refine (copy_nil _).mono ?_
                       rintro e w11 ⟨rfl, rfl⟩)))
                go_wp2_with fail
                go_ret
                have BB := (((HK.out.2.2.2.2).trans (H6.out.2.2.2.2.2.2.mono HK.out.2.2.2.2.size)).trans (H8.out.2.2.2.2.mono (Nat.le_trans HK.out.2.2.2.2.size H6.out.2.2.2.2.2.2.size))).trans (H10.out.mono (Nat.le_trans (Nat.le_trans HK.out.2.2.2.2.size H6.out.2.2.2.2.2.2.size) H8.out.2.2.2.2.size))
                exact ⟨rfl, by first | exact below_drewN BB _ | exact BB⟩))

theorem own : ownKnob Try.prog.godebug = none := by kernel_rfl

set_option maxRecDepth 100000 in
theorem lifted (os : Os) (started : os.Started) (H : Type) (enc : TypeId × Value → H) :
    ReturnsInHanded {} Try.checked os 5 .any (Rows.queueApartSpec.pre6 enc Try.prog Try.f5 Rows.queueApartRow.domain false) (Rows.queueApartSpec.post enc Try.prog Try.f5 false true false false) := by
  refine returnsInHanded_of_change (C := Try.checked) own started (by kernel_rfl) Try.func5
    (ChangeSpec.witness6 (enc := enc) (C := Try.checked) false ⟨#[], #[.agg #[.int .u8 0, .int .u8 0, .slice none 0 0, .slice none 0 0]], []⟩ 8 (by kernel_rfl) (by kernel_rfl) (by kernel_rfl) (by kernel_rfl)) ?_
  intro W base args ds gs before hval0 hW hcnd _
  have hval : ∀ (j : Nat) t v, Try.f5.params[j]? = some t → args[j]? = some v → Value.okWide Try.prog W .any base t v := hval0
  have hW' := hW
  obtain ⟨p, q, hA0, hV, rfl, hfz, hnd⟩ := hW
  have hA : DataW.TrodAll enc Try.prog W 0 (fun _ => true) true Try.f5.params.toList args.toList ds p := hA0
  rw [Try.params5] at hA hval
  obtain ⟨v0, vs0, d0, ds0, p0, q0, hargs, rfl, rfl, h0, r0⟩ := trodAll_cons hA
  obtain ⟨rfl, rfl, rfl⟩ := trodAll_nil r0
  obtain rfl : args = #[v0] := by cases args; simp_all
  obtain ⟨rfl, rfl⟩ := trodVars_none hV
  have g0 := h0
  have k0 := four_of_open Try.underlying46 Try.underlying5 Try.underlying22 (by kernel_rfl) (by kernel_rfl) (by kernel_rfl) rfl rfl rfl rfl rfl rfl rfl rfl (by kernel_rfl) (ks_of Try.underlying30 Try.underlying3 Try.underlying9 (by kernel_rfl) (by kernel_rfl) rfl rfl rfl rfl) (hval 0 46 v0 rfl rfl) h0
  clear hA0 hval0
  have hlt : ∀ x ∈ (p0 ++ []), x.block < W.heap.size := fun x hx => hW'.lt x (by simpa using hx)
  refine (walk W v0 k0).mono fun e W' ⟨he, hb⟩ => ?_
  subst he
  refine ⟨_, rfl, post_of_below (pa := (p0 ++ [])) (pv := []) hW' (fun _ _ _ => (trodAll_cons_mk (shut_bool Try.underlying4 _) trodAll_mk0)) (fun sp hsp => ?_) (fun _ _ => rfl) (by simp) hb (ok_one (by kernel_rfl) rfl (okWide_bool_mk Try.underlying4 _))⟩
  exact trodAll_cons_mk (below_trod sp (by kernel_rfl) (by kernel_rfl) (of_decide_eq_true (by kernel_rfl)) g0 hb (fun x hx => hlt x (by simp [hx])) (fun x hx => hsp x (by simp [hx])))
    (trodAll_mk0)

theorem over : Rows.queueApartRow.holds Try.pinned (OpenSpec.ofChange Rows.queueApartSpec) :=
  OpenClaim.holds_of_wide 5 Try.f5 rfl rfl rfl rfl rfl rfl rfl ⟨rfl, rfl, rfl, rfl, rfl⟩ rfl rfl rfl rfl rfl (by kernel_rfl) Try.func5 (by kernel_rfl)
    (of_decide_eq_true (by kernel_rfl)) (by unfold Func.isWrapper; rw [if_neg (by decide +kernel)]; exact ⟨rfl, rfl⟩)
    (fun os started H enc _ => lifted os started H enc)

theorem proved : Rows.QueueApartSaid := over
#print axioms proved
end Go.Proofs.Ytlncapddimehiaa.QueueApart
