/- Proved: RingApart answers true for every input, and leaves its arguments as they were; no condition. -/
import Derived.Test.YtejbpjfigopplaaRows
import Derived.Test.YtejbpjfigopplaaMem
import Derived.Test.YtejbpjfigopplaaLift
import Derived.Test.YtejbpjfigopplaaRingL
import Derived.Test.YtejbpjfigopplaaRing7
import Derived.Test.YtejbpjfigopplaaRing8
import Derived.WalkKit
import Derived.ProofKit
import Derived.OpenShut
import Derived.Handy
import Derived.Deep.QuietTactic
import Derived.BigQuiet
import Derived.Deep.RegionWith
import Derived.WalkLawsBesides
namespace Go.Proofs.Ytejbpjfigopplaa.RingApart
open Go.ChangeShapes Go.WideShapes Go.ChangeAt Go.RowKit Go.Deep
set_option linter.unusedVariables false


set_option maxRecDepth 100000 in
set_option maxHeartbeats 8000000 in
theorem core (w : World) (c : Nat) (hc2 : c ≤ 255) (hc0 : 0 < c) (A1 A2 : Option Addr) (n1 n2 q1 q2 : Nat) (C1 C2 : Nat → List Value)
    (hq1 : n1 ≤ q1 ∧ q1 ≤ 9223372036854775807) (hq2 : n2 ≤ q2 ∧ q2 ≤ 9223372036854775807)
    (hC1 : ∀ i, i < n1 → KNS (C1 i) ∧ (C1 i).length = 3 ∧ ∃ b off, A1 = some ⟨b, off, none⟩ ∧ b < w.heap.size ∧ ∀ (j : Nat) (u : Value), (C1 i)[j]? = some u → w.cell? ⟨b, off + i * 3 + j, none⟩ = some u)
    (hC2 : ∀ i, i < n2 → KNS (C2 i) ∧ (C2 i).length = 3 ∧ ∃ b off, A2 = some ⟨b, off, none⟩ ∧ b < w.heap.size ∧ ∀ (j : Nat) (u : Value), (C2 i)[j]? = some u → w.cell? ⟨b, off + i * 3 + j, none⟩ = some u) :
    Calls Try.prog 5 #[.int .u8 c, .slice A1 n1 q1, .slice A2 n2 q2] w fun e w' => e = .returned (.bool true) ∧ Below w.heap.size w w' := by
  have HC1 := Lib.hid hC1
  have HC2 := Lib.hid hC2
  obtain ⟨hq1a, hq1b⟩ := hq1
  obtain ⟨hq2a, hq2b⟩ := hq2
  have HN := Lib.hid (fun W => new_ok c W (by omega))
  clear hC1 hC2
  go_enter Try.func5, Try.ntmps5
  go_wp2_with fail
  refine (HN.out _).mono ?_
  rintro e w1 ⟨g, gb0, rfl, hg, hgb0, k1, bb1⟩
  obtain ⟨gb, hgb1⟩ : ∃ gb, gb = gb0 := ⟨_, rfl⟩
  obtain ⟨kq, hkz⟩ : ∃ kq, kq = c := ⟨_, rfl⟩
  have k1' : RingAt w1 g gb c kq [] 0 := by rw [hgb1, hkz]; exact k1
  have hne := k1'.ne
  rw [← hgb1] at hgb0
  clear hkz hgb1
  have H1 := Lib.hid (And.intro k1' bb1)
  clear k1 k1' bb1 HN
  go_wp2_with fail
  refine (awake_any _).mono ?_
  rintro e w2 ⟨rfl, bb2⟩
  have H2 := Lib.hid (And.intro (H1.out.1.below bb2) (H1.out.2.trans (bb2.mono H1.out.2.size)))
  clear bb2
  go_wp2_with fail
  go_loopw [10, 11] (fun sv iv wr => ∃ (m : Nat) (s : ByteArray) (f : Nat), m ≤ 30 ∧ iv = .int .i64 m ∧ sv = .string s ∧ RingAt wr g gb c kq s.data.toList f ∧ Below w.heap.size w wr) (fun _ i _ => 30 - (intOf i).toNat)
  case atStart => exact ⟨0, ByteArray.empty, 0, by omega, rfl, rfl, H2.out.1, H2.out.2⟩
  case round =>
    obtain ⟨m, s, f, hm, rfl, rfl, k, rb⟩ := hrel
    have HK := Lib.hid (And.intro k rb)
    clear k rb
    by_cases hgo : m < n1 ∧ m < 30
    · obtain ⟨hlt, hlt2⟩ := hgo
      obtain ⟨bq, off, kd, y, S, rfl, hbl, c0, c1, c2, hy, hS⟩ := kns_at HC1.out hlt
      rw [← HK.out.2.cell (p := ⟨bq, off + m * 3, none⟩) hbl] at c0
      rw [← HK.out.2.cell (p := ⟨bq, off + m * 3 + 1, none⟩) hbl] at c1
      rw [← HK.out.2.cell (p := ⟨bq, off + m * 3 + 2, none⟩) hbl] at c2
      have HD := Lib.hid (do_any g gb c kq f s S kd y wr HK.out.1 hy hS)
      go_wp2_with fail
      refine HD.out.mono ?_
      rintro e w3 ⟨s', f', rfl, k3, o3⟩
      have B3 : Below w.heap.size w w3 := bonly HK.out.2 o3 (by simp; omega)
      have H3 := Lib.hid (And.intro k3 B3)
      clear k3 B3 o3
      go_wp2_with fail
      go_roundw
      case rel => exact ⟨m + 1, s', f', by omega, by go_num, rfl, H3.out.1, H3.out.2⟩
      case measure => simp [intOf]; omega
    · have hend : ¬ m < n1 ∨ (m < n1 ∧ ¬ m < 30) := by omega
      clear hgo
      have HCP := Lib.hid (copy_any g gb c kq f _ wr HK.out.1 hc0)
      rcases hend with hend | ⟨hend, hend2⟩
      all_goals
        (go_wp2_with fail
         refine HCP.out.mono ?_
         rintro e w3 ⟨gx, gbx, kqx, rfl, hgx0, hgbx0, kx, b3⟩
         have hnex := kx.ne
         have hgk := HK.out.1.lt
         have hgbk := HK.out.1.ltb
         have hgx := kx.lt
         have hgbx := kx.ltb
         have HS := Lib.hid (And.intro (HK.out.1.below b3) (And.intro kx (HK.out.2.trans (b3.mono HK.out.2.size))))
         have hszr := HK.out.2.size
         clear kx b3
         go_wp2_with fail
         go_loopw [10, 13, 14] (fun sv tv iv wr => ∃ (m2 : Nat) (s2 t2 : ByteArray) (f2 f3 : Nat), m2 ≤ 30 ∧ iv = .int .i64 m2 ∧ sv = .string s2 ∧ tv = .string t2 ∧ RingAt wr g gb c kq s2.data.toList f2 ∧ RingAt wr gx gbx c kqx t2.data.toList f3 ∧ Below w.heap.size w wr) (fun _ _ i _ => 30 - (intOf i).toNat)
         case atStart => exact ⟨0, s, s, f, f, by omega, rfl, rfl, rfl, HS.out.1, HS.out.2.1, HS.out.2.2⟩
         case round =>
           obtain ⟨m2, s2, t2, f2, f3, hm2, rfl, rfl, rfl, k2, k2x, rb2⟩ := hrel
           have HK2 := Lib.hid (And.intro k2 (And.intro k2x rb2))
           have hsz : s2.size ≤ c := by have := k2.len; rw [← Go.Lib.size_eq] at this; exact this
           have hszx : t2.size ≤ c := by have := k2x.len; rw [← Go.Lib.size_eq] at this; exact this
           clear k2 k2x rb2
           by_cases hgo2 : m2 < n2 ∧ m2 < 30
           · obtain ⟨hlt, hlt2⟩ := hgo2
             obtain ⟨bq, off, kd, y, S, rfl, hbl, c0, c1, c2, hy, hS⟩ := kns_at HC2.out hlt
             rw [← HK2.out.2.2.cell (p := ⟨bq, off + m2 * 3, none⟩) hbl] at c0
             rw [← HK2.out.2.2.cell (p := ⟨bq, off + m2 * 3 + 1, none⟩) hbl] at c1
             rw [← HK2.out.2.2.cell (p := ⟨bq, off + m2 * 3 + 2, none⟩) hbl] at c2
             have hp0 : (0 : Int) ≤ m2 := by omega
             by_cases hp : m2 % 2 = 0
             · have hp2 : (((m2 : Int) % 2) == 0) = true := by simp; omega
               have HD := Lib.hid (do_any g gb c kq f2 s2 S kd y wr HK2.out.1 hy hS)
               clear hp
               go_wp2_with fail
               refine HD.out.mono ?_
               rintro e w4 ⟨s', f', rfl, k4, o4⟩
               have B4 : Below w.heap.size w w4 := bonly HK2.out.2.2 o4 (by simp; omega)
               have H4 := Lib.hid (And.intro k4 (And.intro (HK2.out.2.1.only o4 (by simp; omega) (by simp; omega)) B4))
               clear k4 B4 o4
               go_wp2_with fail
               go_roundw
               case rel => exact ⟨m2 + 1, s', t2, f', f3, by omega, by go_num, rfl, rfl, H4.out.1, H4.out.2.1, H4.out.2.2⟩
               case measure => simp [intOf]; omega
             · have hp2 : (((m2 : Int) % 2) == 0) = false := by simp; omega
               have HD := Lib.hid (do_any gx gbx c kqx f3 t2 S kd y wr HK2.out.2.1 hy hS)
               clear hp
               go_wp2_with fail
               refine HD.out.mono ?_
               rintro e w4 ⟨t', f', rfl, k4, o4⟩
               have B4 : Below w.heap.size w w4 := bonly HK2.out.2.2 o4 (by simp; omega)
               have H4 := Lib.hid (And.intro (HK2.out.1.only o4 (by simp; omega) (by simp; omega)) (And.intro k4 B4))
               clear k4 B4 o4
               go_wp2_with fail
               go_roundw
               case rel => exact ⟨m2 + 1, s2, t', f2, f', by omega, by go_num, rfl, rfl, H4.out.1, H4.out.2.1, H4.out.2.2⟩
               case measure => simp [intOf]; omega
           · have hend3 : ¬ m2 < n2 ∨ (m2 < n2 ∧ ¬ m2 < 30) := by omega
             clear hgo2
             have HP := Lib.hid (peek_any g gb c kq f2 s2.data.toList c s2.size wr HK2.out.1 (by rw [← Go.Lib.size_eq]; omega))
             have HPX := Lib.hid (fun (W : World) (bW : Below wr.heap.size wr W) => peek_any gx gbx c kqx f3 t2.data.toList c t2.size W (HK2.out.2.1.below bW) (by rw [← Go.Lib.size_eq]; omega))
             have hstr : (⟨(s2.data.toList.take s2.size).toArray⟩ : ByteArray) = s2 := by rw [List.take_of_length_le (by rw [← Go.Lib.size_eq]; omega)]
             have hstx : (⟨(t2.data.toList.take t2.size).toArray⟩ : ByteArray) = t2 := by rw [List.take_of_length_le (by rw [← Go.Lib.size_eq]; omega)]
             have HST := Lib.hid hstr
             have HSX := Lib.hid hstx
             clear hstr hstx
             rcases hend3 with hend3 | ⟨hend3, hend4⟩
             all_goals
               (go_wp2_with fail
                refine HP.out.mono ?_
                rintro e w5 ⟨rfl, b5⟩
                rw [HST.out]
                have HB5 := Lib.hid b5
                clear b5
                go_wp2_with fail
                refine (HPX.out _ HB5.out).mono ?_
                rintro e w6 ⟨rfl, b6⟩
                rw [HSX.out]
                have HB6 := Lib.hid ((HK2.out.2.2.trans (HB5.out.mono HK2.out.2.2.size)).trans (b6.mono (Nat.le_trans HK2.out.2.2.size HB5.out.size)))
                clear b6
                go_wp2_with fail
                refine (write_nil _ _).mono ?_
                rintro e w7 ⟨rfl, rfl⟩
                go_wp2_with fail
                refine (len_nil _).mono ?_
                rintro e w7 ⟨rfl, rfl⟩
                go_wp2_with fail
                refine (cap_nil _).mono ?_
                rintro e w7 ⟨rfl, rfl⟩
                go_wp2_with fail
                refine (room_nil _).mono ?_
                rintro e w7 ⟨rfl, rfl⟩
                go_wp2_with fail
                refine (clear_nil _).mono ?_
                rintro e w7 ⟨rfl, rfl⟩
                go_wp2_with fail
                refine (drop_nil _ _).mono ?_
                rintro e w7 ⟨rfl, rfl⟩
                go_wp2_with fail
                refine (read_nil _ _).mono ?_
                rintro e w7 ⟨rfl, b7⟩
                have HB7 := Lib.hid (HB6.out.trans (b7.mono HB6.out.size))
                clear b7
                go_wp2_with fail
                refine (peek_nil _ _).mono ?_
                rintro e w8 ⟨rfl, b8⟩
                have HB8 := Lib.hid (HB7.out.trans (b8.mono HB7.out.size))
                clear b8
                go_wp2_with fail
                refine (copy_nil _).mono ?_
                rintro e w9 ⟨rfl, rfl⟩
                go_wp2_with fail
                go_ret
                exact ⟨rfl, HB8.out⟩))

set_option maxRecDepth 100000 in
set_option maxHeartbeats 8000000 in
theorem coreZ (w : World)  (A1 A2 : Option Addr) (n1 n2 q1 q2 : Nat) (C1 C2 : Nat → List Value)
    (hq1 : n1 ≤ q1 ∧ q1 ≤ 9223372036854775807) (hq2 : n2 ≤ q2 ∧ q2 ≤ 9223372036854775807)
    (hC1 : ∀ i, i < n1 → KNS (C1 i) ∧ (C1 i).length = 3 ∧ ∃ b off, A1 = some ⟨b, off, none⟩ ∧ b < w.heap.size ∧ ∀ (j : Nat) (u : Value), (C1 i)[j]? = some u → w.cell? ⟨b, off + i * 3 + j, none⟩ = some u)
    (hC2 : ∀ i, i < n2 → KNS (C2 i) ∧ (C2 i).length = 3 ∧ ∃ b off, A2 = some ⟨b, off, none⟩ ∧ b < w.heap.size ∧ ∀ (j : Nat) (u : Value), (C2 i)[j]? = some u → w.cell? ⟨b, off + i * 3 + j, none⟩ = some u) :
    Calls Try.prog 5 #[.int .u8 0, .slice A1 n1 q1, .slice A2 n2 q2] w fun e w' => e = .returned (.bool true) ∧ Below w.heap.size w w' := by
  have HC1 := Lib.hid hC1
  have HC2 := Lib.hid hC2
  obtain ⟨hq1a, hq1b⟩ := hq1
  obtain ⟨hq2a, hq2b⟩ := hq2
  have HN := Lib.hid (fun W => new_ok 0 W (by omega))
  clear hC1 hC2
  go_enter Try.func5, Try.ntmps5
  go_wp2_with fail
  refine (HN.out _).mono ?_
  rintro e w1 ⟨g, gb0, rfl, hg, hgb0, k1, bb1⟩
  have k1' := Z.RingAt.of k1
  have H1 := Lib.hid (And.intro k1' bb1)
  clear k1 k1' bb1 HN
  go_wp2_with fail
  refine (awake_any _).mono ?_
  rintro e w2 ⟨rfl, bb2⟩
  have H2 := Lib.hid (And.intro (H1.out.1.below bb2) (H1.out.2.trans (bb2.mono H1.out.2.size)))
  clear bb2
  go_wp2_with fail
  go_loopw [10, 11] (fun sv iv wr => ∃ (m : Nat) (s : ByteArray) (f : Nat), m ≤ 30 ∧ iv = .int .i64 m ∧ sv = .string s ∧ Z.RingAt wr g g 0 0 s.data.toList f ∧ Below w.heap.size w wr) (fun _ i _ => 30 - (intOf i).toNat)
  case atStart => exact ⟨0, ByteArray.empty, 0, by omega, rfl, rfl, H2.out.1, H2.out.2⟩
  case round =>
    obtain ⟨m, s, f, hm, rfl, rfl, k, rb⟩ := hrel
    have HK := Lib.hid (And.intro k rb)
    clear k rb
    by_cases hgo : m < n1 ∧ m < 30
    · obtain ⟨hlt, hlt2⟩ := hgo
      obtain ⟨bq, off, kd, y, S, rfl, hbl, c0, c1, c2, hy, hS⟩ := kns_at HC1.out hlt
      rw [← HK.out.2.cell (p := ⟨bq, off + m * 3, none⟩) hbl] at c0
      rw [← HK.out.2.cell (p := ⟨bq, off + m * 3 + 1, none⟩) hbl] at c1
      rw [← HK.out.2.cell (p := ⟨bq, off + m * 3 + 2, none⟩) hbl] at c2
      have HD := Lib.hid (Z.do_any g g 0 0 f s S kd y wr HK.out.1 hy hS)
      go_wp2_with fail
      refine HD.out.mono ?_
      rintro e w3 ⟨s', f', rfl, k3, o3⟩
      have B3 : Below w.heap.size w w3 := bonly HK.out.2 o3 (by simp; omega)
      have H3 := Lib.hid (And.intro k3 B3)
      clear k3 B3 o3
      go_wp2_with fail
      go_roundw
      case rel => exact ⟨m + 1, s', f', by omega, by go_num, rfl, H3.out.1, H3.out.2⟩
      case measure => simp [intOf]; omega
    · have hend : ¬ m < n1 ∨ (m < n1 ∧ ¬ m < 30) := by omega
      clear hgo
      have HCP := Lib.hid (Z.copy_any g g 0 0 f _ wr HK.out.1)
      rcases hend with hend | ⟨hend, hend2⟩
      all_goals
        (go_wp2_with fail
         refine HCP.out.mono ?_
         rintro e w3 ⟨gx, rfl, hgx0, kx0, b3⟩
         have kx : Z.RingAt w3 gx gx 0 0 s.data.toList 0 := by rw [HK.out.1.none_]; exact kx0
         clear kx0
         have hgk := HK.out.1.lt
         have hgbk := HK.out.1.ltb
         have hgx := kx.lt
         have hgbx := kx.ltb
         have HS := Lib.hid (And.intro (HK.out.1.below b3) (And.intro kx (HK.out.2.trans (b3.mono HK.out.2.size))))
         have hszr := HK.out.2.size
         clear kx b3
         go_wp2_with fail
         go_loopw [10, 13, 14] (fun sv tv iv wr => ∃ (m2 : Nat) (s2 t2 : ByteArray) (f2 f3 : Nat), m2 ≤ 30 ∧ iv = .int .i64 m2 ∧ sv = .string s2 ∧ tv = .string t2 ∧ Z.RingAt wr g g 0 0 s2.data.toList f2 ∧ Z.RingAt wr gx gx 0 0 t2.data.toList f3 ∧ Below w.heap.size w wr) (fun _ _ i _ => 30 - (intOf i).toNat)
         case atStart => exact ⟨0, s, s, f, 0, by omega, rfl, rfl, rfl, HS.out.1, HS.out.2.1, HS.out.2.2⟩
         case round =>
           obtain ⟨m2, s2, t2, f2, f3, hm2, rfl, rfl, rfl, k2, k2x, rb2⟩ := hrel
           have HK2 := Lib.hid (And.intro k2 (And.intro k2x rb2))
           have hsz : s2.size ≤ 0 := by have := k2.len; rw [← Go.Lib.size_eq] at this; exact this
           have hszx : t2.size ≤ 0 := by have := k2x.len; rw [← Go.Lib.size_eq] at this; exact this
           clear k2 k2x rb2
           by_cases hgo2 : m2 < n2 ∧ m2 < 30
           · obtain ⟨hlt, hlt2⟩ := hgo2
             obtain ⟨bq, off, kd, y, S, rfl, hbl, c0, c1, c2, hy, hS⟩ := kns_at HC2.out hlt
             rw [← HK2.out.2.2.cell (p := ⟨bq, off + m2 * 3, none⟩) hbl] at c0
             rw [← HK2.out.2.2.cell (p := ⟨bq, off + m2 * 3 + 1, none⟩) hbl] at c1
             rw [← HK2.out.2.2.cell (p := ⟨bq, off + m2 * 3 + 2, none⟩) hbl] at c2
             have hp0 : (0 : Int) ≤ m2 := by omega
             by_cases hp : m2 % 2 = 0
             · have hp2 : (((m2 : Int) % 2) == 0) = true := by simp; omega
               have HD := Lib.hid (Z.do_any g g 0 0 f2 s2 S kd y wr HK2.out.1 hy hS)
               clear hp
               go_wp2_with fail
               refine HD.out.mono ?_
               rintro e w4 ⟨s', f', rfl, k4, o4⟩
               have B4 : Below w.heap.size w w4 := bonly HK2.out.2.2 o4 (by simp; omega)
               have H4 := Lib.hid (And.intro k4 (And.intro (HK2.out.2.1.only o4 (by simp; omega) (by simp; omega)) B4))
               clear k4 B4 o4
               go_wp2_with fail
               go_roundw
               case rel => exact ⟨m2 + 1, s', t2, f', f3, by omega, by go_num, rfl, rfl, H4.out.1, H4.out.2.1, H4.out.2.2⟩
               case measure => simp [intOf]; omega
             · have hp2 : (((m2 : Int) % 2) == 0) = false := by simp; omega
               have HD := Lib.hid (Z.do_any gx gx 0 0 f3 t2 S kd y wr HK2.out.2.1 hy hS)
               clear hp
               go_wp2_with fail
               refine HD.out.mono ?_
               rintro e w4 ⟨t', f', rfl, k4, o4⟩
               have B4 : Below w.heap.size w w4 := bonly HK2.out.2.2 o4 (by simp; omega)
               have H4 := Lib.hid (And.intro (HK2.out.1.only o4 (by simp; omega) (by simp; omega)) (And.intro k4 B4))
               clear k4 B4 o4
               go_wp2_with fail
               go_roundw
               case rel => exact ⟨m2 + 1, s2, t', f2, f', by omega, by go_num, rfl, rfl, H4.out.1, H4.out.2.1, H4.out.2.2⟩
               case measure => simp [intOf]; omega
           · have hend3 : ¬ m2 < n2 ∨ (m2 < n2 ∧ ¬ m2 < 30) := by omega
             clear hgo2
             have HP := Lib.hid (Z.peek_any g g 0 0 f2 s2.data.toList 0 s2.size wr HK2.out.1 (by rw [← Go.Lib.size_eq]; omega))
             have HPX := Lib.hid (fun (W : World) (bW : Below wr.heap.size wr W) => Z.peek_any gx gx 0 0 f3 t2.data.toList 0 t2.size W (HK2.out.2.1.below bW) (by rw [← Go.Lib.size_eq]; omega))
             have hstr : (⟨(s2.data.toList.take s2.size).toArray⟩ : ByteArray) = s2 := by rw [List.take_of_length_le (by rw [← Go.Lib.size_eq]; omega)]
             have hstx : (⟨(t2.data.toList.take t2.size).toArray⟩ : ByteArray) = t2 := by rw [List.take_of_length_le (by rw [← Go.Lib.size_eq]; omega)]
             have HST := Lib.hid hstr
             have HSX := Lib.hid hstx
             clear hstr hstx
             rcases hend3 with hend3 | ⟨hend3, hend4⟩
             all_goals
               (go_wp2_with fail
                refine HP.out.mono ?_
                rintro e w5 ⟨rfl, b5⟩
                rw [HST.out]
                have HB5 := Lib.hid b5
                clear b5
                go_wp2_with fail
                refine (HPX.out _ HB5.out).mono ?_
                rintro e w6 ⟨rfl, b6⟩
                rw [HSX.out]
                have HB6 := Lib.hid ((HK2.out.2.2.trans (HB5.out.mono HK2.out.2.2.size)).trans (b6.mono (Nat.le_trans HK2.out.2.2.size HB5.out.size)))
                clear b6
                go_wp2_with fail
                refine (write_nil _ _).mono ?_
                rintro e w7 ⟨rfl, rfl⟩
                go_wp2_with fail
                refine (len_nil _).mono ?_
                rintro e w7 ⟨rfl, rfl⟩
                go_wp2_with fail
                refine (cap_nil _).mono ?_
                rintro e w7 ⟨rfl, rfl⟩
                go_wp2_with fail
                refine (room_nil _).mono ?_
                rintro e w7 ⟨rfl, rfl⟩
                go_wp2_with fail
                refine (clear_nil _).mono ?_
                rintro e w7 ⟨rfl, rfl⟩
                go_wp2_with fail
                refine (drop_nil _ _).mono ?_
                rintro e w7 ⟨rfl, rfl⟩
                go_wp2_with fail
                refine (read_nil _ _).mono ?_
                rintro e w7 ⟨rfl, b7⟩
                have HB7 := Lib.hid (HB6.out.trans (b7.mono HB6.out.size))
                clear b7
                go_wp2_with fail
                refine (peek_nil _ _).mono ?_
                rintro e w8 ⟨rfl, b8⟩
                have HB8 := Lib.hid (HB7.out.trans (b8.mono HB7.out.size))
                clear b8
                go_wp2_with fail
                refine (copy_nil _).mono ?_
                rintro e w9 ⟨rfl, rfl⟩
                go_wp2_with fail
                go_ret
                exact ⟨rfl, HB8.out⟩))

theorem walk (w : World) (a0 : Int) (w0 : (Lit.int .u8 a0).wf = true) (v1 : Value) (n1 : Nat) (C1 : Nat → List Value) (h1 : RowsAt w v1 n1 3 KNS C1) (v2 : Value) (n2 : Nat) (C2 : Nat → List Value) (h2 : RowsAt w v2 n2 3 KNS C2) :
    Calls Try.prog 5 #[.int .u8 a0, v1, v2] w fun e w' => e = .returned (.bool true) ∧ Below w.heap.size w w' := by
  obtain ⟨A1, q1, rfl, hq1, hq1b, hC1⟩ := h1
  obtain ⟨A2, q2, rfl, hq2, hq2b, hC2⟩ := h2
  obtain ⟨b1, b2⟩ := bounds_u8 w0
  obtain ⟨c, rfl⟩ : ∃ c : Nat, a0 = (c : Int) := ⟨a0.toNat, by omega⟩
  rcases Nat.eq_zero_or_pos c with h0 | h0
  · subst h0
    exact coreZ w A1 A2 n1 n2 q1 q2 C1 C2 ⟨hq1, hq1b⟩ ⟨hq2, hq2b⟩ hC1 hC2
  · exact core w c (by omega) h0 A1 A2 n1 n2 q1 q2 C1 C2 ⟨hq1, hq1b⟩ ⟨hq2, hq2b⟩ hC1 hC2

theorem own : ownKnob Try.prog.godebug = none := by kernel_rfl

set_option maxRecDepth 100000 in
theorem lifted (os : Os) (started : os.Started) (H : Type) (enc : TypeId × Value → H) :
    ReturnsInHanded {} Try.checked os 5 .any (Rows.ringApartSpec.pre6 enc Try.prog Try.f5 Rows.ringApartRow.domain false) (Rows.ringApartSpec.post enc Try.prog Try.f5 false true false false) := by
  refine returnsInHanded_of_change (C := Try.checked) own started (by kernel_rfl) Try.func5
    (ChangeSpec.witness6 (enc := enc) (C := Try.checked) false ⟨#[], #[.int .u8 0, .slice none 0 0, .slice none 0 0], []⟩ 8 (by kernel_rfl) (by kernel_rfl) (by kernel_rfl) (by kernel_rfl)) ?_
  intro W base args ds gs before hval0 hW hcnd _
  have hval : ∀ (j : Nat) t v, Try.f5.params[j]? = some t → args[j]? = some v → Value.okWide Try.prog W .any base t v := hval0
  have hW' := hW
  obtain ⟨p, q, hA0, hV, rfl, hfz, hnd⟩ := hW
  have hA : DataW.TrodAll enc Try.prog W 0 (fun _ => true) true Try.f5.params.toList args.toList ds p := hA0
  rw [Try.params5] at hA hval
  obtain ⟨v0, vs0, d0, ds0, p0, q0, hargs, rfl, rfl, h0, r0⟩ := trodAll_cons hA
  obtain ⟨v1, vs1, d1, ds1, p1, q1, rfl, rfl, rfl, h1, r1⟩ := trodAll_cons r0
  obtain ⟨v2, vs2, d2, ds2, p2, q2, rfl, rfl, rfl, h2, r2⟩ := trodAll_cons r1
  obtain ⟨rfl, rfl, rfl⟩ := trodAll_nil r2
  obtain rfl : args = #[v0, v1, v2] := by cases args; simp_all
  obtain ⟨rfl, rfl⟩ := trodVars_none hV
  have g0 := h0
  have g1 := h1
  have g2 := h2
  obtain ⟨a0, rfl, _, _, w0⟩ := open_int Try.underlying5 (hval 0 5 v0 rfl rfl) h0
  obtain ⟨n1, C1, k1⟩ := open_rows Try.underlying32 (by kernel_rfl) (by decide) (kns_of Try.underlying36 Try.underlying3 Try.underlying9 (by kernel_rfl) (by kernel_rfl) rfl rfl rfl rfl rfl rfl) (hval 1 32 v1 rfl rfl) h1
  obtain ⟨n2, C2, k2⟩ := open_rows Try.underlying32 (by kernel_rfl) (by decide) (kns_of Try.underlying36 Try.underlying3 Try.underlying9 (by kernel_rfl) (by kernel_rfl) rfl rfl rfl rfl rfl rfl) (hval 2 32 v2 rfl rfl) h2
  clear hA0 hval0
  have hlt : ∀ x ∈ (p0 ++ (p1 ++ (p2 ++ []))), x.block < W.heap.size := fun x hx => hW'.lt x (by simpa using hx)
  refine (walk W a0 w0 v1 n1 C1 k1 v2 n2 C2 k2).mono fun e W' ⟨he, hb⟩ => ?_
  subst he
  refine ⟨_, rfl, post_of_below (pa := (p0 ++ (p1 ++ (p2 ++ [])))) (pv := []) hW' (fun _ _ _ => (trodAll_cons_mk (shut_bool Try.underlying4 _) trodAll_mk0)) (fun sp hsp => ?_) (fun _ _ => rfl) (by simp) hb (ok_one (by kernel_rfl) rfl (okWide_bool_mk Try.underlying4 _))⟩
  exact trodAll_cons_mk (below_trod sp (by kernel_rfl) (by kernel_rfl) (of_decide_eq_true (by kernel_rfl)) g0 hb (fun x hx => hlt x (by simp [hx])) (fun x hx => hsp x (by simp [hx])))
    (trodAll_cons_mk (below_trod sp (by kernel_rfl) (by kernel_rfl) (of_decide_eq_true (by kernel_rfl)) g1 hb (fun x hx => hlt x (by simp [hx])) (fun x hx => hsp x (by simp [hx])))
    (trodAll_cons_mk (below_trod sp (by kernel_rfl) (by kernel_rfl) (of_decide_eq_true (by kernel_rfl)) g2 hb (fun x hx => hlt x (by simp [hx])) (fun x hx => hsp x (by simp [hx])))
    (trodAll_mk0)))

theorem over : Rows.ringApartRow.holds Try.pinned (OpenSpec.ofChange Rows.ringApartSpec) :=
  OpenClaim.holds_of_wide 5 Try.f5 rfl rfl rfl rfl rfl rfl rfl ⟨rfl, rfl, rfl, rfl, rfl⟩ rfl rfl rfl rfl rfl (by kernel_rfl) Try.func5 (by kernel_rfl)
    (of_decide_eq_true (by kernel_rfl)) (by unfold Func.isWrapper; rw [if_neg (by decide +kernel)]; exact ⟨rfl, rfl⟩)
    (fun os started H enc _ => lifted os started H enc)

theorem proved : Rows.RingApartSaid := over
#print axioms proved
end Go.Proofs.Ytejbpjfigopplaa.RingApart
