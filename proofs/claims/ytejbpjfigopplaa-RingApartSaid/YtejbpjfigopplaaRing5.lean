/- The walks of package ring: Read, First, awake, do. -/
import Derived.Test.YtejbpjfigopplaaRows
import Derived.WalkKit
import Derived.ProofKit
import Derived.Handy
import Derived.Test.YtejbpjfigopplaaMem
import Derived.Test.YtejbpjfigopplaaLift
import Derived.Test.YtejbpjfigopplaaApp
import Derived.Test.YtejbpjfigopplaaReads
import Derived.Test.YtejbpjfigopplaaOrd
import Derived.Test.YtejbpjfigopplaaRing
import Derived.Test.YtejbpjfigopplaaRing2
import Derived.Test.YtejbpjfigopplaaRing3
import Derived.Test.YtejbpjfigopplaaRing4
import Derived.Deep.QuietTactic
import Derived.BigQuiet
import Derived.Deep.RegionWith
import Derived.Deep.RegionHeld3
import Derived.Deep.AppendLies
import Derived.WalkLawsBesides
import Derived.WalkSmall
import Derived.Lib.BufferWrite
import Derived.Laws.BytesArg
namespace Go.Proofs.Ytejbpjfigopplaa
open Go.RowKit
set_option linter.unusedVariables false





def Readed (w : World) (g gb c kq : Nat) (s : List UInt8) (d : Nat) (e : Ending) (w' : World) : Prop :=
  e = .returned (.string ⟨(s.take d).toArray⟩) ∧ (∃ f', RingAt w' g gb c kq (s.drop d) f') ∧ Only [g] w w'
theorem size_mk (l : List UInt8) : ByteArray.size ⟨l.toArray⟩ = l.length := by simp [ByteArray.size]
theorem read_any (g gb c kq f : Nat) (s : List UInt8) (m : Int) (d : Nat) (w : World) (k : RingAt w g gb c kq s f) (hd : (d : Int) = max (min m s.length) 0) :
    Calls Try.prog 10 #[.pointer (some ⟨g, 0, none⟩), .int .i64 m] w (Readed w g gb c kq s d) := by
  have HP := Lib.hid (peek_any g gb c kq f s m d w k hd)
  have HK := Lib.hid k
  have hc := k.cap
  have hl := k.len
  have hdl : d ≤ s.length := by omega
  clear k hd
  go_enter Try.func10, Try.ntmps10
  go_wp2_with fail
  refine HP.out.mono ?_
  rintro e w1 ⟨rfl, b1⟩
  have HB1 := Lib.hid b1
  have hsz : (⟨(s.take d).toArray⟩ : ByteArray).size = d := by rw [size_mk, List.length_take]; omega
  have HD := Lib.hid (drop_any g gb c kq f s d d w1 (HK.out.below b1) (by omega))
  generalize hB : (⟨(s.take d).toArray⟩ : ByteArray) = B at *
  have HBE := Lib.hid hB
  clear b1 hB
  go_wp2_with fail
  refine HD.out.mono ?_
  rintro e w2 ⟨rfl, k2, o2⟩
  have HF := Lib.hid (And.intro k2 ((Only.of_below HB1.out).trans_ o2))
  clear k2 o2
  go_wp2_with fail
  go_ret
  exact ⟨by rw [HBE.out]; rfl, HF.out.1, HF.out.2⟩

theorem low_any (a b : Int) (w : World) : Calls Try.prog 19 #[.int .i64 a, .int .i64 b] w fun e w' => e = .returned (.int .i64 (min a b)) ∧ w = w' := by
  by_cases h : a < b
  · rw [Int.min_eq_left (by omega)]
    go_enter Try.func19, Try.ntmps19
    go_wp2_with fail
    go_ret
    exact ⟨rfl, rfl⟩
  · rw [Int.min_eq_right (by omega)]
    go_enter Try.func19, Try.ntmps19
    go_wp2_with fail
    go_ret
    exact ⟨rfl, rfl⟩
theorem ext0 (s : ByteArray) (d : Nat) : s.extract 0 d = ⟨(s.data.toList.take d).toArray⟩ := by
  have : (s.extract 0 d).data = (s.data.toList.take d).toArray := by
    rw [ByteArray.data_extract]
    apply Array.ext'
    simp
  cases h : s.extract 0 d with
  | mk x => rw [h] at this; simp only at this; rw [this]
theorem extd (s : ByteArray) (d : Nat) (h : d ≤ s.size) : (s.extract d s.size).data.toList = s.data.toList.drop d := by
  rw [ByteArray.data_extract, Array.toList_extract]
  simp only [List.extract_eq_take_drop]
  exact List.take_of_length_le (by rw [List.length_drop, ← Go.Lib.size_eq]; omega)
theorem first_any (s : ByteArray) (m : Int) (d : Nat) (w : World) (hs : s.size ≤ 65536) (hd : (d : Int) = max (min m s.size) 0) (h1 : -9223372036854775808 ≤ m) (h2 : m ≤ 9223372036854775807) :
    Calls Try.prog 18 #[.string s, .int .i64 m] w fun e w' => e = .returned (.string ⟨(s.data.toList.take d).toArray⟩) ∧ w = w' := by
  by_cases h : m < 0
  · obtain rfl : d = 0 := by omega
    clear hd
    go_enter Try.func18, Try.ntmps18
    go_wp2_with fail
    go_ret
    exact ⟨rfl, rfl⟩
  · by_cases h' : m < s.size
    · obtain rfl : m = d := by omega
      have hds : d ≤ s.size := by omega
      have h0 : (0 : Int) ≤ d := by omega
      rw [← ext0]
      clear hd h
      go_enter Try.func18, Try.ntmps18
      go_wp2_with fail
      go_ret
      exact ⟨rfl, rfl⟩
    · have e : d = s.size := by omega
      have e2 : (⟨(s.data.toList.take d).toArray⟩ : ByteArray) = s := by
        rw [e, List.take_of_length_le (by rw [← Go.Lib.size_eq]; omega)]
      rw [e2]
      clear hd e e2
      go_enter Try.func18, Try.ntmps18
      go_wp2_with fail
      go_ret
      exact ⟨rfl, rfl⟩

set_option maxHeartbeats 2000000 in
theorem awake_any (w : World) : Calls Try.prog 7 #[] w fun e w' => e = .returned (.bool true) ∧ Below w.heap.size w w' := by
  go_enter Try.func7, Try.ntmps7
  go_wp2_with fail
  refine (new_ok 4 w (by omega)).mono ?_
  rintro e w1 ⟨g, gb, rfl, hg, hgb, k1, b1⟩
  have HB1 := Lib.hid b1
  have HW := Lib.hid (write_any g gb 4 4 0 [] ⟨#[97, 98, 99, 100, 101, 102]⟩ 4 w1 k1 (by decide) (by decide))
  clear k1 b1
  go_wp2_with fail
  refine HW.out.mono ?_
  rintro e w2 ⟨rfl, ⟨f2, k2⟩, o2⟩
  have B2 := bonly HB1.out o2 (by simp; omega)
  have k2' : RingAt w2 g gb 4 4 [97, 98, 99, 100] f2 := k2
  have HR := Lib.hid (read_any g gb 4 4 f2 [97, 98, 99, 100] 2 2 w2 k2' (by decide))
  have HB2 := Lib.hid B2
  clear k2 k2' o2 B2
  go_wp2_with fail
  refine HR.out.mono ?_
  rintro e w3 ⟨rfl, ⟨f3, k3⟩, o3⟩
  have B3 := bonly HB2.out o3 (by simp; omega)
  have k3' : RingAt w3 g gb 4 4 [99, 100] f3 := k3
  have HW2 := Lib.hid (write_any g gb 4 4 f3 [99, 100] ⟨#[103, 104]⟩ 2 w3 k3' (by decide) (by decide))
  have HB3 := Lib.hid B3
  clear k3 k3' o3 B3
  go_wp2_with fail
  refine HW2.out.mono ?_
  rintro e w4 ⟨rfl, ⟨f4, k4⟩, o4⟩
  have B4 := bonly HB3.out o4 (by simp; omega)
  have k4' : RingAt w4 g gb 4 4 [99, 100, 103, 104] f4 := k4
  have HR2 := Lib.hid (read_any g gb 4 4 f4 [99, 100, 103, 104] 9 4 w4 k4' (by decide))
  have HB4 := Lib.hid B4
  clear k4 k4' o4 B4
  go_wp2_with fail
  refine HR2.out.mono ?_
  rintro e w5 ⟨rfl, ⟨f5, k5⟩, o5⟩
  have B5 := bonly HB4.out o5 (by simp; omega)
  have k5' : RingAt w5 g gb 4 4 [] f5 := k5
  have HL := Lib.hid (len_any g gb 4 4 f5 [] w5 k5')
  have HB5 := Lib.hid B5
  clear k5 k5' o5 B5
  go_wp2_with fail
  refine HL.out.mono ?_
  rintro e w6 ⟨rfl, rfl⟩
  go_wp2_with fail
  go_ret
  exact ⟨rfl, HB5.out⟩
end Go.Proofs.Ytejbpjfigopplaa
