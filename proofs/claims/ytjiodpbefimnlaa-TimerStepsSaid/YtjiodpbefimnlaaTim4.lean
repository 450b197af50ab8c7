/- The walks of package timer: all but due. -/
import Derived.Test.YtjiodpbefimnlaaRows
import Derived.WalkKit
import Derived.ProofKit
import Derived.Handy
import Derived.Test.YtjiodpbefimnlaaTim3
import Derived.Test.YtjiodpbefimnlaaSeq
import Derived.Deep.QuietTactic
import Derived.BigQuiet
import Derived.Deep.RegionWith
import Derived.Deep.RegionHeld3
import Derived.Deep.AppendLies
import Derived.WalkLawsBesides
import Derived.WalkSmall
namespace Go.Proofs.Ytjiodpbefimnlaa
open Go.RowKit
set_option linter.unusedVariables false
def Newed (w : World) (e : Ending) (w' : World) : Prop := ∃ g b, e = .returned (.pointer (some ⟨g, 0, none⟩)) ∧ w.heap.size ≤ g ∧ w.heap.size ≤ b ∧ Whl w' g b [] 0 ∧ Below w.heap.size w w'
theorem new_any (w : World) : Calls Try.prog 7 #[] w (Newed w) := by
  have hmm := @run_makeMap Try.prog
  have hm := MapI.made w
  have hm2 : MapI ((w.alloc (.map #[] 0)).alloc (.cells #[.map (some w.heap.size), .int .i64 0] 54)) w.heap.size (fun _ => none) 0 := MapV.alloc hm _
  have hb := Blk.new (w.alloc (.map #[] 0)) 54 #[.map (some w.heap.size), .int .i64 0]
  rw [World.size_alloc] at hb
  have H := Lib.hid (And.intro hm2 hb)
  clear hm hm2 hb
  go_enter Try.func7, Try.ntmps7
  go_wp2_with fail
  go_ret
  exact ⟨w.heap.size + 1, w.heap.size, rfl, Nat.le_succ _, Nat.le_refl _, ⟨H.out.2, H.out.1.ext (fun x => (getT_nil x).symm), Sd.nil, Nat.zero_le _, by omega, fun p hp => (by cases hp), fun p hp => (by cases hp)⟩, ((Below.refl _ _).alloc (Nat.le_refl _) _).alloc (by simp) _⟩
section
variable (g b : Nat) (l : List (Int × Int)) (T0 : Int) (w : World) (k : Whl w g b l T0)
include k
theorem at_any (x : Int) (hx : (Lit.int .i64 x).wf = true) : Calls Try.prog 22 #[.pointer (some ⟨g, 0, none⟩), .int .i64 x] w fun e w' => e = .returned (.tuple #[.int .i64 ((getT l x).getD 0), .bool (getT l x).isSome]) ∧ w = w' := by
  have hl := k.map.lookOk hx
  have c0 := Blk.cell k.blk 0
  simp at c0
  clear hx k
  generalize (getT l x).getD 0 = a at *
  generalize (getT l x).isSome = s at *
  go_enter Try.func22, Try.ntmps22
  go_wp2_with fail
  go_ret2
  exact ⟨rfl, rfl⟩
theorem now_any : Calls Try.prog 20 #[.pointer (some ⟨g, 0, none⟩)] w fun e w' => e = .returned (.int .i64 T0) ∧ w = w' := by
  have c1 := Blk.cell k.blk 1
  simp at c1
  clear k
  go_enter Try.func20, Try.ntmps20
  go_wp2_with fail
  go_ret
  exact ⟨rfl, rfl⟩
theorem len_any : Calls Try.prog 21 #[.pointer (some ⟨g, 0, none⟩)] w fun e w' => e = .returned (.int .i64 l.length) ∧ w = w' := by
  have hl := MapV.len Try.underlying52 k.map 3
  have c0 := Blk.cell k.blk 0
  simp at c0
  clear k
  go_enter Try.func21, Try.ntmps21
  go_wp2_with fail
  go_ret
  exact ⟨rfl, rfl⟩
end
theorem at_nil (x : Int) (w : World) : Calls Try.prog 22 #[.pointer none, .int .i64 x] w fun e w' => e = .returned (.tuple #[.int .i64 0, .bool false]) ∧ w = w' := by
  go_enter Try.func22, Try.ntmps22
  go_wp2_with fail
  go_ret2
  exact ⟨rfl, rfl⟩
theorem now_nil (w : World) : Calls Try.prog 20 #[.pointer none] w fun e w' => e = .returned (.int .i64 0) ∧ w = w' := by
  go_enter Try.func20, Try.ntmps20
  go_wp2_with fail
  go_ret
  exact ⟨rfl, rfl⟩
theorem len_nil (w : World) : Calls Try.prog 21 #[.pointer none] w fun e w' => e = .returned (.int .i64 0) ∧ w = w' := by
  go_enter Try.func21, Try.ntmps21
  go_wp2_with fail
  go_ret
  exact ⟨rfl, rfl⟩
theorem set_nil (x a : Int) (w : World) : Calls Try.prog 17 #[.pointer none, .int .i64 x, .int .i64 a] w fun e w' => e = .returned (.int .i64 1) ∧ w = w' := by
  go_enter Try.func17, Try.ntmps17
  go_wp2_with fail
  refine (at_nil _ _).mono ?_
  rintro e w1 ⟨rfl, rfl⟩
  go_wp2_with fail
  go_ret
  exact ⟨rfl, rfl⟩
theorem stop_nil (x : Int) (w : World) : Calls Try.prog 10 #[.pointer none, .int .i64 x] w fun e w' => e = .returned (.bool false) ∧ w = w' := by
  go_enter Try.func10, Try.ntmps10
  go_wp2_with fail
  refine (at_nil _ _).mono ?_
  rintro e w1 ⟨rfl, rfl⟩
  go_wp2_with fail
  go_ret
  exact ⟨rfl, rfl⟩
section
variable (g b : Nat) (l : List (Int × Int)) (T0 : Int) (w : World) (k : Whl w g b l T0)
include k
theorem set_range (x a : Int) (hx : (Lit.int .i64 x).wf = true) (hr : a < T0 ∨ 1099511627776 < a) : Calls Try.prog 17 #[.pointer (some ⟨g, 0, none⟩), .int .i64 x, .int .i64 a] w fun e w' => e = .returned (.int .i64 3) ∧ w = w' := by
  have HA := Lib.hid (at_any g b l T0 w k x hx)
  have c1 := Blk.cell k.blk 1
  simp at c1
  clear k hx
  rcases Int.lt_or_le a T0 with h1 | h1
  · clear hr
    go_enter Try.func17, Try.ntmps17
    go_wp2_with fail
    refine HA.out.mono ?_
    rintro e w1 ⟨rfl, rfl⟩
    go_wp2_with fail
    go_ret
    exact ⟨rfl, rfl⟩
  · have h2 : 1099511627776 < a := by omega
    clear hr
    go_enter Try.func17, Try.ntmps17
    go_wp2_with fail
    refine HA.out.mono ?_
    rintro e w1 ⟨rfl, rfl⟩
    go_wp2_with fail
    go_ret
    exact ⟨rfl, rfl⟩
theorem set_limit (x a : Int) (hx : (Lit.int .i64 x).wf = true) (h1 : T0 ≤ a) (h2 : a ≤ 1099511627776) (hn : getT l x = none) (hL : 1024 ≤ l.length) : Calls Try.prog 17 #[.pointer (some ⟨g, 0, none⟩), .int .i64 x, .int .i64 a] w fun e w' => e = .returned (.int .i64 16) ∧ w = w' := by
  have ha := at_any g b l T0 w k x hx
  rw [hn] at ha
  have HA := Lib.hid ha
  have hl := MapV.len Try.underlying52 k.map 3
  have c0 := Blk.cell k.blk 0
  have c1 := Blk.cell k.blk 1
  simp at c0 c1
  have hL2 : (1024 : Int) ≤ (l.length : Int) := by omega
  clear k hx ha hn hL
  go_enter Try.func17, Try.ntmps17
  go_wp2_with fail
  refine HA.out.mono ?_
  rintro e w1 ⟨rfl, rfl⟩
  go_wp2_with fail
  go_ret
  exact ⟨rfl, rfl⟩
def SetIs (w : World) (g b : Nat) (l : List (Int × Int)) (T0 x a : Int) (e : Ending) (w' : World) : Prop :=
  e = .returned (.int .i64 0) ∧ (∀ l', IsSet l x a l' → Whl w' g b l' T0) ∧ w.grownBy w' (some b)
set_option maxRecDepth 10000 in
theorem set_ok (x a : Int) (hx : (Lit.int .i64 x).wf = true) (h1 : T0 ≤ a) (h2 : a ≤ 1099511627776) (hL : getT l x = none → l.length < 1024) : Calls Try.prog 17 #[.pointer (some ⟨g, 0, none⟩), .int .i64 x, .int .i64 a] w (SetIs w g b l T0 x a) := by
  have HA := Lib.hid (at_any g b l T0 w k x hx)
  have hl := MapV.len Try.underlying52 k.map 3
  have c0 := Blk.cell k.blk 0
  have c1 := Blk.cell k.blk 1
  have hf := k.few
  simp at c0 c1
  obtain ⟨w2, hr2, hm2, hg2⟩ := MapI.write (v := a) k.map (by simp only [maxLen]; omega) hx
  have H2 : Hid ((∀ l', IsSet l x a l' → Whl w2 g b l' T0) ∧ w.grownBy w2 (some b)) := by
    refine ⟨fun l' hs => ?_, hg2⟩
    obtain ⟨s1, s2, s3⟩ := k.sd.set hs
    have hm : ∀ p ∈ l', p = (x, a) ∨ p ∈ l := by
      obtain ⟨j, _, rfl⟩ := hs
      intro p hp
      rcases insT_mem.1 hp with h | h
      · exact .inl h
      · exact .inr (List.mem_filter.1 h).1
    refine ⟨k.blk.grown hg2 (fun e => k.ne (by injection e)), ?_, s1, ?_, k.clock, fun p hp => ?_, fun p hp => ?_⟩
    · rw [s3]
      exact MapI.ext hm2 (fun y => (s2 y).symm)
    · rw [s3]
      split
      · exact hf
      · next h =>
        have := hL (by cases hq : getT l x with | none => rfl | some _ => simp [hq] at h)
        omega
    · rcases hm p hp with rfl | h
      · exact hx
      · exact k.key p h
    · rcases hm p hp with rfl | h
      · exact h2
      · exact k.top p h
  clear hm2 hg2
  have HR := Lib.hid hr2
  by_cases hn : getT l x = none
  · have hlt : (l.length : Int) < 1024 := by have := hL hn; omega
    have hs : (getT l x).isSome = false := by rw [hn]; rfl
    rw [hs] at HA
    clear k hx hL hn hs hf hr2
    go_enter Try.func17, Try.ntmps17
    go_wp2_with fail
    refine HA.out.mono ?_
    rintro e w1 ⟨rfl, rfl⟩
    have hr2 := HR.out
    go_wp2_with fail
    go_ret
    exact ⟨rfl, H2.out⟩
  · have hs : (getT l x).isSome = true := by cases hq : getT l x with | none => exact absurd hq hn | some _ => rfl
    rw [hs] at HA
    clear k hx hL hn hs hf hr2
    go_enter Try.func17, Try.ntmps17
    go_wp2_with fail
    refine HA.out.mono ?_
    rintro e w1 ⟨rfl, rfl⟩
    have hr2 := HR.out
    go_wp2_with fail
    go_ret
    exact ⟨rfl, H2.out⟩
def StopIs (w : World) (g b : Nat) (l : List (Int × Int)) (T0 x : Int) (e : Ending) (w' : World) : Prop :=
  e = .returned (.bool (getT l x).isSome) ∧ Whl w' g b (stopT l x) T0 ∧ w.grownBy w' (some b)
theorem stop_any (x : Int) (hx : (Lit.int .i64 x).wf = true) : Calls Try.prog 10 #[.pointer (some ⟨g, 0, none⟩), .int .i64 x] w (StopIs w g b l T0 x) := by
  have HA := Lib.hid (at_any g b l T0 w k x hx)
  have c0 := Blk.cell k.blk 0
  simp at c0
  unfold StopIs
  by_cases hn : getT l x = none
  · have hs : (getT l x).isSome = false := by rw [hn]; rfl
    rw [hs] at HA ⊢
    have HK : Hid (Whl w g b (stopT l x) T0) := by rw [stop_none hn]; exact k
    clear k hx hn hs
    go_enter Try.func10, Try.ntmps10
    go_wp2_with fail
    refine HA.out.mono ?_
    rintro e w1 ⟨rfl, rfl⟩
    go_wp2_with fail
    go_ret
    exact ⟨rfl, HK.out, ⟨rfl, rfl, rfl, Nat.le_refl _, fun _ _ _ => rfl⟩⟩
  · have hs : (getT l x).isSome = true := by cases hq : getT l x with | none => exact absurd hq hn | some _ => rfl
    obtain ⟨w2, hr2, hm2, hg2⟩ := MapI.strike k.map hx 0
    rw [hs] at HA ⊢
    rw [hs] at hm2
    have H2 : Hid (Whl w2 g b (stopT l x) T0 ∧ w.grownBy w2 (some b)) := by
      refine ⟨⟨k.blk.grown hg2 (fun e => k.ne (by injection e)), ?_, k.sd.stop x, Nat.le_trans (List.length_filter_le _ _) k.few, k.clock, fun p hp => k.key p (List.mem_filter.1 hp).1, fun p hp => k.top p (List.mem_filter.1 hp).1⟩, hg2⟩
      have e := length_stop k.sd.2 x
      rw [hs] at e
      rw [e]
      exact MapI.ext hm2 (fun y => (getT_stop l x y).symm)
    have HR := Lib.hid hr2
    clear k hx hn hs hm2 hg2 hr2
    go_enter Try.func10, Try.ntmps10
    go_wp2_with fail
    refine HA.out.mono ?_
    rintro e w1 ⟨rfl, rfl⟩
    have hr2 := HR.out
    go_wp2_with fail
    go_ret
    exact ⟨rfl, H2.out⟩
end
end Go.Proofs.Ytjiodpbefimnlaa
