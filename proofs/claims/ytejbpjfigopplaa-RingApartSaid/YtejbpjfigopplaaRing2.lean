/- The walks of package ring: Drop, Clear. -/
import Derived.Test.YtejbpjfigopplaaRows
import Derived.WalkKit
import Derived.ProofKit
import Derived.Handy
import Derived.Test.YtejbpjfigopplaaMem
import Derived.Test.YtejbpjfigopplaaLift
import Derived.Test.YtejbpjfigopplaaApp
import Derived.Test.YtejbpjfigopplaaReads
import Derived.Test.YtejbpjfigopplaaOrd
import Derived.Test.YtejbpjfigopplaaRing
import Derived.Deep.QuietTactic
import Derived.BigQuiet
import Derived.Deep.RegionWith
import Derived.Deep.RegionHeld3
import Derived.Deep.AppendLies
import Derived.WalkLawsBesides
import Derived.WalkSmall
namespace Go.Proofs.Ytejbpjfigopplaa
open Go.RowKit
set_option linter.unusedVariables false


def Dropped (w : World) (g gb c kq : Nat) (s : List UInt8) (d : Nat) (e : Ending) (w' : World) : Prop :=
  e = .returned (.int .i64 d) ∧ (∃ f', RingAt w' g gb c kq (s.drop d) f') ∧ Only [g] w w'
theorem drop_row {cur : Array Value} {s : List UInt8} {f c d : Nat} (h : ∀ j, (h : j < s.length) → cur[(f + j) % c]? = some (byteV (s[j]'h))) :
    ∀ j, (h : j < (s.drop d).length) → cur[((f + d) % c + j) % c]? = some (byteV ((s.drop d)[j]'h)) := by
  intro j hj
  simp only [List.length_drop] at hj
  rw [List.getElem_drop, ← h (d + j) (by omega), Nat.mod_add_mod, Nat.add_assoc]
set_option maxRecDepth 20000 in
set_option maxHeartbeats 2000000 in
theorem drop_any (g gb c kq f : Nat) (s : List UInt8) (m : Int) (d : Nat) (w : World) (k : RingAt w g gb c kq s f) (hd : (d : Int) = max (min m s.length) 0) :
    Calls Try.prog 17 #[.pointer (some ⟨g, 0, none⟩), .int .i64 m] w (Dropped w g gb c kq s d) := by
  have HL := Lib.hid (len_any g gb c kq f s w k)
  have HK := Lib.hid k
  have hl := k.len
  have hc := k.cap
  have c0 := Blk.cell k.blk 0
  have c1 := Blk.cell k.blk 1
  have c2 := Blk.cell k.blk 2
  have f1 := Blk.frozen k.blk 1
  have f2 := Blk.frozen k.blk 2
  simp at c0 c1 c2
  have hf := k.f0
  clear k
  rcases Nat.eq_zero_or_pos d with h0 | h0
  · subst h0
    have hm : min m (s.length : Int) ≤ 0 := by omega
    have FIN : Dropped w g gb c kq s 0 (.returned (.int .i64 0)) w := ⟨rfl, ⟨f, by simpa using HK.out⟩, Only.refl _ _⟩
    have HF := Lib.hid FIN
    have hd' : max (min m (s.length : Int)) 0 = 0 := by omega
    clear hd FIN
    go_enter Try.func17, Try.ntmps17
    go_wp2_with fail
    refine HL.out.mono ?_
    rintro e w1 ⟨rfl, rfl⟩
    go_wp2_with fail
    all_goals go_ret
    all_goals exact ⟨ret_int (by omega), HF.out.2⟩
  · have hd0 : (0 : Int) < d := by omega
    have hcc : 0 < c := by omega
    have hdl : d ≤ s.length := by omega
    have hfc : f < c := by omega
    have FIN : ∀ (q : Nat) (x y : Int), x = ((f : Int) + (d : Int)) % (c : Int) → y = (s.length : Int) - d → Dropped w g gb c kq s d (.returned (.int .i64 d)) (((w.drewN q).setCell ⟨g, 1, none⟩ (.int .i64 x)).setCell ⟨g, 2, none⟩ (.int .i64 y)) := by
      rintro q x y rfl rfl
      have e1 : ((f : Int) + (d : Int)) % (c : Int) = (((f + d) % c : Nat) : Int) := by simp
      have e2 : ((s.length : Int) - (d : Int)) = (((s.drop d).length : Nat) : Int) := by simp; omega
      rw [e1, e2]
      refine ⟨rfl, ⟨(f + d) % c, ⟨?_, ?_, by simp; omega, hc, .inl (Nat.mod_lt _ hcc), HK.out.ck, HK.out.kb, (by
        have hne := HK.out.ne
        intro cur hcur
        rw [Below.heap_setCell _ _ _ _ (by simpa using hne), Below.heap_setCell _ _ _ _ (by simpa using hne)] at hcur
        exact HK.out.ones cur hcur)⟩⟩, (((Only.refl [g] w).drewN q).setCell (.inl (by simp)) _).setCell (.inl (by simp)) _⟩
      · have := Blk.set_ (Blk.set_ (HK.out.blk.drewN q) 1 (.int .i64 (((f + d) % c : Nat) : Int))) 2 (.int .i64 ((s.drop d).length : Int))
        simpa using this
      · obtain ⟨cur, hr, hs, hj⟩ := HK.out.row
        have hne := HK.out.ne
        refine ⟨cur, ?_, hs, drop_row hj⟩
        rw [Below.heap_setCell _ _ _ _ (by simpa using hne), Below.heap_setCell _ _ _ _ (by simpa using hne)]
        exact hr
    have HF := Lib.hid FIN
    clear FIN
    rcases (by omega : (m = d ∧ d ≤ s.length) ∨ ((d : Int) = s.length ∧ (s.length : Int) < m)) with ⟨rfl, hm⟩ | ⟨hm1, hm2⟩
    · clear hd
      go_enter Try.func17, Try.ntmps17
      go_wp2_with fail
      refine HL.out.mono ?_
      rintro e w1 ⟨rfl, rfl⟩
      go_wp2_with fail
      go_region
      go_wp2_with fail
      go_ret
      exact HF.out 1 _ _ rfl rfl
    · obtain rfl : d = s.length := by omega
      clear hd hm1
      have hnd : ¬ s.length = 0 := by omega
      have hm3 : ¬ m ≤ (s.length : Int) := by omega
      go_enter Try.func17, Try.ntmps17
      go_wp2_with fail
      refine HL.out.mono ?_
      rintro e w1 ⟨rfl, rfl⟩
      go_wp2_with fail
      go_region
      go_wp2_with fail
      go_ret
      exact HF.out 1 _ _ rfl (by omega)
def Cleared (w : World) (g gb c kq : Nat) (s : List UInt8) (e : Ending) (w' : World) : Prop :=
  e = .returned (.int .i64 s.length) ∧ (∃ f', RingAt w' g gb c kq [] f') ∧ Only [g] w w'
theorem clear_any (g gb c kq f : Nat) (s : List UInt8) (w : World) (k : RingAt w g gb c kq s f) :
    Calls Try.prog 16 #[.pointer (some ⟨g, 0, none⟩)] w (Cleared w g gb c kq s) := by
  have HL := Lib.hid (len_any g gb c kq f s w k)
  have HD := Lib.hid (drop_any g gb c kq f s s.length s.length w k (by omega))
  clear k
  go_enter Try.func16, Try.ntmps16
  go_wp2_with fail
  refine HL.out.mono ?_
  rintro e w1 ⟨rfl, rfl⟩
  go_wp2_with fail
  refine HD.out.mono ?_
  rintro e w2 ⟨rfl, ⟨f', k2⟩, o2⟩
  rw [List.drop_length] at k2
  have HF := Lib.hid (And.intro k2 o2)
  clear k2 o2
  go_wp2_with fail
  go_ret
  exact ⟨rfl, ⟨f', HF.out.1⟩, HF.out.2⟩
theorem drop_nil (m : Int) (w : World) : Calls Try.prog 17 #[.pointer none, .int .i64 m] w fun e w' => e = .returned (.int .i64 0) ∧ w = w' := by
  go_enter Try.func17, Try.ntmps17
  go_wp2_with fail
  refine (len_nil _).mono ?_
  rintro e w1 ⟨rfl, rfl⟩
  go_wp2_with fail
  all_goals go_ret
  all_goals exact ⟨ret_int (by omega), rfl⟩
theorem clear_nil (w : World) : Calls Try.prog 16 #[.pointer none] w fun e w' => e = .returned (.int .i64 0) ∧ w = w' := by
  go_enter Try.func16, Try.ntmps16
  go_wp2_with fail
  refine (len_nil _).mono ?_
  rintro e w1 ⟨rfl, rfl⟩
  go_wp2_with fail
  refine (drop_nil _ _).mono ?_
  rintro e w1 ⟨rfl, rfl⟩
  go_wp2_with fail
  go_ret
  exact ⟨rfl, rfl⟩
end Go.Proofs.Ytejbpjfigopplaa
