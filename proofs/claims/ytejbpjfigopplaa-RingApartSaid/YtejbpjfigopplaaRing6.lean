/- The walks of package ring: do. -/
import Derived.Test.YtejbpjfigopplaaRows
import Derived.WalkKit
import Derived.ProofKit
import Derived.Handy
import Derived.Test.YtejbpjfigopplaaMem
import Derived.Test.YtejbpjfigopplaaLift
import Derived.Test.YtejbpjfigopplaaApp
import Derived.Test.YtejbpjfigopplaaReads
import Derived.Test.YtejbpjfigopplaaOrd
import Derived.Test.YtejbpjfigopplaaRing
import Derived.Test.YtejbpjfigopplaaRing2
import Derived.Test.YtejbpjfigopplaaRing3
import Derived.Test.YtejbpjfigopplaaRing4
import Derived.Test.YtejbpjfigopplaaRing5
import Derived.Deep.QuietTactic
import Derived.BigQuiet
import Derived.Deep.RegionWith
import Derived.Deep.RegionHeld3
import Derived.Deep.AppendLies
import Derived.WalkLawsBesides
import Derived.WalkSmall
import Derived.Lib.BufferWrite
import Derived.Laws.BytesArg
namespace Go.Proofs.Ytejbpjfigopplaa
open Go.RowKit
set_option linter.unusedVariables false






/-- What a call of both leaves: a string s' that stands for the bytes. -/
def Did (w : World) (g gb c kq : Nat) (e : Ending) (w' : World) : Prop :=
  ∃ (s' : ByteArray) (f' : Nat), e = .returned (.tuple #[.string s', .bool true]) ∧ RingAt w' g gb c kq s'.data.toList f' ∧ Only [g, gb] w w'
theorem only_up {g gb : Nat} {w w' : World} (o : Only [g] w w') : Only [g, gb] w w' := o.mono (fun i hi => .inl (by simp at hi; simp [hi]))
theorem mk_toList (l : List UInt8) : (⟨l.toArray⟩ : ByteArray).data.toList = l := by simp

theorem app_toList (s S : ByteArray) (n : Nat) : (s ++ S.extract 0 n).data.toList = s.data.toList ++ S.data.toList.take n := by
  rw [ext0]
  simp
set_option maxRecDepth 20000 in
set_option maxHeartbeats 4000000 in
theorem do_write (g gb c kq f : Nat) (s S : ByteArray) (kd N : Int) (w : World) (k : RingAt w g gb c kq s.data.toList f) (hk : kd = 0 ∨ kd = 1 ∨ kd = 2) (hN : -9223372036854775808 ≤ N ∧ N ≤ 9223372036854775807) (hS : S.size ≤ 9223372036854775807) :
    Calls Try.prog 11 #[.pointer (some ⟨g, 0, none⟩), .string s, .int .i64 c, .agg #[.int .i64 kd, .int .i64 N, .string S]] w (Did w g gb c kq) := by
  have hl := k.len
  have hc := k.cap
  rw [← Go.Lib.size_eq] at hl
  obtain ⟨d, hd⟩ : ∃ d : Nat, (d : Int) = max (min N s.size) 0 := ⟨(max (min N s.size) 0).toNat, by omega⟩
  obtain ⟨r, hr⟩ : ∃ r : Nat, c = s.size + r := ⟨c - s.size, by omega⟩
  have hrr : (c : Int) - s.size = (r : Int) := by omega
  obtain ⟨n, hn⟩ : ∃ n : Nat, n = min S.size r := ⟨_, rfl⟩
  have hnm : min (S.size : Int) (r : Int) = (n : Int) := by omega
  have hnS : n ≤ S.size := by omega
  have hnr : n ≤ 65536 := by omega
  have ka := k.alloc (.cells #[.int .i64 kd, .int .i64 N, .string S] 36)
  have xa := Blk.new w 36 #[.int .i64 kd, .int .i64 N, .string S]
  have z1 : (w.alloc (.cells #[.int .i64 kd, .int .i64 N, .string S] 36)).cell? ⟨w.heap.size, 1, none⟩ = some (.int .i64 N) := (Blk.cell xa 1).trans rfl
  have z2 : (w.alloc (.cells #[.int .i64 kd, .int .i64 N, .string S] 36)).cell? ⟨w.heap.size, 2, none⟩ = some (.string S) := (Blk.cell xa 2).trans rfl
  have HWf := Lib.hid (fun W (kW : RingAt W g gb c kq s.data.toList f) => write_any g gb c kq f s.data.toList S n W kW (by rw [← Go.Lib.size_eq, hn, hr]; congr 1; omega) hS)
  have HF := fun W => first_any s N d W (by omega) hd hN.1 hN.2
  have HLo := fun (W : World) => low_any (S.size : Int) (r : Int) W
  rw [hnm] at HLo
  have HFi := Lib.hid HF
  have HLow := Lib.hid HLo
  have hgl := k.lt
  have hgbl := k.ltb
  have HK := Lib.hid (And.intro ka xa)
  have HN := Lib.hid (And.intro hn hr)
  have hng : ¬ w.heap.size ∈ [g, gb] := by simp; omega
  have hadd : ¬ 9223372036854775807 < s.size + n := by omega
  have hes : (S.extract 0 n).size = n := by rw [ByteArray.size_extract]; omega
  generalize hx : (⟨(s.data.toList.take d).toArray⟩ : ByteArray) = x at *
  clear hn ka xa k HF HLo hd hx hN hnm hr
  rcases hk with rfl | rfl | rfl
  all_goals
    (go_enter Try.func11, Try.ntmps11
     go_wp2_with fail
     refine (HFi.out _).mono ?_
     rintro e w1 ⟨rfl, rfl⟩
     go_wp2_with fail
     refine (HLow.out _).mono ?_
     rintro e w1 ⟨rfl, rfl⟩
     go_wp2_with fail
     generalize hW1 : w.alloc _ = W1 at *
     go_region_held3 (fun w' => w'.cell? ⟨w.heap.size, 2, none⟩ = some (.string S))
       (first
         | go_keep
         | with_reducible assumption)
       ((first
         | (go_at_call 9
            refine (HWf.out _ (HK.out.1.drewN 1)).mono ?_
            rintro e w2 ⟨rfl, ⟨f', k2⟩, o2⟩
            have o2' : Only [g, gb] W1 w2 := ⟨o2.os, o2.tape, o2.output, o2.size, o2.block⟩
            have x2 := HK.out.2.only o2' hng
            have y2 : w2.cell? ⟨w.heap.size, 2, none⟩ = some (.string S) := (Blk.cell x2 2).trans rfl
            have OA : Only [g, gb] w W1 := by rw [← hW1]; exact (Only.refl _ w).alloc _
            have H2 := Lib.hid (And.intro k2 (OA.trans_ o2'))
            clear k2 o2 o2' x2 OA)))
     go_wp2_with fail
     go_ret2
     exact ⟨_, f', rfl, by rw [app_toList]; exact H2.out.1, H2.out.2⟩)

set_option maxRecDepth 20000 in
set_option maxHeartbeats 4000000 in
theorem do_peek (g gb c kq f : Nat) (s S : ByteArray) (N : Int) (w : World) (k : RingAt w g gb c kq s.data.toList f) (hN : -9223372036854775808 ≤ N ∧ N ≤ 9223372036854775807) :
    Calls Try.prog 11 #[.pointer (some ⟨g, 0, none⟩), .string s, .int .i64 c, .agg #[.int .i64 5, .int .i64 N, .string S]] w (Did w g gb c kq) := by
  have hl := k.len
  have hc := k.cap
  rw [← Go.Lib.size_eq] at hl
  obtain ⟨d, hd⟩ : ∃ d : Nat, (d : Int) = max (min N s.size) 0 := ⟨(max (min N s.size) 0).toNat, by omega⟩
  have hds : d ≤ s.size := by omega
  have hd' : (d : Int) = max (min N s.data.toList.length) 0 := by rw [← Go.Lib.size_eq]; exact hd
  have ka := k.alloc (.cells #[.int .i64 5, .int .i64 N, .string S] 36)
  have xa := Blk.new w 36 #[.int .i64 5, .int .i64 N, .string S]
  have z1 : (w.alloc (.cells #[.int .i64 5, .int .i64 N, .string S] 36)).cell? ⟨w.heap.size, 1, none⟩ = some (.int .i64 N) := (Blk.cell xa 1).trans rfl
  have HFi := Lib.hid (fun W => first_any s N d W (by omega) hd hN.1 hN.2)
  have HC := Lib.hid (fun W (kW : RingAt W g gb c kq s.data.toList f) => peek_any g gb c kq f s.data.toList N d W kW hd')
  have hgl := k.lt
  have hgbl := k.ltb
  have HK := Lib.hid (And.intro ka xa)
  have hng : ¬ w.heap.size ∈ [g] := by simp; omega
  have hxs : (⟨(s.data.toList.take d).toArray⟩ : ByteArray).size = d := by rw [size_mk, List.length_take, ← Go.Lib.size_eq]; omega
  generalize hx : (⟨(s.data.toList.take d).toArray⟩ : ByteArray) = x at *
  have hds' : (d : Int) ≤ s.size := by omega
  have HX := Lib.hid hx
  clear ka xa k hd hd' hx hN
  go_enter Try.func11, Try.ntmps11
  go_wp2_with fail
  refine (HFi.out _).mono ?_
  rintro e w1 ⟨rfl, rfl⟩
  go_wp2_with fail
  refine (HC.out _ HK.out.1).mono ?_
  rintro e w2 ⟨rfl, b2⟩
  rw [HX.out]
  have H2 := Lib.hid (And.intro (HK.out.1.below b2) (((Only.refl [g, gb] w).alloc _).trans_ (Only.of_below b2)))
  clear b2
  go_wp2_with fail
  go_ret2
  exact ⟨s, f, rfl, H2.out.1, H2.out.2⟩

set_option maxRecDepth 20000 in
set_option maxHeartbeats 4000000 in
theorem do_clear (g gb c kq f : Nat) (s S : ByteArray) (N : Int) (w : World) (k : RingAt w g gb c kq s.data.toList f) (hN : -9223372036854775808 ≤ N ∧ N ≤ 9223372036854775807) :
    Calls Try.prog 11 #[.pointer (some ⟨g, 0, none⟩), .string s, .int .i64 c, .agg #[.int .i64 7, .int .i64 N, .string S]] w (Did w g gb c kq) := by
  have hl := k.len
  have hc := k.cap
  rw [← Go.Lib.size_eq] at hl
  obtain ⟨d, hd⟩ : ∃ d : Nat, (d : Int) = max (min N s.size) 0 := ⟨(max (min N s.size) 0).toNat, by omega⟩
  have hds : d ≤ s.size := by omega
  have hd' : (d : Int) = max (min N s.data.toList.length) 0 := by rw [← Go.Lib.size_eq]; exact hd
  have ka := k.alloc (.cells #[.int .i64 7, .int .i64 N, .string S] 36)
  have xa := Blk.new w 36 #[.int .i64 7, .int .i64 N, .string S]
  have z1 : (w.alloc (.cells #[.int .i64 7, .int .i64 N, .string S] 36)).cell? ⟨w.heap.size, 1, none⟩ = some (.int .i64 N) := (Blk.cell xa 1).trans rfl
  have HFi := Lib.hid (fun W => first_any s N d W (by omega) hd hN.1 hN.2)
  have HC := Lib.hid (fun W (kW : RingAt W g gb c kq s.data.toList f) => clear_any g gb c kq f s.data.toList W kW)
  have hgl := k.lt
  have hgbl := k.ltb
  have HK := Lib.hid (And.intro ka xa)
  have hng : ¬ w.heap.size ∈ [g] := by simp; omega
  have hxs : (⟨(s.data.toList.take d).toArray⟩ : ByteArray).size = d := by rw [size_mk, List.length_take, ← Go.Lib.size_eq]; omega
  generalize hx : (⟨(s.data.toList.take d).toArray⟩ : ByteArray) = x at *
  have hds' : (d : Int) ≤ s.size := by omega
  have HX := Lib.hid hx
  clear ka xa k hd hd' hx hN
  go_enter Try.func11, Try.ntmps11
  go_wp2_with fail
  refine (HFi.out _).mono ?_
  rintro e w1 ⟨rfl, rfl⟩
  go_wp2_with fail
  refine (HC.out _ HK.out.1).mono ?_
  rintro e w2 ⟨rfl, ⟨f2, k2⟩, o2⟩
  rw [← Go.Lib.size_eq]
  have H2 := Lib.hid (And.intro k2 (((Only.refl [g, gb] w).alloc _).trans_ (only_up o2)))
  clear k2 o2
  go_wp2_with fail
  go_ret2
  exact ⟨_, f2, rfl, H2.out.1, H2.out.2⟩

set_option maxRecDepth 20000 in
set_option maxHeartbeats 4000000 in
theorem do_drop (g gb c kq f : Nat) (s S : ByteArray) (N : Int) (w : World) (k : RingAt w g gb c kq s.data.toList f) (hN : -9223372036854775808 ≤ N ∧ N ≤ 9223372036854775807) :
    Calls Try.prog 11 #[.pointer (some ⟨g, 0, none⟩), .string s, .int .i64 c, .agg #[.int .i64 6, .int .i64 N, .string S]] w (Did w g gb c kq) := by
  have hl := k.len
  have hc := k.cap
  rw [← Go.Lib.size_eq] at hl
  obtain ⟨d, hd⟩ : ∃ d : Nat, (d : Int) = max (min N s.size) 0 := ⟨(max (min N s.size) 0).toNat, by omega⟩
  have hds : d ≤ s.size := by omega
  have hd' : (d : Int) = max (min N s.data.toList.length) 0 := by rw [← Go.Lib.size_eq]; exact hd
  have ka := k.alloc (.cells #[.int .i64 6, .int .i64 N, .string S] 36)
  have xa := Blk.new w 36 #[.int .i64 6, .int .i64 N, .string S]
  have z1 : (w.alloc (.cells #[.int .i64 6, .int .i64 N, .string S] 36)).cell? ⟨w.heap.size, 1, none⟩ = some (.int .i64 N) := (Blk.cell xa 1).trans rfl
  have HFi := Lib.hid (fun W => first_any s N d W (by omega) hd hN.1 hN.2)
  have HC := Lib.hid (fun W (kW : RingAt W g gb c kq s.data.toList f) => drop_any g gb c kq f s.data.toList N d W kW hd')
  have hgl := k.lt
  have hgbl := k.ltb
  have HK := Lib.hid (And.intro ka xa)
  have hng : ¬ w.heap.size ∈ [g] := by simp; omega
  have hxs : (⟨(s.data.toList.take d).toArray⟩ : ByteArray).size = d := by rw [size_mk, List.length_take, ← Go.Lib.size_eq]; omega
  generalize hx : (⟨(s.data.toList.take d).toArray⟩ : ByteArray) = x at *
  have hds' : (d : Int) ≤ s.size := by omega
  have HX := Lib.hid hx
  clear ka xa k hd hd' hx hN
  go_enter Try.func11, Try.ntmps11
  go_wp2_with fail
  refine (HFi.out _).mono ?_
  rintro e w1 ⟨rfl, rfl⟩
  go_wp2_with fail
  generalize hW1 : w.alloc _ = W1 at *
  go_region_held3 (fun w' => w'.cell? ⟨w.heap.size, 1, none⟩ = some (.int .i64 N))
    (first
      | go_keep
      | with_reducible assumption)
    ((first
      | (go_at_call 17
         refine (HC.out _ (HK.out.1.drewN 1)).mono ?_
         rintro e w2 ⟨rfl, ⟨f', k2⟩, o2⟩
         try rw [HX.out]
         have o2' : Only [g] W1 w2 := ⟨o2.os, o2.tape, o2.output, o2.size, o2.block⟩
         have x2 := HK.out.2.only o2' hng
         have y2 : w2.cell? ⟨w.heap.size, 1, none⟩ = some (.int .i64 N) := (Blk.cell x2 1).trans rfl
         have OA : Only [g, gb] w W1 := by rw [← hW1]; exact (Only.refl _ w).alloc _
         have H2 := Lib.hid (And.intro k2 (OA.trans_ (only_up o2')))
         clear k2 o2 o2' x2 OA)))
  go_wp2_with fail
  go_ret2
  exact ⟨_, f', rfl, by rw [extd s d hds]; exact H2.out.1, H2.out.2⟩

set_option maxRecDepth 20000 in
set_option maxHeartbeats 4000000 in
theorem do_read (g gb c kq f : Nat) (s S : ByteArray) (kd N : Int) (w : World) (k : RingAt w g gb c kq s.data.toList f) (h0 : ¬ kd = 0) (h1 : ¬ kd = 1) (h2 : ¬ kd = 2) (h5 : ¬ kd = 5) (h6 : ¬ kd = 6) (h7 : ¬ kd = 7) (hN : -9223372036854775808 ≤ N ∧ N ≤ 9223372036854775807) :
    Calls Try.prog 11 #[.pointer (some ⟨g, 0, none⟩), .string s, .int .i64 c, .agg #[.int .i64 kd, .int .i64 N, .string S]] w (Did w g gb c kq) := by
  have hl := k.len
  have hc := k.cap
  rw [← Go.Lib.size_eq] at hl
  obtain ⟨d, hd⟩ : ∃ d : Nat, (d : Int) = max (min N s.size) 0 := ⟨(max (min N s.size) 0).toNat, by omega⟩
  have hds : d ≤ s.size := by omega
  have hd' : (d : Int) = max (min N s.data.toList.length) 0 := by rw [← Go.Lib.size_eq]; exact hd
  have ka := k.alloc (.cells #[.int .i64 kd, .int .i64 N, .string S] 36)
  have xa := Blk.new w 36 #[.int .i64 kd, .int .i64 N, .string S]
  have z1 : (w.alloc (.cells #[.int .i64 kd, .int .i64 N, .string S] 36)).cell? ⟨w.heap.size, 1, none⟩ = some (.int .i64 N) := (Blk.cell xa 1).trans rfl
  have HFi := Lib.hid (fun W => first_any s N d W (by omega) hd hN.1 hN.2)
  have HC := Lib.hid (fun W (kW : RingAt W g gb c kq s.data.toList f) => read_any g gb c kq f s.data.toList N d W kW hd')
  have hgl := k.lt
  have hgbl := k.ltb
  have HK := Lib.hid (And.intro ka xa)
  have hng : ¬ w.heap.size ∈ [g] := by simp; omega
  have hxs : (⟨(s.data.toList.take d).toArray⟩ : ByteArray).size = d := by rw [size_mk, List.length_take, ← Go.Lib.size_eq]; omega
  generalize hx : (⟨(s.data.toList.take d).toArray⟩ : ByteArray) = x at *
  have hds' : (d : Int) ≤ s.size := by omega
  have HX := Lib.hid hx
  clear ka xa k hd hd' hx hN
  have e0 : (kd == 0) = false := by simp [h0]
  have e1 : (kd == 1) = false := by simp [h1]
  have e2 : (kd == 2) = false := by simp [h2]
  have e5 : (kd == 5) = false := by simp [h5]
  have e6 : (kd == 6) = false := by simp [h6]
  have e7 : (kd == 7) = false := by simp [h7]
  clear h0 h1 h2 h5 h6 h7
  go_enter Try.func11, Try.ntmps11
  go_wp2_with fail
  refine (HFi.out _).mono ?_
  rintro e w1 ⟨rfl, rfl⟩
  go_wp2_with fail
  generalize hW1 : w.alloc _ = W1 at *
  go_region_held3 (fun w' => w'.cell? ⟨w.heap.size, 1, none⟩ = some (.int .i64 N))
    (first
      | go_keep
      | with_reducible assumption)
    ((first
      | (go_at_call 10
         refine (HC.out _ (HK.out.1.drewN 1)).mono ?_
         rintro e w2 ⟨rfl, ⟨f', k2⟩, o2⟩
         try rw [HX.out]
         have o2' : Only [g] W1 w2 := ⟨o2.os, o2.tape, o2.output, o2.size, o2.block⟩
         have x2 := HK.out.2.only o2' hng
         have y2 : w2.cell? ⟨w.heap.size, 1, none⟩ = some (.int .i64 N) := (Blk.cell x2 1).trans rfl
         have OA : Only [g, gb] w W1 := by rw [← hW1]; exact (Only.refl _ w).alloc _
         have H2 := Lib.hid (And.intro k2 (OA.trans_ (only_up o2')))
         clear k2 o2 o2' x2 OA)))
  go_wp2_with fail
  go_ret2
  exact ⟨_, f', rfl, by rw [extd s d hds]; exact H2.out.1, H2.out.2⟩

theorem do_any (g gb c kq f : Nat) (s S : ByteArray) (kd N : Int) (w : World) (k : RingAt w g gb c kq s.data.toList f) (hN : -9223372036854775808 ≤ N ∧ N ≤ 9223372036854775807) (hS : S.size ≤ 9223372036854775807) :
    Calls Try.prog 11 #[.pointer (some ⟨g, 0, none⟩), .string s, .int .i64 c, .agg #[.int .i64 kd, .int .i64 N, .string S]] w (Did w g gb c kq) := by
  by_cases h0 : kd = 0
  · exact do_write g gb c kq f s S kd N w k (.inl h0) hN hS
  by_cases h1 : kd = 1
  · exact do_write g gb c kq f s S kd N w k (.inr (.inl h1)) hN hS
  by_cases h2 : kd = 2
  · exact do_write g gb c kq f s S kd N w k (.inr (.inr h2)) hN hS
  by_cases h5 : kd = 5
  · subst h5; exact do_peek g gb c kq f s S N w k hN
  by_cases h6 : kd = 6
  · subst h6; exact do_drop g gb c kq f s S N w k hN
  by_cases h7 : kd = 7
  · subst h7; exact do_clear g gb c kq f s S N w k hN
  exact do_read g gb c kq f s S kd N w k h0 h1 h2 h5 h6 h7 hN
end Go.Proofs.Ytejbpjfigopplaa
