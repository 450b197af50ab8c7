/- The walks of package ring: what reads no bytes. -/
import Derived.Test.YtejbpjfigopplaaRows
import Derived.WalkKit
import Derived.ProofKit
import Derived.Handy
import Derived.Test.YtejbpjfigopplaaMem
import Derived.Test.YtejbpjfigopplaaLift
import Derived.Test.YtejbpjfigopplaaApp
import Derived.Test.YtejbpjfigopplaaReads
import Derived.Test.YtejbpjfigopplaaOrd
import Derived.Deep.QuietTactic
import Derived.BigQuiet
import Derived.Deep.RegionWith
import Derived.Deep.RegionHeld3
import Derived.Deep.AppendLies
import Derived.WalkLawsBesides
import Derived.WalkSmall
namespace Go.Proofs.Ytejbpjfigopplaa
open Go.RowKit
set_option linter.unusedVariables false

theorem info_U : (Try.prog.info? 5).map (fun i => (i.zero, i.size, i.bytes)) = some (some (.int .u8 0), 1, 1) := by kernel_rfl
/-- A byte as a cell. -/
def byteV (x : UInt8) : Value := .int .u8 (x.toNat : Int)
/-- A ring: its block g, its bytes' block gb, its capacity, and what is there. -/
structure RingAt (w : World) (g gb c kq : Nat) (s : List UInt8) (f : Nat) : Prop where
  blk : Blk w g 42 #[.slice (some ⟨gb, 0, none⟩) c kq, .int .i64 f, .int .i64 s.length]
  row : ∃ cur : Array Value, w.heap[gb]? = some (.cells cur 5 (0, 0)) ∧ cur.size = kq ∧ ∀ j, (h : j < s.length) → cur[(f + j) % c]? = some (byteV (s[j]'h))
  len : s.length ≤ c
  cap : c ≤ 65536
  f0 : f < c ∨ (f = 0 ∧ c = 0)
  ck : c ≤ kq
  kb : kq ≤ 9223372036854775807
  ones : ∀ cur : Array Value, w.heap[gb]? = some (.cells cur 5 (0, 0)) → ∀ (i : Nat) (u : Value), i < c → cur[i]? = some u → u.oneCell' = true
section
variable {w w' : World} {g gb c kq f : Nat} {s : List UInt8}
theorem RingAt.ne (k : RingAt w g gb c kq s f) : gb ≠ g := by
  obtain ⟨cur, h, _⟩ := k.row
  intro e
  subst e
  have hb := k.blk
  unfold Blk at hb
  rw [hb] at h
  injection h with h
  injection h with _ h2
  exact absurd h2 (by decide)
theorem RingAt.lt (k : RingAt w g gb c kq s f) : g < w.heap.size := Blk.lt k.blk
theorem RingAt.ltb (k : RingAt w g gb c kq s f) : gb < w.heap.size := by
  obtain ⟨cur, h, _⟩ := k.row
  exact lt_of_blk h
theorem RingAt.only {S : List Nat} (k : RingAt w g gb c kq s f) (o : Only S w w') (h1 : g ∉ S) (h2 : gb ∉ S) : RingAt w' g gb c kq s f :=
  ⟨k.blk.only o h1, (by obtain ⟨cur, h, r⟩ := k.row; exact ⟨cur, (o.block gb (lt_of_blk h) h2).trans h, r⟩), k.len, k.cap, k.f0, k.ck, k.kb, (by obtain ⟨cur0, h0, _⟩ := k.row; exact fun cur h => k.ones cur ((o.block gb (lt_of_blk h0) h2).symm.trans h))⟩
theorem RingAt.below (k : RingAt w g gb c kq s f) (hb : Below w.heap.size w w') : RingAt w' g gb c kq s f := k.only (S := []) (Only.of_below hb) (by simp) (by simp)
theorem RingAt.alloc (k : RingAt w g gb c kq s f) (o : Obj) : RingAt (w.alloc o) g gb c kq s f := k.below ((Below.refl _ _).alloc (Nat.le_refl _) o)
theorem RingAt.drewN (k : RingAt w g gb c kq s f) (n : Nat) : RingAt (w.drewN n) g gb c kq s f := ⟨k.blk, k.row, k.len, k.cap, k.f0, k.ck, k.kb, k.ones⟩
end

theorem len_any (g gb c kq f : Nat) (s : List UInt8) (w : World) (k : RingAt w g gb c kq s f) :
    Calls Try.prog 8 #[.pointer (some ⟨g, 0, none⟩)] w fun e w' => e = .returned (.int .i64 s.length) ∧ w = w' := by
  have c2 := Blk.cell k.blk 2
  simp at c2
  clear k
  go_enter Try.func8, Try.ntmps8
  go_wp2_with fail
  go_ret
  exact ⟨rfl, rfl⟩
theorem len_nil (w : World) : Calls Try.prog 8 #[.pointer none] w fun e w' => e = .returned (.int .i64 0) ∧ w = w' := by
  go_enter Try.func8, Try.ntmps8
  go_wp2_with fail
  go_ret
  exact ⟨rfl, rfl⟩
theorem cap_any (g gb c kq f : Nat) (s : List UInt8) (w : World) (k : RingAt w g gb c kq s f) :
    Calls Try.prog 13 #[.pointer (some ⟨g, 0, none⟩)] w fun e w' => e = .returned (.int .i64 c) ∧ w = w' := by
  have c0 := Blk.cell k.blk 0
  simp at c0
  clear k
  go_enter Try.func13, Try.ntmps13
  go_wp2_with fail
  go_ret
  exact ⟨rfl, rfl⟩
theorem cap_nil (w : World) : Calls Try.prog 13 #[.pointer none] w fun e w' => e = .returned (.int .i64 0) ∧ w = w' := by
  go_enter Try.func13, Try.ntmps13
  go_wp2_with fail
  go_ret
  exact ⟨rfl, rfl⟩
theorem room_any (g gb c kq f : Nat) (s : List UInt8) (w : World) (k : RingAt w g gb c kq s f) :
    Calls Try.prog 12 #[.pointer (some ⟨g, 0, none⟩)] w fun e w' => e = .returned (.int .i64 ((c : Int) - s.length)) ∧ w = w' := by
  have HC := Lib.hid (cap_any g gb c kq f s w k)
  have HL := Lib.hid (len_any g gb c kq f s w k)
  have h1 := k.cap
  have h2 := k.len
  clear k
  go_enter Try.func12, Try.ntmps12
  go_wp2_with fail
  refine HC.out.mono ?_
  rintro e w1 ⟨rfl, rfl⟩
  go_wp2_with fail
  refine HL.out.mono ?_
  rintro e w1 ⟨rfl, rfl⟩
  go_wp2_with fail
  go_ret
  exact ⟨rfl, rfl⟩
theorem room_nil (w : World) : Calls Try.prog 12 #[.pointer none] w fun e w' => e = .returned (.int .i64 0) ∧ w = w' := by
  go_enter Try.func12, Try.ntmps12
  go_wp2_with fail
  refine (cap_nil _).mono ?_
  rintro e w1 ⟨rfl, rfl⟩
  go_wp2_with fail
  refine (len_nil _).mono ?_
  rintro e w1 ⟨rfl, rfl⟩
  go_wp2_with fail
  go_ret
  exact ⟨rfl, rfl⟩

def Newed (w : World) (c : Nat) (e : Ending) (w' : World) : Prop := ∃ g gb, e = .returned (.tuple #[.pointer (some ⟨g, 0, none⟩), .int .i64 0]) ∧ w.heap.size ≤ g ∧ w.heap.size ≤ gb ∧ RingAt w' g gb c c [] 0 ∧ Below w.heap.size w w'
theorem new_ok (c : Nat) (w : World) (hc : c ≤ 65536) : Calls Try.prog 6 #[.int .i64 c] w (Newed w c) := by
  obtain ⟨i0, hi0, hz0, hz1, hz2⟩ := info_parts info_U
  go_enter Try.func6, Try.ntmps6
  go_wp2_with (first
    | (at_make
       refine wpList_make_full _ rfl (.tmp 10) (.tmp 10) 22 rfl w.heap.size 5 i0 _ 1 Try.underlying22 hi0 hz0 hz1 .i64 .i64 _ _ c rfl rfl rfl rfl ?c1 ?c2 ?c3 ?_
       case c1 => rw [hz2]; omega
       case c2 => simp only [maxLen]; omega
       case c3 => omega
       intro w2 hn2 hg2))
  go_ret2
  have b2 : Below w.heap.size w w2 := (Below.refl _ _).grown hg2 (Nat.le_refl _) (by simp)
  rcases hn2.2 with ⟨hv, _⟩ | ⟨g, cap, cur, hv, hg, hh, _, _, hsz, ht⟩
  · cases hv
  · injection hv with h1 h2 h3
    injection h1 with h1
    injection h1 with h1
    subst h1 h3
    have hh2 : (w2.alloc (.cells #[.slice (some ⟨w.heap.size, 0, none⟩) c c, .int .i64 0, .int .i64 0] 42)).heap[w.heap.size]? = some (.cells cur 5 (0, 0)) := (Below.heap_alloc w2 _ _ (lt_of_blk hh)).trans hh
    refine ⟨w2.heap.size, w.heap.size, rfl, b2.size, Nat.le_refl _, ⟨Blk.new _ _ _, ⟨cur, hh2, by simpa using hsz, fun j h => by simp at h⟩, by simp, hc, by omega, Nat.le_refl _, by omega, fun cur' hc' i u _ hu => ?_⟩, b2.alloc b2.size _⟩
    rw [hh2] at hc'
    injection hc' with hc'
    injection hc' with hc'
    subst hc'
    have hl : cur.toList = (madeCells (Value.int .u8 0).cells (c * 1)).toList := by
      rw [← ht, List.take_of_length_le (by simp; omega)]
    rw [← Array.getElem?_toList, hl, show (Value.int IntKind.u8 0).cells = #[Value.int .u8 0] from rfl, toList_madeCells_one] at hu
    have := (List.mem_replicate.1 (List.mem_of_getElem? hu)).2
    subst this
    rfl
theorem new_no (x : Int) (w : World) (h : x < 0 ∨ 65536 < x) : Calls Try.prog 6 #[.int .i64 x] w fun e w' => e = .returned (.tuple #[.pointer none, .int .i64 3]) ∧ w = w' := by
  rcases Int.lt_or_le x 0 with h1 | h1
  · clear h
    go_enter Try.func6, Try.ntmps6
    go_wp2_with fail
    go_ret2
    exact ⟨rfl, rfl⟩
  · have h2 : 65536 < x := by omega
    clear h
    go_enter Try.func6, Try.ntmps6
    go_wp2_with fail
    go_ret2
    exact ⟨rfl, rfl⟩
end Go.Proofs.Ytejbpjfigopplaa
