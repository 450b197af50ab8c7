/- The walks of package ring: Copy; a ring of no room. -/
import Derived.Test.YtejbpjfigopplaaRows
import Derived.WalkKit
import Derived.ProofKit
import Derived.Handy
import Derived.Test.YtejbpjfigopplaaMem
import Derived.Test.YtejbpjfigopplaaLift
import Derived.Test.YtejbpjfigopplaaApp
import Derived.Test.YtejbpjfigopplaaReads
import Derived.Test.YtejbpjfigopplaaOrd
import Derived.Test.YtejbpjfigopplaaRing
import Derived.Test.YtejbpjfigopplaaRing2
import Derived.Test.YtejbpjfigopplaaRing3
import Derived.Test.YtejbpjfigopplaaRing4
import Derived.Test.YtejbpjfigopplaaRing5
import Derived.Test.YtejbpjfigopplaaRing6
import Derived.Deep.QuietTactic
import Derived.BigQuiet
import Derived.Deep.RegionWith
import Derived.Deep.RegionHeld3
import Derived.Deep.AppendLies
import Derived.WalkLawsBesides
import Derived.WalkSmall
import Derived.Lib.BufferWrite
import Derived.Laws.BytesArg
namespace Go.Proofs.Ytejbpjfigopplaa
open Go.RowKit
set_option linter.unusedVariables false

def CopyIs (w : World) (c : Nat) (s : List UInt8) (f : Nat) (e : Ending) (w' : World) : Prop := ∃ g gb kq, e = .returned (.pointer (some ⟨g, 0, none⟩)) ∧ w.heap.size ≤ g ∧ w.heap.size ≤ gb ∧ RingAt w' g gb c kq s f ∧ Below w.heap.size w w'
set_option maxHeartbeats 2000000 in
theorem copy_any (g gb c kq f : Nat) (s : List UInt8) (w : World) (k : RingAt w g gb c kq s f) (hcc : 0 < c) :
    Calls Try.prog 15 #[.pointer (some ⟨g, 0, none⟩)] w (CopyIs w c s f) := by
  obtain ⟨i0, hi0, hz0, hz1, hz2⟩ := info_parts info_U
  have HK := Lib.hid k
  have hc := k.cap
  have hkq := k.ck
  have c0 := Blk.cell k.blk 0
  have c1 := Blk.cell k.blk 1
  have c2 := Blk.cell k.blk 2
  simp at c0 c1 c2
  obtain ⟨cur, q1, q2, q3⟩ := k.row
  have hglt := k.lt
  have hon := k.ones cur q1
  have R1 : Reads w w.heap.size 1 (some ⟨gb, 0, none⟩) c (cur.toList.take c) := by
    refine ⟨by simp [q2]; omega, fun _ => ⟨_, rfl, lt_of_blk q1, fun j u hu => ?_⟩⟩
    rw [add_plain_, cell_of_row w gb _ cur 5 (0, 0) q1, Nat.zero_add]
    rw [List.getElem?_take] at hu
    split at hu
    · simpa using hu
    · cases hu
  have hone : ∀ u ∈ cur.toList.take c, u.oneCell' = true := by
    intro u hu
    obtain ⟨i, hi⟩ := List.mem_iff_getElem?.1 hu
    rw [List.getElem?_take] at hi
    split at hi
    · next hic => exact hon i u hic (by simpa using hi)
    · cases hi
  have HR1 := Lib.hid R1
  have HO := Lib.hid hone
  have HQ := Lib.hid (And.intro q1 (And.intro q2 q3))
  clear k q1 q2 q3 hon R1 hone
  go_enter Try.func15, Try.ntmps15
  go_wp2_with fail
  go_region_held3 (fun w' => w'.cell? ⟨g, 0, none⟩ = some (.slice (some ⟨gb, 0, none⟩) c kq) ∧ w'.cell? ⟨g, 1, none⟩ = some (.int .i64 f) ∧ w'.cell? ⟨g, 2, none⟩ = some (.int .i64 s.length))
    (first
      | go_keep
      | (refine ⟨?_, ?_, ?_⟩ <;> with_reducible assumption))
    ((first
      | (refine step_append_s _ (by rfl) (.const (.slice none 0 0)) (.tmp 8) _ (by rfl) w.heap.size 5 i0 _ 1 1 Try.underlying22 hi0 hz0 hz1 hz2 rfl (by omega) (.slice none 0 0) 0 [] (by rfl) (own_nil _ _ _ _) w.heap.size (some ⟨gb, 0, none⟩) c kq (cur.toList.take c) (by rfl) (HR1.out.drewN 1) HO.out (by simp only [maxLen]; omega) (by omega) (Nat.le_refl _) ?_
         intro A2 k2 w2 hn2 hg2
         have b2 : Below w.heap.size w w2 := ((Below.refl _ w).drew).grown hg2 (Nat.le_refl _) (by simp [Value.ownBlock])
         have x2 := Blk.below HK.out.blk b2 HK.out.lt
         have y0 := Blk.cell x2 0
         have y1 := Blk.cell x2 1
         have y2 := Blk.cell x2 2
         simp at y0 y1 y2
         have H2 := Lib.hid (And.intro hn2 b2)
         have hsz2 := b2.size
         clear hn2 hg2 b2 x2)))
  go_wp2_with fail
  go_ret
  have hn2 : w2.ownsRow w.heap.size 5 1 (.slice A2 c k2) c (cur.toList.take c) := by have h := H2.out.1; rw [Nat.zero_add, List.nil_append] at h; exact h
  have b2 := H2.out.2
  rcases hn2.2 with ⟨hv, hx⟩ | ⟨gb', cap, cur', hv, hg, hh, hcc', hm, hsz, ht⟩
  · exfalso
    have := hn2.1
    rw [hx] at this
    simp at this
    omega
  · injection hv with h1 h2 h3
    subst h1 h3
    have hh2 := (Below.heap_alloc w2 (.cells #[.slice (some ⟨gb', 0, none⟩) c k2, .int .i64 f, .int .i64 s.length] 42) _ (lt_of_blk hh)).trans hh
    refine ⟨w2.heap.size, gb', k2, rfl, hsz2, hg, ⟨Blk.new _ _ _, ⟨cur', hh2, by omega, fun j hj => ?_⟩, HK.out.len, HK.out.cap, HK.out.f0, hcc', by unfold maxLen at hm; omega, ?_⟩, b2.alloc b2.size _⟩
    · have h0 := HQ.out.2.2 j hj
      have hmod : (f + j) % c < c := Nat.mod_lt _ hcc
      rw [← h0, ← Array.getElem?_toList, ← Array.getElem?_toList]
      have e := congrArg (fun l => l[(f + j) % c]?) ht
      simp only [List.getElem?_take, Nat.mul_one, if_pos hmod] at e
      exact e
    · intro cur'' hcur'' i u hi hu
      obtain rfl := cells_of hh2 hcur''
      have e := congrArg (fun l => l[i]?) ht
      simp only [List.getElem?_take, Nat.mul_one, if_pos hi] at e
      rw [← Array.getElem?_toList, e] at hu
      exact HO.out u (by rw [List.mem_iff_getElem?]; exact ⟨i, by rw [List.getElem?_take, if_pos hi]; exact hu⟩)
theorem copy_nil (w : World) : Calls Try.prog 15 #[.pointer none] w fun e w' => e = .returned (.pointer none) ∧ w = w' := by
  go_enter Try.func15, Try.ntmps15
  go_wp2_with fail
  go_ret
  exact ⟨rfl, rfl⟩
theorem write_nil (t : ByteArray) (w : World) : Calls Try.prog 9 #[.pointer none, .string t] w fun e w' => e = .returned (.int .i64 0) ∧ w = w' := by
  go_enter Try.func9, Try.ntmps9
  go_wp2_with fail
  refine (room_nil _).mono ?_
  rintro e w1 ⟨rfl, rfl⟩
  go_wp2_with fail
  all_goals go_ret
  all_goals exact ⟨rfl, rfl⟩
theorem peek_nil (m : Int) (w : World) : Calls Try.prog 14 #[.pointer none, .int .i64 m] w fun e w' => e = .returned (.string ByteArray.empty) ∧ Below w.heap.size w w' := by
  have HB := Lib.hid ((Below.refl w.heap.size w).alloc (Nat.le_refl _) (.cells #[.pointer none] 23))
  go_enter Try.func14, Try.ntmps14
  go_wp2_with fail
  refine (len_nil _).mono ?_
  rintro e w1 ⟨rfl, rfl⟩
  go_wp2_with fail
  all_goals go_ret
  all_goals exact ⟨rfl, HB.out⟩
theorem read_nil (m : Int) (w : World) : Calls Try.prog 10 #[.pointer none, .int .i64 m] w fun e w' => e = .returned (.string ByteArray.empty) ∧ Below w.heap.size w w' := by
  go_enter Try.func10, Try.ntmps10
  go_wp2_with fail
  refine (peek_nil m _).mono ?_
  rintro e w1 ⟨rfl, b1⟩
  have HB := Lib.hid b1
  clear b1
  go_wp2_with fail
  refine (drop_nil _ _).mono ?_
  rintro e w2 ⟨rfl, rfl⟩
  go_wp2_with fail
  go_ret
  exact ⟨rfl, HB.out⟩
-- What is known of a ring of no room.
namespace Z
structure RingAt (w : World) (g gb c kq : Nat) (s : List UInt8) (f : Nat) : Prop where
  blk : ∃ (A : Option Addr) (k : Nat), Blk w g 42 #[.slice A 0 k, .int .i64 0, .int .i64 0]
  same : gb = g
  none_ : s = []
  zero_ : c = 0
section
variable {w w' : World} {g gb c kq f : Nat} {s : List UInt8}
theorem RingAt.lt (k : RingAt w g gb c kq s f) : g < w.heap.size := by
  obtain ⟨A, q, h⟩ := k.blk
  exact Blk.lt h
theorem RingAt.ltb (k : RingAt w g gb c kq s f) : gb < w.heap.size := by rw [k.same]; exact k.lt
theorem RingAt.len (k : RingAt w g gb c kq s f) : s.length ≤ c := by rw [k.none_]; simp
theorem RingAt.cap (k : RingAt w g gb c kq s f) : c ≤ 65536 := by rw [k.zero_]; omega
theorem RingAt.only {S : List Nat} (k : RingAt w g gb c kq s f) (o : Only S w w') (h1 : g ∉ S) (h2 : gb ∉ S) : RingAt w' g gb c kq s f :=
  ⟨(by obtain ⟨A, q, h⟩ := k.blk; exact ⟨A, q, h.only o h1⟩), k.same, k.none_, k.zero_⟩
theorem RingAt.below (k : RingAt w g gb c kq s f) (hb : Below w.heap.size w w') : RingAt w' g gb c kq s f := k.only (S := []) (Only.of_below hb) (by simp) (by simp)
theorem RingAt.alloc (k : RingAt w g gb c kq s f) (o : Obj) : RingAt (w.alloc o) g gb c kq s f := k.below ((Below.refl _ _).alloc (Nat.le_refl _) o)
theorem RingAt.drewN (k : RingAt w g gb c kq s f) (n : Nat) : RingAt (w.drewN n) g gb c kq s f := ⟨k.blk, k.same, k.none_, k.zero_⟩
end
theorem RingAt.of {w : World} {g gb kq f : Nat} {s : List UInt8} (k : Go.Proofs.Ytejbpjfigopplaa.RingAt w g gb 0 kq s f) : RingAt w g g 0 0 s 0 := by
  have hl := k.len
  have hs : s = [] := List.eq_nil_of_length_eq_zero (by omega)
  subst hs
  have hf := k.f0
  obtain rfl : f = 0 := by omega
  exact ⟨⟨_, _, k.blk⟩, rfl, rfl, rfl⟩
theorem len_any (g gb c kq f : Nat) (s : List UInt8) (w : World) (k : RingAt w g gb c kq s f) :
    Calls Try.prog 8 #[.pointer (some ⟨g, 0, none⟩)] w fun e w' => e = .returned (.int .i64 s.length) ∧ w = w' := by
  obtain ⟨A, q, hb⟩ := k.blk
  obtain rfl := k.none_
  have c2 := Blk.cell hb 2
  simp at c2
  clear k hb
  go_enter Try.func8, Try.ntmps8
  go_wp2_with fail
  go_ret
  exact ⟨rfl, rfl⟩
theorem cap_any (g gb c kq f : Nat) (s : List UInt8) (w : World) (k : RingAt w g gb c kq s f) :
    Calls Try.prog 13 #[.pointer (some ⟨g, 0, none⟩)] w fun e w' => e = .returned (.int .i64 c) ∧ w = w' := by
  obtain ⟨A, q, hb⟩ := k.blk
  obtain rfl := k.zero_
  have c0 := Blk.cell hb 0
  simp at c0
  clear k hb
  go_enter Try.func13, Try.ntmps13
  go_wp2_with fail
  go_ret
  exact ⟨rfl, rfl⟩
theorem room_any (g gb c kq f : Nat) (s : List UInt8) (w : World) (k : RingAt w g gb c kq s f) :
    Calls Try.prog 12 #[.pointer (some ⟨g, 0, none⟩)] w fun e w' => e = .returned (.int .i64 ((c : Int) - s.length)) ∧ w = w' := by
  have HC := Lib.hid (cap_any g gb c kq f s w k)
  have HL := Lib.hid (len_any g gb c kq f s w k)
  have h1 := k.cap
  have h2 := k.len
  clear k
  go_enter Try.func12, Try.ntmps12
  go_wp2_with fail
  refine HC.out.mono ?_
  rintro e w1 ⟨rfl, rfl⟩
  go_wp2_with fail
  refine HL.out.mono ?_
  rintro e w1 ⟨rfl, rfl⟩
  go_wp2_with fail
  go_ret
  exact ⟨rfl, rfl⟩
def Wrote (w : World) (g gb c kq : Nat) (s : List UInt8) (t : ByteArray) (n : Nat) (e : Ending) (w' : World) : Prop :=
  e = .returned (.int .i64 n) ∧ (∃ f', RingAt w' g gb c kq (s ++ t.data.toList.take n) f') ∧ Only [g, gb] w w'
theorem write_any (g gb c kq f : Nat) (s : List UInt8) (t : ByteArray) (n : Nat) (w : World) (k : RingAt w g gb c kq s f) (hn : n = min t.size (c - s.length)) (ht : t.size ≤ 9223372036854775807) :
    Calls Try.prog 9 #[.pointer (some ⟨g, 0, none⟩), .string t] w (Wrote w g gb c kq s t n) := by
  have hz := k.zero_
  have hs := k.none_
  subst hz hs
  obtain rfl : n = 0 := by omega
  have HL := Lib.hid (room_any g gb 0 kq f [] w k)
  have HF : Hid (Wrote w g gb 0 kq [] t 0 (.returned (.int .i64 0)) w) := ⟨rfl, ⟨f, by simpa using k⟩, Only.refl _ _⟩
  clear hn k
  go_enter Try.func9, Try.ntmps9
  go_wp2_with fail
  refine HL.out.mono ?_
  rintro e w1 ⟨rfl, rfl⟩
  go_wp2_with fail
  all_goals go_ret
  all_goals exact HF.out
def Peeked (w : World) (s : List UInt8) (d : Nat) (e : Ending) (w' : World) : Prop :=
  e = .returned (.string ⟨(s.take d).toArray⟩) ∧ Below w.heap.size w w'
theorem peek_any (g gb c kq f : Nat) (s : List UInt8) (m : Int) (d : Nat) (w : World) (k : RingAt w g gb c kq s f) (hd : (d : Int) = max (min m s.length) 0) :
    Calls Try.prog 14 #[.pointer (some ⟨g, 0, none⟩), .int .i64 m] w (Peeked w s d) := by
  have ka := k.alloc (.cells #[.pointer (some ⟨g, 0, none⟩)] 23)
  have HL := Lib.hid (len_any g gb c kq f s _ ka)
  have HB0 := Lib.hid ((Below.refl w.heap.size w).alloc (Nat.le_refl _) (.cells #[.pointer (some ⟨g, 0, none⟩)] 23))
  have hs := k.none_
  subst hs
  have hd' : max (min m (([] : List UInt8).length : Int)) 0 = 0 := by simp; omega
  have e0 : (⟨(([] : List UInt8).take d).toArray⟩ : ByteArray) = ByteArray.empty := by simp; rfl
  have HE := Lib.hid e0
  clear hd k ka e0
  go_enter Try.func14, Try.ntmps14
  go_wp2_with fail
  refine HL.out.mono ?_
  rintro e w1 ⟨rfl, rfl⟩
  go_wp2_with fail
  all_goals go_ret
  all_goals exact ⟨by rw [HE.out]; rfl, HB0.out⟩
def Dropped (w : World) (g gb c kq : Nat) (s : List UInt8) (d : Nat) (e : Ending) (w' : World) : Prop :=
  e = .returned (.int .i64 d) ∧ (∃ f', RingAt w' g gb c kq (s.drop d) f') ∧ Only [g] w w'
theorem drop_any (g gb c kq f : Nat) (s : List UInt8) (m : Int) (d : Nat) (w : World) (k : RingAt w g gb c kq s f) (hd : (d : Int) = max (min m s.length) 0) :
    Calls Try.prog 17 #[.pointer (some ⟨g, 0, none⟩), .int .i64 m] w (Dropped w g gb c kq s d) := by
  have HL := Lib.hid (len_any g gb c kq f s w k)
  have hs := k.none_
  subst hs
  obtain rfl : d = 0 := by simp at hd; omega
  have HF : Hid (Dropped w g gb c kq [] 0 (.returned (.int .i64 0)) w) := ⟨rfl, ⟨f, by simpa using k⟩, Only.refl _ _⟩
  have hd' : max (min m (([] : List UInt8).length : Int)) 0 = 0 := by simp; omega
  clear hd k
  go_enter Try.func17, Try.ntmps17
  go_wp2_with fail
  refine HL.out.mono ?_
  rintro e w1 ⟨rfl, rfl⟩
  go_wp2_with fail
  all_goals go_ret
  all_goals exact ⟨ret_int (by first | (simp at *; done) | (simp at *; omega)), HF.out.2⟩
def Cleared (w : World) (g gb c kq : Nat) (s : List UInt8) (e : Ending) (w' : World) : Prop :=
  e = .returned (.int .i64 s.length) ∧ (∃ f', RingAt w' g gb c kq [] f') ∧ Only [g] w w'
theorem clear_any (g gb c kq f : Nat) (s : List UInt8) (w : World) (k : RingAt w g gb c kq s f) :
    Calls Try.prog 16 #[.pointer (some ⟨g, 0, none⟩)] w (Cleared w g gb c kq s) := by
  have HL := Lib.hid (len_any g gb c kq f s w k)
  have HD := Lib.hid (drop_any g gb c kq f s s.length s.length w k (by omega))
  clear k
  go_enter Try.func16, Try.ntmps16
  go_wp2_with fail
  refine HL.out.mono ?_
  rintro e w1 ⟨rfl, rfl⟩
  go_wp2_with fail
  refine HD.out.mono ?_
  rintro e w2 ⟨rfl, ⟨f', k2⟩, o2⟩
  rw [List.drop_length] at k2
  have HF := Lib.hid (And.intro k2 o2)
  clear k2 o2
  go_wp2_with fail
  go_ret
  exact ⟨rfl, ⟨f', HF.out.1⟩, HF.out.2⟩
def Readed (w : World) (g gb c kq : Nat) (s : List UInt8) (d : Nat) (e : Ending) (w' : World) : Prop :=
  e = .returned (.string ⟨(s.take d).toArray⟩) ∧ (∃ f', RingAt w' g gb c kq (s.drop d) f') ∧ Only [g] w w'
theorem read_any (g gb c kq f : Nat) (s : List UInt8) (m : Int) (d : Nat) (w : World) (k : RingAt w g gb c kq s f) (hd : (d : Int) = max (min m s.length) 0) :
    Calls Try.prog 10 #[.pointer (some ⟨g, 0, none⟩), .int .i64 m] w (Readed w g gb c kq s d) := by
  have HP := Lib.hid (peek_any g gb c kq f s m d w k hd)
  have HK := Lib.hid k
  have hc := k.cap
  have hl := k.len
  have hdl : d ≤ s.length := by omega
  clear k hd
  go_enter Try.func10, Try.ntmps10
  go_wp2_with fail
  refine HP.out.mono ?_
  rintro e w1 ⟨rfl, b1⟩
  have HB1 := Lib.hid b1
  have hsz : (⟨(s.take d).toArray⟩ : ByteArray).size = d := by rw [size_mk, List.length_take]; omega
  have HD := Lib.hid (drop_any g gb c kq f s d d w1 (HK.out.below b1) (by omega))
  generalize hB : (⟨(s.take d).toArray⟩ : ByteArray) = B at *
  have HBE := Lib.hid hB
  clear b1 hB
  go_wp2_with fail
  refine HD.out.mono ?_
  rintro e w2 ⟨rfl, k2, o2⟩
  have HF := Lib.hid (And.intro k2 ((Only.of_below HB1.out).trans_ o2))
  clear k2 o2
  go_wp2_with fail
  go_ret
  exact ⟨by rw [HBE.out]; rfl, HF.out.1, HF.out.2⟩

theorem copy_any (g gb c kq f : Nat) (s : List UInt8) (w : World) (k : RingAt w g gb c kq s f) :
    Calls Try.prog 15 #[.pointer (some ⟨g, 0, none⟩)] w (fun e w' => ∃ g', e = .returned (.pointer (some ⟨g', 0, none⟩)) ∧ w.heap.size ≤ g' ∧ RingAt w' g' g' 0 0 [] 0 ∧ Below w.heap.size w w') := by
  obtain ⟨i0, hi0, hz0, hz1, hz2⟩ := info_parts info_U
  obtain ⟨A, q, hb⟩ := k.blk
  have c0 := Blk.cell hb 0
  have c1 := Blk.cell hb 1
  have c2 := Blk.cell hb 2
  simp at c0 c1 c2
  have hglt := k.lt
  have HR1 : Hid (Reads w w.heap.size 1 A 0 []) := ⟨by simp, fun h => absurd h (by omega)⟩
  have HK := Lib.hid hb
  clear k hb
  go_enter Try.func15, Try.ntmps15
  go_wp2_with fail
  go_region_held3 (fun w' => w'.cell? ⟨g, 0, none⟩ = some (.slice A 0 q) ∧ w'.cell? ⟨g, 1, none⟩ = some (.int .i64 0) ∧ w'.cell? ⟨g, 2, none⟩ = some (.int .i64 0))
    (first
      | go_keep
      | (refine ⟨?_, ?_, ?_⟩ <;> with_reducible assumption))
    ((first
      | (refine step_append_s _ (by rfl) (.const (.slice none 0 0)) (.tmp 8) _ (by rfl) w.heap.size 5 i0 _ 1 1 Try.underlying22 hi0 hz0 hz1 hz2 rfl (by omega) (.slice none 0 0) 0 [] (by rfl) (own_nil _ _ _ _) w.heap.size A 0 q [] (by rfl) (HR1.out.drewN 1) (by simp) (by simp only [maxLen]; omega) (by omega) (Nat.le_refl _) ?_
         intro A2 k2 w2 hn2 hg2
         have b2 : Below w.heap.size w w2 := ((Below.refl _ w).drew).grown hg2 (Nat.le_refl _) (by simp [Value.ownBlock])
         have x2 := Blk.below HK.out b2 (Blk.lt HK.out)
         have y0 := Blk.cell x2 0
         have y1 := Blk.cell x2 1
         have y2 := Blk.cell x2 2
         simp at y0 y1 y2
         have H2 := Lib.hid b2
         have hsz2 := b2.size
         clear hn2 hg2 b2 x2)))
  go_wp2_with fail
  go_ret
  exact ⟨w2.heap.size, rfl, hsz2, ⟨⟨A2, k2, Blk.new _ _ _⟩, rfl, rfl, rfl⟩, H2.out.alloc hsz2 _⟩
end Z
end Go.Proofs.Ytejbpjfigopplaa
