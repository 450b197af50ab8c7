/- The walks of package shake. -/
import Derived.Test.YtdegdikkjaifiaaRows
import Derived.WalkKit
import Derived.ProofKit
import Derived.Handy
import Derived.Test.YtdegdikkjaifiaaMem
import Derived.Test.YtdegdikkjaifiaaLift
import Derived.Test.YtdegdikkjaifiaaApp
import Derived.Test.YtdegdikkjaifiaaParams2
import Derived.Deep.QuietTactic
import Derived.BigQuiet
import Derived.Deep.RegionWith
import Derived.Deep.RegionHeld3
import Derived.WalkLawsBesides
import Derived.WalkSmall
namespace Go.Proofs.Ytdegdikkjaifiaa
open Go.RowKit
set_option linter.unusedVariables false

abbrev Set3 := Int × Int × Int
def flat3 (L : List Set3) : List Value := L.flatMap fun p => [Value.int .i64 p.1, Value.int .i64 p.2.1, Value.int .i64 p.2.2]
/-- A shake: what holds, the greatest values, what is on its way. -/
def ShakeAt (w : World) (g : Nat) (h q : Set3) (L : List Set3) : Prop :=
  ∃ A cap, Blk w g 45 #[.int .i64 h.1, .int .i64 h.2.1, .int .i64 h.2.2, .int .i64 q.1, .int .i64 q.2.1, .int .i64 q.2.2, .slice A L.length cap] ∧ Held w 27 3 A L.length cap (flat3 L)

/-- And where the row lies. -/
def ShakeIn (w : World) (g : Nat) (h q : Set3) (L : List Set3) (F : Nat → Prop) : Prop :=
  ∃ A cap, Blk w g 45 #[.int .i64 h.1, .int .i64 h.2.1, .int .i64 h.2.2, .int .i64 q.1, .int .i64 q.2.1, .int .i64 q.2.2, .slice A L.length cap] ∧ Held w 27 3 A L.length cap (flat3 L) ∧ ∀ b off, A = some ⟨b, off, none⟩ → F b
theorem ShakeIn.at_ {w : World} {g : Nat} {h q : Set3} {L : List Set3} {F : Nat → Prop} (k : ShakeIn w g h q L F) : ShakeAt w g h q L := by
  obtain ⟨A, cap, h1, h2, _⟩ := k
  exact ⟨A, cap, h1, h2⟩
theorem ShakeAt.in_ {w : World} {g : Nat} {h q : Set3} {L : List Set3} (k : ShakeAt w g h q L) : ShakeIn w g h q L (fun _ => True) := by
  obtain ⟨A, cap, h1, h2⟩ := k
  exact ⟨A, cap, h1, h2, fun _ _ _ => trivial⟩
theorem ShakeIn.mono {w : World} {g : Nat} {h q : Set3} {L : List Set3} {F F' : Nat → Prop} (k : ShakeIn w g h q L F) (hF : ∀ b, F b → F' b) : ShakeIn w g h q L F' := by
  obtain ⟨A, cap, h1, h2, h3⟩ := k
  exact ⟨A, cap, h1, h2, fun b off hA => hF b (h3 b off hA)⟩
/-- Where its block and its row's are as they were. -/
theorem ShakeIn.keep {w w' : World} {g : Nat} {h q : Set3} {L : List Set3} {F : Nat → Prop} (k : ShakeIn w g h q L F) (hg : w'.heap[g]? = w.heap[g]?) (hk : ∀ b, F b → w'.heap[b]? = w.heap[b]?) : ShakeIn w' g h q L F := by
  obtain ⟨A, cap, h1, h2, h3⟩ := k
  refine ⟨A, cap, hg.trans h1, ⟨h2.1, h2.2.1, h2.2.2.1, h2.2.2.2.1, fun hp => ?_⟩, h3⟩
  obtain ⟨b, off, cur, hA, hb, hc⟩ := h2.2.2.2.2 hp
  exact ⟨b, off, cur, hA, (hk b (h3 b off hA)).trans hb, hc⟩

theorem ShakeAt.below {w w' : World} {g : Nat} {h q : Set3} {L : List Set3} (k : ShakeAt w g h q L) (hb : Below w.heap.size w w') : ShakeAt w' g h q L := by
  obtain ⟨A, cap, h1, h2⟩ := k
  exact ⟨A, cap, Blk.below h1 hb (Blk.lt h1), h2.below hb⟩
theorem ShakeAt.lt {w : World} {g : Nat} {h q : Set3} {L : List Set3} (k : ShakeAt w g h q L) : g < w.heap.size := by
  obtain ⟨A, cap, h1, h2⟩ := k
  exact Blk.lt h1
theorem ShakeAt.drewN {w : World} {g : Nat} {h q : Set3} {L : List Set3} (k : ShakeAt w g h q L) (n : Nat) : ShakeAt (w.drewN n) g h q L := k
theorem ShakeAt.alloc {w : World} {g : Nat} {h q : Set3} {L : List Set3} (k : ShakeAt w g h q L) (o : Obj) : ShakeAt (w.alloc o) g h q L := by
  obtain ⟨A, cap, h1, h2⟩ := k
  exact ⟨A, cap, Blk.alloc h1 o, h2.alloc o⟩

def NewedIn (w : World) (e : Ending) (w' : World) : Prop := ∃ g, e = .returned (.pointer (some ⟨g, 0, none⟩)) ∧ w.heap.size ≤ g ∧ ShakeIn w' g (64, 8, 4) (64, 8, 4) [] (fun _ => False) ∧ Below w.heap.size w w'
def Newed (w : World) (e : Ending) (w' : World) : Prop := ∃ g, e = .returned (.pointer (some ⟨g, 0, none⟩)) ∧ w.heap.size ≤ g ∧ ShakeAt w' g (64, 8, 4) (64, 8, 4) [] ∧ Below w.heap.size w w'

theorem new_in (w : World) : Calls Try.prog 5 #[] w (NewedIn w) := by
  go_enter Try.func5, Try.ntmps5
  go_wp2_with fail
  refine (first_any _).mono ?_
  rintro e w1 ⟨rfl, b1⟩
  go_wp2_with fail
  refine (first_any _).mono ?_
  rintro e w2 ⟨rfl, b2⟩
  go_wp2_with fail
  go_ret
  have B := b1.trans (b2.mono b1.size)
  exact ⟨_, rfl, B.size, ⟨none, 0, Blk.new _ _ _, Held.nil_ _ _ _, fun _ _ e => by cases e⟩, B.alloc B.size _⟩
theorem new_any (w : World) : Calls Try.prog 5 #[] w (Newed w) := (new_in w).mono fun e w' h => by
  obtain ⟨g, h1, h2, h3, h4⟩ := h
  exact ⟨g, h1, h2, h3.at_, h4⟩

theorem waiting_any (g : Nat) (h q : Set3) (L : List Set3) (w : World) (k : ShakeAt w g h q L) :
    Calls Try.prog 15 #[.pointer (some ⟨g, 0, none⟩)] w fun e w' => e = .returned (.int .i64 L.length) ∧ w = w' := by
  obtain ⟨A, cap, h1, h2⟩ := k
  have c6 := Blk.cell h1 6
  simp at c6
  go_enter Try.func15, Try.ntmps15
  go_wp2_with fail
  go_ret
  exact ⟨rfl, rfl⟩
theorem waiting_nil (w : World) :
    Calls Try.prog 15 #[.pointer none] w fun e w' => e = .returned (.int .i64 0) ∧ w = w' := by
  go_enter Try.func15, Try.ntmps15
  go_wp2_with fail
  go_ret
  exact ⟨rfl, rfl⟩

theorem holds_any (g : Nat) (h q : Set3) (L : List Set3) (w : World) (k : ShakeAt w g h q L) :
    Calls Try.prog 12 #[.pointer (some ⟨g, 0, none⟩)] w fun e w' => e = .returned (.agg #[.int .i64 h.1, .int .i64 h.2.1, .int .i64 h.2.2]) ∧ Below w.heap.size w w' := by
  obtain ⟨A, cap, h1, h2⟩ := k
  have hlt := Blk.lt h1
  have c0 := Blk.cell h1 0
  have c1 := Blk.cell h1 1
  have c2 := Blk.cell h1 2
  simp at c0 c1 c2
  go_enter Try.func12, Try.ntmps12
  go_wp2_with fail
  go_returns
  exact ⟨rfl, (Below.refl _ _).alloc (Nat.le_refl _) _⟩
theorem holds_nil (w : World) :
    Calls Try.prog 12 #[.pointer none] w fun e w' => e = .returned (.agg #[.int .i64 0, .int .i64 0, .int .i64 0]) ∧ Below w.heap.size w w' := by
  go_enter Try.func12, Try.ntmps12
  go_wp2_with fail
  go_returns
  exact ⟨rfl, (Below.refl _ _).alloc (Nat.le_refl _) _⟩
theorem most_any (g : Nat) (h q : Set3) (L : List Set3) (w : World) (k : ShakeAt w g h q L) :
    Calls Try.prog 14 #[.pointer (some ⟨g, 0, none⟩)] w fun e w' => e = .returned (.agg #[.int .i64 q.1, .int .i64 q.2.1, .int .i64 q.2.2]) ∧ Below w.heap.size w w' := by
  obtain ⟨A, cap, h1, h2⟩ := k
  have hlt := Blk.lt h1
  have c0 := Blk.cell h1 3
  have c1 := Blk.cell h1 4
  have c2 := Blk.cell h1 5
  simp at c0 c1 c2
  go_enter Try.func14, Try.ntmps14
  go_wp2_with fail
  go_returns
  exact ⟨rfl, (Below.refl _ _).alloc (Nat.le_refl _) _⟩
theorem most_nil (w : World) :
    Calls Try.prog 14 #[.pointer none] w fun e w' => e = .returned (.agg #[.int .i64 0, .int .i64 0, .int .i64 0]) ∧ Below w.heap.size w w' := by
  go_enter Try.func14, Try.ntmps14
  go_wp2_with fail
  go_returns
  exact ⟨rfl, (Below.refl _ _).alloc (Nat.le_refl _) _⟩

theorem flat3_length (L : List Set3) : (flat3 L).length = L.length * 3 := by
  induction L with
  | nil => rfl
  | cons p r ih => unfold flat3 at ih ⊢; simp [List.flatMap_cons, ih, Nat.succ_mul]
theorem flat3_get (L : List Set3) : ∀ (i : Nat) (h : i < L.length), (flat3 L)[i * 3]? = some (.int .i64 (L[i]'h).1) ∧ (flat3 L)[i * 3 + 1]? = some (.int .i64 (L[i]'h).2.1) ∧ (flat3 L)[i * 3 + 2]? = some (.int .i64 (L[i]'h).2.2) := by
  induction L with
  | nil => intro i h; simp at h
  | cons p r ih =>
    intro i h
    cases i with
    | zero => exact ⟨rfl, rfl, rfl⟩
    | succ j =>
      have hj : j < r.length := by simpa using h
      obtain ⟨h1, h2, h3⟩ := ih j hj
      unfold flat3 at h1 h2 h3 ⊢
      rw [List.flatMap_cons, show (j + 1) * 3 = (j * 3) + 1 + 1 + 1 by omega]
      exact ⟨h1, h2, h3⟩

/-- The last of what is on its way, or what holds. -/
def latest (h : Set3) (L : List Set3) : Set3 := L.getLast?.getD h

theorem latest_any (g : Nat) (h q : Set3) (L : List Set3) (w : World) (k : ShakeAt w g h q L) :
    Calls Try.prog 13 #[.pointer (some ⟨g, 0, none⟩)] w fun e w' => e = .returned (.agg #[.int .i64 (latest h L).1, .int .i64 (latest h L).2.1, .int .i64 (latest h L).2.2]) ∧ Below w.heap.size w w' := by
  rcases Nat.eq_zero_or_pos L.length with h0 | h0
  · have hL : L = [] := List.eq_nil_of_length_eq_zero h0
    subst hL
    have hk := k.alloc (.cells #[.int .i64 0, .int .i64 0, .int .i64 0] 27)
    clear h0
    go_enter Try.func13, Try.ntmps13
    go_wp2_with fail
    refine (waiting_any g h q [] _ hk).mono ?_
    rintro e w1 ⟨rfl, rfl⟩
    go_wp2_with fail
    refine (holds_any g h q [] _ hk).mono ?_
    rintro e w1 ⟨rfl, b1⟩
    have f0 : Blk w1 w.heap.size 27 #[.int .i64 0, .int .i64 0, .int .i64 0] := Blk.below (Blk.new _ _ _) b1 (by simp)
    have y0 := Blk.frozen f0 0
    have y1 := Blk.frozen f0 1
    have y2 := Blk.frozen f0 2
    have z0 := Blk.cell f0 0
    have z1 := Blk.cell f0 1
    have z2 := Blk.cell f0 2
    simp at z0 z1 z2
    go_wp2_with fail
    refine ret_cell3 (g := w.heap.size) rfl rfl rfl (Blk.set_ (Blk.set_ (Blk.set_ f0 0 (.int .i64 h.1)) 1 (.int .i64 h.2.1)) 2 (.int .i64 h.2.2)) (fun W' q0 q1 q2 => by simp [go_sem, q0, q1, q2]) ⟨rfl, ?_⟩
    exact (((((Below.refl _ _).alloc (Nat.le_refl _) _).trans (b1.mono (by simp))).setCell (p := ⟨w.heap.size, 0, none⟩) (by simp) _).setCell (p := ⟨w.heap.size, 1, none⟩) (by simp) _).setCell (p := ⟨w.heap.size, 2, none⟩) (by simp) _
  · obtain ⟨n, hn⟩ : ∃ n, L.length = n + 1 := ⟨L.length - 1, by omega⟩
    have hlast : latest h L = L[n]'(by omega) := by
      unfold latest
      rw [List.getLast?_eq_getElem?, show L.length - 1 = n by omega, List.getElem?_eq_getElem (by omega)]
      rfl
    rw [hlast]
    have hw := fun (W : World) (hW : ShakeAt W g h q L) => waiting_any g h q L W hW
    have hk := k.alloc (.cells #[.int .i64 0, .int .i64 0, .int .i64 0] 27)
    obtain ⟨A, cap, h1, h2⟩ := k
    obtain ⟨g1, g2, g3⟩ := flat3_get L n (by omega)
    obtain ⟨b, off, rfl, hbl, c0⟩ := h2.at_ g1
    obtain ⟨b', off', hA', _, c1⟩ := h2.at_ g2
    obtain ⟨rfl, rfl⟩ : b = b' ∧ off = off' := by simpa using hA'
    obtain ⟨b', off', hA', _, c2⟩ := h2.at_ g3
    obtain ⟨rfl, rfl⟩ : b = b' ∧ off = off' := by simpa using hA'
    have hb6 := Blk.cell h1 6
    have hlt := Blk.lt h1
    have hcap1 := h2.2.1
    have hcap2 := h2.2.2.1
    simp at hb6
    rw [← Nat.add_assoc] at c1 c2
    generalize L[n].1 = x at *
    generalize L[n].2.1 = y at *
    generalize L[n].2.2 = z at *
    rw [hn] at hw hb6 hcap1
    have HW := Lib.hid hw
    have HK := Lib.hid hk
    clear hA' hw hk hlast h0 hn h1 h2 g1 g2 g3
    go_enter Try.func13, Try.ntmps13
    go_wp2_with fail
    refine (HW.out _ HK.out).mono ?_
    rintro e w1 ⟨rfl, rfl⟩
    go_wp2_with fail
    refine ret_cell3 (g := w.heap.size) rfl rfl rfl (Blk.new _ _ _) (fun W' q0 q1 q2 => by simp [go_sem, q0, q1, q2]) ⟨rfl, ?_⟩
    exact (Below.refl _ _).alloc (Nat.le_refl _) _

theorem latest_nil (w : World) :
    Calls Try.prog 13 #[.pointer none] w fun e w' => e = .returned (.agg #[.int .i64 0, .int .i64 0, .int .i64 0]) ∧ Below w.heap.size w w' := by
  go_enter Try.func13, Try.ntmps13
  go_wp2_with fail
  refine (waiting_nil _).mono ?_
  rintro e w1 ⟨rfl, rfl⟩
  go_wp2_with fail
  refine (holds_nil _).mono ?_
  rintro e w1 ⟨rfl, b1⟩
  have f0 : Blk w1 w.heap.size 27 #[.int .i64 0, .int .i64 0, .int .i64 0] := Blk.below (Blk.new _ _ _) b1 (by simp)
  have y0 := Blk.frozen f0 0
  have y1 := Blk.frozen f0 1
  have y2 := Blk.frozen f0 2
  have z0 := Blk.cell f0 0
  have z1 := Blk.cell f0 1
  have z2 := Blk.cell f0 2
  simp at z0 z1 z2
  go_wp2_with fail
  refine ret_cell3 (g := w.heap.size) rfl rfl rfl (Blk.set_ (Blk.set_ (Blk.set_ f0 0 (.int .i64 0)) 1 (.int .i64 0)) 2 (.int .i64 0)) (fun W' q0 q1 q2 => by simp [go_sem, q0, q1, q2]) ⟨rfl, ?_⟩
  exact (((((Below.refl _ _).alloc (Nat.le_refl _) _).trans (b1.mono (by simp))).setCell (p := ⟨w.heap.size, 0, none⟩) (by simp) _).setCell (p := ⟨w.heap.size, 1, none⟩) (by simp) _).setCell (p := ⟨w.heap.size, 2, none⟩) (by simp) _

/-! Ack. -/
def Acked (w : World) (g : Nat) (h x q : Set3) (r : List Set3) (e : Ending) (w' : World) : Prop :=
  e = .returned (.tuple #[.agg #[.int .i64 h.1, .int .i64 h.2.1, .int .i64 h.2.2], .agg #[.int .i64 x.1, .int .i64 x.2.1, .int .i64 x.2.2], .int .i64 0]) ∧ ShakeAt w' g x q r ∧ Only [g] w w'

theorem ack_nil (w : World) :
    Calls Try.prog 7 #[.pointer none] w fun e w' => e = .returned (.tuple #[.agg #[.int .i64 0, .int .i64 0, .int .i64 0], .agg #[.int .i64 0, .int .i64 0, .int .i64 0], .int .i64 2]) ∧ Below w.heap.size w w' := by
  go_enter Try.func7, Try.ntmps7
  go_wp2_with fail
  refine ret_cell33_tmp (g := w.heap.size) (g' := w.heap.size + 1) rfl rfl rfl (Blk.alloc (Blk.new _ _ _) _) rfl (by simpa using Blk.new (w.alloc _) _ _) (fun W' b u v s q0 q1 q2 => by simp [go_sem, q0, q1, q2]) ⟨rfl, ?_⟩
  exact ((Below.refl _ _).alloc (Nat.le_refl _) _).alloc (by simp) _
theorem ack_none (g : Nat) (h q : Set3) (w : World) (k : ShakeAt w g h q []) :
    Calls Try.prog 7 #[.pointer (some ⟨g, 0, none⟩)] w fun e w' => e = .returned (.tuple #[.agg #[.int .i64 0, .int .i64 0, .int .i64 0], .agg #[.int .i64 0, .int .i64 0, .int .i64 0], .int .i64 1]) ∧ Below w.heap.size w w' := by
  obtain ⟨A, cap, h1, h2⟩ := k
  have hlt := Blk.lt h1
  have c6 := Blk.cell h1 6
  simp at c6
  go_enter Try.func7, Try.ntmps7
  go_wp2_with fail
  refine ret_cell33_tmp (g := w.heap.size) (g' := w.heap.size + 1) rfl rfl rfl (Blk.alloc (Blk.new _ _ _) _) rfl (by simpa using Blk.new (w.alloc _) _ _) (fun W' b u v s q0 q1 q2 => by simp [go_sem, q0, q1, q2]) ⟨rfl, ?_⟩
  exact ((Below.refl _ _).alloc (Nat.le_refl _) _).alloc (by simp) _
def AckedIn (w : World) (g : Nat) (h x q : Set3) (r : List Set3) (F : Nat → Prop) (e : Ending) (w' : World) : Prop :=
  e = .returned (.tuple #[.agg #[.int .i64 h.1, .int .i64 h.2.1, .int .i64 h.2.2], .agg #[.int .i64 x.1, .int .i64 x.2.1, .int .i64 x.2.2], .int .i64 0]) ∧ ShakeIn w' g x q r F ∧ Only [g] w w'
theorem ack_in (g : Nat) (h x q : Set3) (r : List Set3) (F : Nat → Prop) (w : World) (k : ShakeIn w g h q (x :: r) F) :
    Calls Try.prog 7 #[.pointer (some ⟨g, 0, none⟩)] w (AckedIn w g h x q r F) := by
  obtain ⟨A, cap, h1, h2, hF⟩ := k
  obtain ⟨b, off, rfl, hbl, x0⟩ := h2.at_ (j := 0) (u := .int .i64 x.1) rfl
  obtain ⟨b', off', hA', _, x1⟩ := h2.at_ (j := 1) (u := .int .i64 x.2.1) rfl
  obtain ⟨rfl, rfl⟩ : b = b' ∧ off = off' := by simpa using hA'
  obtain ⟨b', off', hA', _, x2⟩ := h2.at_ (j := 2) (u := .int .i64 x.2.2) rfl
  obtain ⟨rfl, rfl⟩ : b = b' ∧ off = off' := by simpa using hA'
  have hlt := Blk.lt h1
  have hcap1 := h2.2.1
  have hcap2 := h2.2.2.1
  have c0 := Blk.cell h1 0
  have c1 := Blk.cell h1 1
  have c2 := Blk.cell h1 2
  have c6 := Blk.cell h1 6
  have f0 := Blk.frozen h1 0
  have f1 := Blk.frozen h1 1
  have f2 := Blk.frozen h1 2
  have f6 := Blk.frozen h1 6
  have hne : b ≠ g := by
    rintro rfl
    obtain ⟨b', off', cur, hA, hb, _⟩ := h2.2.2.2.2 (by simp)
    obtain ⟨rfl, rfl⟩ : b = b' ∧ off = off' := by simpa using hA
    exact absurd rfl (Blk.ne_ (t := 27) (t' := 45) hb h1 (by decide))
  simp at c0 c1 c2 c6 hcap1
  rw [Nat.add_zero] at x0
  clear hA'
  have q1 : g < w.heap.size + 1 := by omega
  have q2 : g < w.heap.size + 1 + 1 := by omega
  have q3 : b < w.heap.size + 1 := by omega
  have q4 : b < w.heap.size + 1 + 1 := by omega
  have ht := Held.tail_ (x := [.int .i64 x.1, .int .i64 x.2.1, .int .i64 x.2.2]) (rest := flat3 r) h2 rfl
  by_cases hc1 : cap = 1
  · subst hc1
    obtain rfl : r = [] := List.eq_nil_of_length_eq_zero (by omega)
    rw [if_pos rfl] at ht
    go_enter Try.func7, Try.ntmps7
    go_wp2_with fail
    go_region
    go_wp2_with fail
    have d1 := Blk.set_ (Blk.set_ (Blk.set_ (Blk.set_ h1 0 (.int .i64 x.1)) 1 (.int .i64 x.2.1)) 2 (.int .i64 x.2.2)) 6 (.slice (some ⟨b, off, none⟩) 0 0)
    have o1 : Only [g] w _ := ((((Only.refl [g] w).setCell (p := ⟨g, 0, none⟩) (.inl (by simp)) (.int .i64 x.1)).setCell (p := ⟨g, 1, none⟩) (.inl (by simp)) (.int .i64 x.2.1)).setCell (p := ⟨g, 2, none⟩) (.inl (by simp)) (.int .i64 x.2.2)).setCell (p := ⟨g, 6, none⟩) (.inl (by simp)) (.slice (some ⟨b, off, none⟩) 0 0)
    have s1 : ((((w.setCell ⟨g, 0, none⟩ (.int .i64 x.1)).setCell ⟨g, 1, none⟩ (.int .i64 x.2.1)).setCell ⟨g, 2, none⟩ (.int .i64 x.2.2)).setCell ⟨g, 6, none⟩ (.slice (some ⟨b, off, none⟩) 0 0)).heap.size = w.heap.size := by simp [World.setCell]
    have t1 := Held.only ht o1 (fun k hk _ => by simp at hk; subst hk; exact ⟨_, _, _, h1, by decide⟩)
    generalize (((w.setCell ⟨g, 0, none⟩ (.int .i64 x.1)).setCell ⟨g, 1, none⟩ (.int .i64 x.2.1)).setCell ⟨g, 2, none⟩ (.int .i64 x.2.2)).setCell ⟨g, 6, none⟩ (.slice (some ⟨b, off, none⟩) 0 0) = W4 at *
    refine ret_cell33_tmp (g := w.heap.size) (g' := w.heap.size + 1) rfl rfl rfl (by rw [← s1]; exact Blk.alloc (Blk.alloc (Blk.new W4 _ _) _) _) rfl (by rw [← s1]; exact Blk.alloc (by simpa using Blk.new (W4.alloc _) _ _) _) (fun W' b u v s q0 q1 q2 => by simp [go_sem, q0, q1, q2]) ⟨rfl, ⟨_, _, Blk.alloc (Blk.alloc (Blk.alloc d1 _) _) _, ((t1.alloc _).alloc _).alloc _, fun b' off' e => by injection e with e; injection e with e1 e2; exact hF b' off (by rw [e1])⟩, (((o1.alloc _).alloc _).alloc _).drew⟩
  · rw [if_neg hc1] at ht
    go_enter Try.func7, Try.ntmps7
    go_wp2_with fail
    go_region
    go_wp2_with fail
    have d1 := Blk.set_ (Blk.set_ (Blk.set_ (Blk.set_ h1 0 (.int .i64 x.1)) 1 (.int .i64 x.2.1)) 2 (.int .i64 x.2.2)) 6 (.slice (some ⟨b, off + 3, none⟩) r.length (cap - 1))
    have o1 : Only [g] w _ := ((((Only.refl [g] w).setCell (p := ⟨g, 0, none⟩) (.inl (by simp)) (.int .i64 x.1)).setCell (p := ⟨g, 1, none⟩) (.inl (by simp)) (.int .i64 x.2.1)).setCell (p := ⟨g, 2, none⟩) (.inl (by simp)) (.int .i64 x.2.2)).setCell (p := ⟨g, 6, none⟩) (.inl (by simp)) (.slice (some ⟨b, off + 3, none⟩) r.length (cap - 1))
    have s1 : ((((w.setCell ⟨g, 0, none⟩ (.int .i64 x.1)).setCell ⟨g, 1, none⟩ (.int .i64 x.2.1)).setCell ⟨g, 2, none⟩ (.int .i64 x.2.2)).setCell ⟨g, 6, none⟩ (.slice (some ⟨b, off + 3, none⟩) r.length (cap - 1))).heap.size = w.heap.size := by simp [World.setCell]
    have t1 := Held.only ht o1 (fun k hk _ => by simp at hk; subst hk; exact ⟨_, _, _, h1, by decide⟩)
    generalize (((w.setCell ⟨g, 0, none⟩ (.int .i64 x.1)).setCell ⟨g, 1, none⟩ (.int .i64 x.2.1)).setCell ⟨g, 2, none⟩ (.int .i64 x.2.2)).setCell ⟨g, 6, none⟩ (.slice (some ⟨b, off + 3, none⟩) r.length (cap - 1)) = W4 at *
    refine ret_cell33_tmp (g := w.heap.size) (g' := w.heap.size + 1) rfl rfl rfl (by rw [← s1]; exact Blk.alloc (Blk.alloc (Blk.new W4 _ _) _) _) rfl (by rw [← s1]; exact Blk.alloc (by simpa using Blk.new (W4.alloc _) _ _) _) (fun W' b u v s q0 q1 q2 => by simp [go_sem, q0, q1, q2]) ⟨rfl, ⟨_, _, Blk.alloc (Blk.alloc (Blk.alloc d1 _) _) _, ((t1.alloc _).alloc _).alloc _, fun b' off' e => by injection e with e; injection e with e1 e2; exact hF b' off (by rw [e1])⟩, (((o1.alloc _).alloc _).alloc _).drew⟩
theorem ack_any (g : Nat) (h x q : Set3) (r : List Set3) (w : World) (k : ShakeAt w g h q (x :: r)) :
    Calls Try.prog 7 #[.pointer (some ⟨g, 0, none⟩)] w (Acked w g h x q r) := (ack_in g h x q r _ w k.in_).mono fun e w' h => ⟨h.1, h.2.1.at_, h.2.2⟩
end Go.Proofs.Ytdegdikkjaifiaa
