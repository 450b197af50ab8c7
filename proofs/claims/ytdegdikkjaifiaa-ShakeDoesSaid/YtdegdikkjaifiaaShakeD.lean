/- The state of the law of shaking: the shake, and the law's own four. -/
import Derived.Test.YtdegdikkjaifiaaShakeL
namespace Go.Proofs.Ytdegdikkjaifiaa
open Go.RowKit
open Go.WideShapes Go.ChangeShapes Go.Deep
set_option linter.unusedVariables false
def cells3 (h : Set3) : Array Value := #[.int .i64 h.1, .int .i64 h.2.1, .int .i64 h.2.2]
/-- The shake (g: what holds, the greatest, what is on its way), and what the law keeps: v5 in g5, v6 in g6, v7 in g7, the way W. -/
structure ShG (base : Nat) (w : World) (g g5 g6 g7 : Nat) (h q : Set3) (L : List Set3) (v5 v6 v7 : Set3) (W : List Set3) (A : Option Addr) (c : Nat) : Prop where
  sh : ∃ F : Nat → Prop, ShakeIn w g h q L F ∧ ∀ b, F b → b < w.heap.size ∧ b ≠ g5 ∧ b ≠ g6 ∧ b ≠ g7 ∧ ∀ a off, A = some ⟨a, off, none⟩ → b ≠ a
  b5 : Blk w g5 27 (cells3 v5)
  b6 : Blk w g6 27 (cells3 v6)
  b7 : Blk w g7 27 (cells3 v7)
  way : OwnO w base 27 3 A W.length c (flat3 W)
  awy : ∀ a off, A = some ⟨a, off, none⟩ → a ≠ g5 ∧ a ≠ g6 ∧ a ≠ g7
  n56 : g5 ≠ g6
  n57 : g5 ≠ g7
  n67 : g6 ≠ g7
  bas : base ≤ g ∧ base ≤ g5 ∧ base ≤ g6 ∧ base ≤ g7
/-- Where both are alike. -/
def ShJ (base : Nat) (w : World) (g g5 g6 g7 : Nat) (h q : Set3) (L : List Set3) (A : Option Addr) (c : Nat) : Prop :=
  ShG base w g g5 g6 g7 h q L h q (latest h L) L A c ∧ L.length ≤ 4
section
variable {base : Nat} {w w' : World} {g g5 g6 g7 : Nat} {h q v5 v6 v7 : Set3} {L W : List Set3} {A : Option Addr} {c : Nat}
theorem ShG.below (k : ShG base w g g5 g6 g7 h q L v5 v6 v7 W A c) (hb : Below w.heap.size w w') : ShG base w' g g5 g6 g7 h q L v5 v6 v7 W A c := by
  obtain ⟨⟨F, s, hF⟩, b5, b6, b7, way, awy, n1, n2, n3, bs⟩ := k
  have hg := s.at_.lt
  exact ⟨⟨F, s.keep (hb.block g hg) (fun b hb' => hb.block b (hF b hb').1), fun b hb' => ⟨Nat.lt_of_lt_of_le (hF b hb').1 hb.size, (hF b hb').2⟩⟩, b5.below hb b5.lt, b6.below hb b6.lt, b7.below hb b7.lt, way.below hb, awy, n1, n2, n3, bs⟩
theorem ShG.at_ (k : ShG base w g g5 g6 g7 h q L v5 v6 v7 W A c) : ShakeAt w g h q L := by
  obtain ⟨F, s, _⟩ := k.sh
  exact s.at_
theorem ShG.drewN (k : ShG base w g g5 g6 g7 h q L v5 v6 v7 W A c) (n : Nat) : ShG base (w.drewN n) g g5 g6 g7 h q L v5 v6 v7 W A c := k.below (below_drewN (Below.refl _ _) n)
theorem ShG.alloc (k : ShG base w g g5 g6 g7 h q L v5 v6 v7 W A c) (o : Obj) : ShG base (w.alloc o) g g5 g6 g7 h q L v5 v6 v7 W A c := k.below ((Below.refl _ _).alloc (Nat.le_refl _) o)
theorem ShJ.below (k : ShJ base w g g5 g6 g7 h q L A c) (hb : Below w.heap.size w w') : ShJ base w' g g5 g6 g7 h q L A c := ⟨k.1.below hb, k.2⟩
theorem ShJ.alloc (k : ShJ base w g g5 g6 g7 h q L A c) (o : Obj) : ShJ base (w.alloc o) g g5 g6 g7 h q L A c := ⟨k.1.alloc o, k.2⟩
theorem ShJ.cap (k : ShJ base w g g5 g6 g7 h q L A c) : L.length ≤ c ∧ c ≤ 9223372036854775807 := ⟨k.1.way.1.2.1, k.1.way.1.2.2.1⟩
theorem ShJ.start {g5 g6 g7 : Nat} (k : ShakeIn w g (64, 8, 4) (64, 8, 4) [] (fun _ => False)) (hb : base ≤ w.heap.size) (hg : base ≤ g)
    (h5 : g5 = w.heap.size ∨ g5 = w.heap.size + 1 ∨ g5 = w.heap.size + 1 + 1) (h6 : g6 = w.heap.size ∨ g6 = w.heap.size + 1 ∨ g6 = w.heap.size + 1 + 1) (h7 : g7 = w.heap.size ∨ g7 = w.heap.size + 1 ∨ g7 = w.heap.size + 1 + 1)
    (n1 : g5 ≠ g6) (n2 : g5 ≠ g7) (n3 : g6 ≠ g7) :
    ShJ base (((w.alloc (.cells #[.int .i64 64, .int .i64 8, .int .i64 4] 27)).alloc (.cells #[.int .i64 64, .int .i64 8, .int .i64 4] 27)).alloc (.cells #[.int .i64 64, .int .i64 8, .int .i64 4] 27)).drew g g5 g6 g7 (64, 8, 4) (64, 8, 4) [] none 0 := by
  have B : Below w.heap.size w (((w.alloc (.cells #[.int .i64 64, .int .i64 8, .int .i64 4] 27)).alloc (.cells #[.int .i64 64, .int .i64 8, .int .i64 4] 27)).alloc (.cells #[.int .i64 64, .int .i64 8, .int .i64 4] 27)).drew := ((((Below.refl _ _).alloc (Nat.le_refl _) _).alloc (by simp) _).alloc (by simp; omega) _).drew
  have key : ∀ x, (x = w.heap.size ∨ x = w.heap.size + 1 ∨ x = w.heap.size + 1 + 1) → Blk (((w.alloc (.cells #[.int .i64 64, .int .i64 8, .int .i64 4] 27)).alloc (.cells #[.int .i64 64, .int .i64 8, .int .i64 4] 27)).alloc (.cells #[.int .i64 64, .int .i64 8, .int .i64 4] 27)).drew x 27 (cells3 (64, 8, 4)) := by
    intro x hx
    refine Blk.drew ?_
    rcases hx with rfl | rfl | rfl
    · exact Blk.alloc (Blk.alloc (Blk.new w _ _) _) _
    · have := Blk.alloc (Blk.new (w.alloc (.cells #[.int .i64 64, .int .i64 8, .int .i64 4] 27)) 27 #[.int .i64 64, .int .i64 8, .int .i64 4]) (.cells #[.int .i64 64, .int .i64 8, .int .i64 4] 27)
      rw [World.size_alloc] at this
      exact this
    · have := Blk.new ((w.alloc (.cells #[.int .i64 64, .int .i64 8, .int .i64 4] 27)).alloc (.cells #[.int .i64 64, .int .i64 8, .int .i64 4] 27)) 27 #[.int .i64 64, .int .i64 8, .int .i64 4]
      rw [World.size_alloc, World.size_alloc] at this
      exact this
  exact ⟨⟨⟨fun _ => False, k.keep (B.block g k.at_.lt) (fun b e => e.elim), fun b e => e.elim⟩, key _ h5, key _ h6, key _ h7, OwnO.nil_ _ _ _ _, fun a off e => (by cases e), n1, n2, n3, ⟨hg, by omega, by omega, by omega⟩⟩, by simp⟩
theorem latest_cons (h x : Set3) (r : List Set3) : latest h (x :: r) = latest x r := by
  unfold latest
  rw [List.getLast?_cons]
  rfl
theorem latest_snoc (h x : Set3) (L : List Set3) : latest h (L ++ [x]) = x := by
  unfold latest
  rw [List.getLast?_append]
  rfl

theorem ShG.blk (k : ShG base w g g5 g6 g7 h q L v5 v6 v7 W A c) : ∃ cs, Blk w g 45 cs := by
  obtain ⟨F, ⟨A, cap, h1, _⟩, _⟩ := k.sh
  exact ⟨_, h1⟩
theorem ShG.ne (k : ShG base w g g5 g6 g7 h q L v5 v6 v7 W A c) {y : Nat} {cs : Array Value} (hy : Blk w y 27 cs) : y ∉ [g] := by
  intro hm
  simp at hm
  subst hm
  obtain ⟨_, h1⟩ := k.blk
  exact Blk.ne_ h1 hy (by decide) rfl
theorem ShG.neA (k : ShG base w g g5 g6 g7 h q L v5 v6 v7 W A c) {a off : Nat} (hA : A = some ⟨a, off, none⟩) : a ∉ [g] := by
  rcases k.way.2.2 with hn | ⟨g', off', cur, hA', _, hh, _⟩
  · rw [hn] at hA; cases hA
  · rw [hA] at hA'
    injection hA' with hA'
    injection hA' with e1 e2
    subst e1
    exact k.ne (cs := cur) hh
/-- A call of the shake alone. -/
theorem ShG.only {h' q' : Set3} {L' : List Set3} {F : Nat → Prop} (k : ShG base w g g5 g6 g7 h q L v5 v6 v7 W A c) (o : Only [g] w w') (s : ShakeIn w' g h' q' L' F)
    (hF : ∀ b, F b → b < w'.heap.size ∧ b ≠ g5 ∧ b ≠ g6 ∧ b ≠ g7 ∧ ∀ a off, A = some ⟨a, off, none⟩ → b ≠ a) : ShG base w' g g5 g6 g7 h' q' L' v5 v6 v7 W A c := by
  have k5 := k.ne k.b5
  have k6 := k.ne k.b6
  have k7 := k.ne k.b7
  have kA := fun a off => k.neA (a := a) (off := off)
  obtain ⟨_, b5, b6, b7, way, awy, n1, n2, n3, bs⟩ := k
  exact ⟨⟨F, s, hF⟩, b5.only o k5, b6.only o k6, b7.only o k7, way.keepA fun a off hA => o.block a (way.ltA hA).1 (kA a off hA), awy, n1, n2, n3, bs⟩
def set3 (w : World) (g : Nat) (x : Set3) : World := ((w.setCell ⟨g, 0, none⟩ (.int .i64 x.1)).setCell ⟨g, 1, none⟩ (.int .i64 x.2.1)).setCell ⟨g, 2, none⟩ (.int .i64 x.2.2)
theorem set3_size (w : World) (g : Nat) (x : Set3) : (set3 w g x).heap.size = w.heap.size := by simp [set3, World.setCell]
theorem set3_other (w : World) (g : Nat) (x : Set3) (y : Nat) (hy : y ≠ g) : (set3 w g x).heap[y]? = w.heap[y]? := by
  unfold set3
  rw [Below.heap_setCell _ _ _ y hy, Below.heap_setCell _ _ _ y hy, Below.heap_setCell _ _ _ y hy]
theorem Blk.set3 {y : Set3} {t : TypeId} (k : Blk w g t (cells3 y)) (x : Set3) : Blk (set3 w g x) g t (cells3 x) := Blk.set_ (Blk.set_ (Blk.set_ k 0 _) 1 _) 2 _
theorem below_set3 {w0 : World} (k : Below base w0 w) (hg : base ≤ g) (x : Set3) : Below base w0 (set3 w g x) := ((k.setCell (p := ⟨g, 0, none⟩) hg _).setCell (p := ⟨g, 1, none⟩) hg _).setCell (p := ⟨g, 2, none⟩) hg _
theorem ShG.set_ (k : ShG base w g g5 g6 g7 h q L v5 v6 v7 W A c) {y : Nat} (hy : y = g5 ∨ y = g6 ∨ y = g7) (x : Set3) : ShG base (set3 w y x) g g5 g6 g7 h q L (if y = g5 then x else v5) (if y = g6 then x else v6) (if y = g7 then x else v7) W A c := by
  obtain ⟨gs, gb⟩ := k.blk
  have hgy : g ≠ y := by
    rcases hy with rfl | rfl | rfl
    · exact Blk.ne_ gb k.b5 (by decide)
    · exact Blk.ne_ gb k.b6 (by decide)
    · exact Blk.ne_ gb k.b7 (by decide)
  obtain ⟨⟨F, s, hF⟩, b5, b6, b7, way, awy, n1, n2, n3, bs⟩ := k
  have ho := set3_other w y x
  refine ⟨⟨F, s.keep (ho g hgy) (fun b hb => ho b ?_), fun b hb => ?_⟩, ?_, ?_, ?_, way.keepA fun a off hA => ho a ?_, awy, n1, n2, n3, bs⟩
  · obtain ⟨_, f1, f2, f3, _⟩ := hF b hb
    rcases hy with rfl | rfl | rfl <;> assumption
  · rw [set3_size]; exact hF b hb
  · split
    · next e => subst e; exact Blk.set3 b5 x
    · next e => exact (ho g5 (Ne.symm e)).trans b5
  · split
    · next e => subst e; exact Blk.set3 b6 x
    · next e => exact (ho g6 (Ne.symm e)).trans b6
  · split
    · next e => subst e; exact Blk.set3 b7 x
    · next e => exact (ho g7 (Ne.symm e)).trans b7
  · obtain ⟨f1, f2, f3⟩ := awy a off hA
    rcases hy with rfl | rfl | rfl <;> assumption
theorem ShG.set5 (k : ShG base w g g5 g6 g7 h q L v5 v6 v7 W A c) (x : Set3) : ShG base (set3 w g5 x) g g5 g6 g7 h q L x v6 v7 W A c := by
  have := k.set_ (.inl rfl) x
  rwa [if_pos rfl, if_neg k.n56, if_neg k.n57] at this
theorem ShG.set6 (k : ShG base w g g5 g6 g7 h q L v5 v6 v7 W A c) (x : Set3) : ShG base (set3 w g6 x) g g5 g6 g7 h q L v5 x v7 W A c := by
  have := k.set_ (.inr (.inl rfl)) x
  rwa [if_pos rfl, if_neg (Ne.symm k.n56), if_neg k.n67] at this
theorem ShG.set7 (k : ShG base w g g5 g6 g7 h q L v5 v6 v7 W A c) (x : Set3) : ShG base (set3 w g7 x) g g5 g6 g7 h q L v5 v6 x W A c := by
  have := k.set_ (.inr (.inr rfl)) x
  rwa [if_pos rfl, if_neg (Ne.symm k.n57), if_neg (Ne.symm k.n67)] at this
/-- The front goes out of the way. -/
theorem ShG.front {x : Set3} {r : List Set3} {X : Option Addr} (k : ShG base w g g5 g6 g7 h q L v5 v6 v7 (x :: r) A c)
    (hX : OwnO w base 27 3 A (r.length + 1) c (flat3 (x :: r)) → OwnO w base 27 3 X (r.length + 1 - 1) (c - 1) ((flat3 (x :: r)).drop (1 * 3)) ∧ ∀ a off, X = some ⟨a, off, none⟩ → ∃ off', A = some ⟨a, off', none⟩) :
    ShG base w g g5 g6 g7 h q L v5 v6 v7 r X (c - 1) := by
  obtain ⟨⟨F, s, hF⟩, b5, b6, b7, way, awy, n1, n2, n3, bs⟩ := k
  obtain ⟨h1, h2⟩ := hX (by simpa using way)
  refine ⟨⟨F, s, fun b hb => ⟨(hF b hb).1, (hF b hb).2.1, (hF b hb).2.2.1, (hF b hb).2.2.2.1, fun a off hx => ?_⟩⟩, b5, b6, b7, h1, fun a off hx => ?_, n1, n2, n3, bs⟩
  · obtain ⟨off', hA⟩ := h2 a off hx
    exact (hF b hb).2.2.2.2 a off' hA
  · obtain ⟨off', hA⟩ := h2 a off hx
    exact awy a off' hA
/-- The way grows. -/
theorem ShG.grow {A' : Option Addr} {c' : Nat} {W' : List Set3} (k : ShG base w g g5 g6 g7 h q L v5 v6 v7 W A c) (hg : w.grownBy w' (Value.slice A W.length c).ownBlock) (hn : OwnO w' base 27 3 A' W'.length c' (flat3 W'))
    (hA' : ∀ a off, A' = some ⟨a, off, none⟩ → (∃ off', A = some ⟨a, off', none⟩) ∨ w.heap.size ≤ a) : ShG base w' g g5 g6 g7 h q L v5 v6 v7 W' A' c' := by
  have kA := fun a off => k.neA (a := a) (off := off)
  have hgl := k.at_.lt
  obtain ⟨⟨F, s, hF⟩, b5, b6, b7, way, awy, n1, n2, n3, bs⟩ := k
  have hob : ∀ a, (Value.slice A W.length c).ownBlock = some a → ∃ off, A = some ⟨a, off, none⟩ := by
    intro a ha
    rcases way.2.2 with hn | ⟨g', off', cur, hA, _⟩
    · rw [hn] at ha; simp [Value.ownBlock] at ha
    · subst hA
      have : g' = a := by simpa [Value.ownBlock] using ha
      subst this
      exact ⟨off', rfl⟩
  have nb : ∀ y, (∀ a off, A = some ⟨a, off, none⟩ → a ≠ y) → some y ≠ (Value.slice A W.length c).ownBlock := by
    intro y hy e
    obtain ⟨off, hA⟩ := hob y e.symm
    exact hy y off hA rfl
  refine ⟨⟨F, s.keep (hg.block g hgl (nb g fun a off hA e => kA a off hA (by simp [e]))) (fun b hb => hg.block b (hF b hb).1 (nb b fun a off hA e => (hF b hb).2.2.2.2 a off hA e.symm)), fun b hb => ⟨Nat.lt_of_lt_of_le (hF b hb).1 hg.size, (hF b hb).2.1, (hF b hb).2.2.1, (hF b hb).2.2.2.1, fun a off hx => ?_⟩⟩,
    b5.grown hg (nb g5 fun a off hA => (awy a off hA).1), b6.grown hg (nb g6 fun a off hA => (awy a off hA).2.1), b7.grown hg (nb g7 fun a off hA => (awy a off hA).2.2), hn, fun a off hx => ?_, n1, n2, n3, bs⟩
  · rcases hA' a off hx with ⟨off', hA⟩ | hl
    · exact (hF b hb).2.2.2.2 a off' hA
    · have := (hF b hb).1
      omega
  · rcases hA' a off hx with ⟨off', hA⟩ | hl
    · exact awy a off' hA
    · have := b5.lt
      have := b6.lt
      have := b7.lt
      omega
end
/-- Four blocks of settings. -/
def Four4 (w : World) (g5 g6 g7 G : Nat) (a b c d : Set3) : Prop := Blk w g5 27 (cells3 a) ∧ Blk w g6 27 (cells3 b) ∧ Blk w g7 27 (cells3 c) ∧ Blk w G 27 (cells3 d)
theorem Four4.below {w w' : World} {g5 g6 g7 G : Nat} {a b c d : Set3} (k : Four4 w g5 g6 g7 G a b c d) (hb : Below w.heap.size w w') : Four4 w' g5 g6 g7 G a b c d := ⟨k.1.below hb k.1.lt, k.2.1.below hb k.2.1.lt, k.2.2.1.below hb k.2.2.1.lt, k.2.2.2.below hb k.2.2.2.lt⟩
theorem cells_of {w : World} {g : Nat} {a : Set3} (k : Blk w g 27 (cells3 a)) : w.cell? ⟨g, 0, none⟩ = some (.int .i64 a.1) ∧ w.cell? ⟨g, 1, none⟩ = some (.int .i64 a.2.1) ∧ w.cell? ⟨g, 2, none⟩ = some (.int .i64 a.2.2) := ⟨Blk.cell k 0, Blk.cell k 1, Blk.cell k 2⟩
theorem frozen_of {w : World} {g : Nat} {a : Set3} (k : Blk w g 27 (cells3 a)) : w.frozen? ⟨g, 0, none⟩ = false ∧ w.frozen? ⟨g, 1, none⟩ = false ∧ w.frozen? ⟨g, 2, none⟩ = false := ⟨Blk.frozen k 0, Blk.frozen k 1, Blk.frozen k 2⟩
theorem latest_at (h : Set3) (L : List Set3) (n : Nat) (hn : L.length = n + 1) : latest h L = L[n]'(by omega) := by
  unfold latest
  rw [List.getLast?_eq_getElem?, show L.length - 1 = n by omega, List.getElem?_eq_getElem (by omega)]
  rfl
def SentD (w : World) (g : Nat) (h q : Set3) (L : List Set3) (to : Set3) (D : List (Int × Int)) (e : Ending) (w' : World) : Prop :=
  ∃ A c, e = .returned (.tuple #[.slice A D.length c, .int .i64 0]) ∧ Pairs w' A c D ∧ ShakeIn w' g h (hi3 q to) (L ++ [to]) (fun b => w.heap.size ≤ b ∧ b < w'.heap.size) ∧ Only [g] w w'
theorem send_d (g : Nat) (h q : Set3) (L : List Set3) (x y z : Int) (w : World) (k : ShakeAt w g h q L) (hr : rightB x y z = true) (hL : L.length < 4)
    (hx : -9223372036854775808 ≤ x ∧ x ≤ 9223372036854775807) (hy : -9223372036854775808 ≤ y ∧ y ≤ 9223372036854775807) (hz : -9223372036854775808 ≤ z ∧ z ≤ 9223372036854775807) :
    ∃ D : List (Int × Int), (Calls Try.prog 8 #[.pointer (some ⟨g, 0, none⟩), .agg #[.int .i64 x, .int .i64 y, .int .i64 z]] w (SentD w g h q L (x, y, z) D)) ∧
      ∀ (W : World) (A : Option Addr) (c : Nat), Pairs W A c D → Calls Try.prog 10 #[.agg #[.int .i64 (latest h L).1, .int .i64 (latest h L).2.1, .int .i64 (latest h L).2.2], .slice A D.length c] W (Applied W ((x, y, z), 0)) := by
  refine ⟨diffL (latest h L).1 (latest h L).2.1 (latest h L).2.2 x y z, send_in g h q L x y z w k hr hL hx hy hz, fun W A c hp => ?_⟩
  have := rapply_any (latest h L).1 (latest h L).2.1 (latest h L).2.2 A c _ W hp
  rwa [app_diff_ok _ _ _ _ _ _ hr] at this
theorem flat3_snoc (L : List Set3) (x : Set3) : flat3 (L ++ [x]) = flat3 L ++ [.int .i64 x.1, .int .i64 x.2.1, .int .i64 x.2.2] := by simp [flat3]
end Go.Proofs.Ytdegdikkjaifiaa
