/- The walks of package ids. -/
import Derived.Test.YtnpkcoaofcbckaaRows
import Derived.WalkKit
import Derived.ProofKit
import Derived.Test.YtnpkcoaofcbckaaMem
import Derived.Deep.QuietTactic
import Derived.BigQuiet
import Derived.Deep.RegionWith
import Derived.WalkLawsBesides
namespace Go.Proofs.Ytnpkcoaofcbckaa
open Go.RowKit
set_option linter.unusedVariables false

def IDs (w : World) (g : Nat) (side next last : Int) : Prop := Blk w g 40 #[.int .i64 side, .int .i64 next, .int .i64 last]

/-- Is a number a side's? -/
def ofB (side id : Int) : Bool := decide (1 ≤ id ∧ id ≤ 2147483647 ∧ id % 2 = 1 - side)

theorem new_yes (side : Int) (w : World) (h : side = 0 ∨ side = 1) :
    Calls Try.prog 6 #[.int .i64 side] w fun e w' => e = .returned (.tuple #[.pointer (some ⟨w.heap.size, 0, none⟩), .int .i64 0]) ∧ IDs w' w.heap.size side (side + 1) 0 ∧ Below w.heap.size w w' := by
  rcases h with rfl | rfl
  · go_enter Try.func6, Try.ntmps6
    go_wp2
    go_ret2
    exact ⟨rfl, Blk.new _ _ _, (Below.refl _ _).alloc (Nat.le_refl _) _⟩
  · go_enter Try.func6, Try.ntmps6
    go_wp2
    go_ret2
    exact ⟨rfl, Blk.new _ _ _, (Below.refl _ _).alloc (Nat.le_refl _) _⟩

theorem new_no (side : Int) (w : World) (h0 : ¬ side = 0) (h1 : ¬ side = 1) :
    Calls Try.prog 6 #[.int .i64 side] w fun e w' => e = .returned (.tuple #[.pointer none, .int .i64 2]) ∧ w = w' := by
  have e0 : (side != 0) = true := by simp [h0]
  have e1 : (side != 1) = true := by simp [h1]
  clear h0 h1
  go_enter Try.func6, Try.ntmps6
  go_wp2
  go_ret2
  exact ⟨rfl, rfl⟩

theorem odd_fn (b : Nat) (id : Int) (w : World) (h : w.cell? ⟨b, 0, none⟩ = some (.int .i64 id)) (h0 : 0 ≤ id) :
    Calls Try.prog 17 #[.pointer (some ⟨b, 0, none⟩)] w fun e w' => e = .returned (.bool (id % 2 == 1)) ∧ w = w' := by
  go_enter Try.func17, Try.ntmps17
  go_wp2
  go_ret
  exact ⟨rfl, rfl⟩

theorem of_any (side id : Int) (w : World) (hs : side = 0 ∨ side = 1) :
    Calls Try.prog 16 #[.int .i64 side, .int .i64 id] w fun e w' => e = .returned (.bool (ofB side id)) ∧ Below w.heap.size w w' := by
  by_cases h1 : id < 1
  · rw [show ofB side id = false by simp [ofB]; omega]
    clear hs
    go_enter Try.func16, Try.ntmps16
    go_wp2
    go_ret
    exact ⟨rfl, (Below.refl _ _).alloc (Nat.le_refl _) _⟩
  · by_cases h2 : 2147483647 < id
    · rw [show ofB side id = false by simp [ofB]; omega]
      clear hs
      go_enter Try.func16, Try.ntmps16
      go_wp2
      go_ret
      exact ⟨rfl, (Below.refl _ _).alloc (Nat.le_refl _) _⟩
    · have h3 : 1 ≤ id := by omega
      have h4 : id ≤ 2147483647 := by omega
      clear h1 h2
      have hO := fun (b : Nat) (W : World) (hW : W.cell? ⟨b, 0, none⟩ = some (.int .i64 id)) => odd_fn b id W hW (by omega)
      rcases (by omega : id % 2 = 0 ∨ id % 2 = 1) with hp | hp
      · rw [show (id % 2 == 1) = false by simp [hp]] at hO
        have HO := Lib.hid hO
        clear hO
        rcases hs with rfl | rfl
        · rw [show ofB 0 id = false by simp [ofB]; omega]
          clear hp
          go_enter Try.func16, Try.ntmps16
          go_wp2_with fail
          refine (HO.out _ _ (by go_simp)).mono ?_
          rintro e w1 ⟨rfl, rfl⟩
          go_wp2_with fail
          go_ret
          exact ⟨rfl, (Below.refl _ _).alloc (Nat.le_refl _) _⟩
        · rw [show ofB 1 id = true by simp [ofB]; omega]
          clear hp
          go_enter Try.func16, Try.ntmps16
          go_wp2_with fail
          refine (HO.out _ _ (by go_simp)).mono ?_
          rintro e w1 ⟨rfl, rfl⟩
          go_wp2_with fail
          go_ret
          exact ⟨rfl, (Below.refl _ _).alloc (Nat.le_refl _) _⟩
      · rw [show (id % 2 == 1) = true by simp [hp]] at hO
        have HO := Lib.hid hO
        clear hO
        rcases hs with rfl | rfl
        · rw [show ofB 0 id = true by simp [ofB]; omega]
          clear hp
          go_enter Try.func16, Try.ntmps16
          go_wp2_with fail
          refine (HO.out _ _ (by go_simp)).mono ?_
          rintro e w1 ⟨rfl, rfl⟩
          go_wp2_with fail
          go_ret
          exact ⟨rfl, (Below.refl _ _).alloc (Nat.le_refl _) _⟩
        · rw [show ofB 1 id = false by simp [ofB]; omega]
          clear hp
          go_enter Try.func16, Try.ntmps16
          go_wp2_with fail
          refine (HO.out _ _ (by go_simp)).mono ?_
          rintro e w1 ⟨rfl, rfl⟩
          go_wp2_with fail
          go_ret
          exact ⟨rfl, (Below.refl _ _).alloc (Nat.le_refl _) _⟩

theorem rof_any (side id : Int) (w : World) (hs : side = 0 ∨ side = 1) :
    Calls Try.prog 12 #[.int .i64 side, .int .i64 id] w fun e w' => e = .returned (.bool (ofB side id)) ∧ w = w' := by
  by_cases h1 : id < 1
  · rw [show ofB side id = false by simp [ofB]; omega]
    clear hs
    go_enter Try.func12, Try.ntmps12
    go_wp2
    go_ret
    exact ⟨rfl, rfl⟩
  · by_cases h2 : 2147483647 < id
    · rw [show ofB side id = false by simp [ofB]; omega]
      clear hs
      go_enter Try.func12, Try.ntmps12
      go_wp2
      go_ret
      exact ⟨rfl, rfl⟩
    · rw [show ofB side id = (id % 2 == 1 - side) by unfold ofB; rw [Bool.eq_iff_iff]; simp; omega]
      have hs1 : 0 ≤ side := by omega
      have hs2 : side ≤ 1 := by omega
      clear hs
      go_enter Try.func12, Try.ntmps12
      go_wp2
      go_ret
      exact ⟨rfl, rfl⟩

theorem mine_any (g : Nat) (side next last id : Int) (w : World) (hb : IDs w g side next last) (hs : side = 0 ∨ side = 1) :
    Calls Try.prog 10 #[.pointer (some ⟨g, 0, none⟩), .int .i64 id] w fun e w' => e = .returned (.bool (ofB side id)) ∧ Below w.heap.size w w' := by
  have c0 := Blk.cell hb 0
  simp at c0
  have hO := fun W => of_any side id W hs
  generalize ofB side id = x at *
  have HO := Lib.hid hO
  clear hO hs
  go_enter Try.func10, Try.ntmps10
  go_wp2_with fail
  refine (HO.out _).mono ?_
  rintro e w1 ⟨rfl, hb1⟩
  go_wp2_with fail
  go_ret
  exact ⟨rfl, hb1⟩
theorem mine_nil (id : Int) (w : World) :
    Calls Try.prog 10 #[.pointer none, .int .i64 id] w fun e w' => e = .returned (.bool false) ∧ w = w' := by
  go_enter Try.func10, Try.ntmps10
  go_wp2_with fail
  go_ret
  exact ⟨rfl, rfl⟩

theorem use_yes (g : Nat) (side next last : Int) (w : World) (hb : IDs w g side next last) (h0 : 0 ≤ next) (h : next ≤ 2147483647) :
    Calls Try.prog 8 #[.pointer (some ⟨g, 0, none⟩)] w fun e w' => e = .returned (.tuple #[.int .i64 next, .int .i64 0]) ∧ IDs w' g side (next + 2) last ∧ Only [g] w w' := by
  have c1 := Blk.cell hb 1
  have f1 := Blk.frozen hb 1
  simp at c1
  go_enter Try.func8, Try.ntmps8
  go_wp2
  go_ret2
  exact ⟨ret2_int (by omega) rfl, Blk.set_ hb 1 _, (Only.refl _ _).setCell (.inl (by simp)) _⟩
theorem use_limit (g : Nat) (side next last : Int) (w : World) (hb : IDs w g side next last) (h : 2147483647 < next) :
    Calls Try.prog 8 #[.pointer (some ⟨g, 0, none⟩)] w fun e w' => e = .returned (.tuple #[.int .i64 0, .int .i64 16]) ∧ w = w' := by
  have c1 := Blk.cell hb 1
  simp at c1
  go_enter Try.func8, Try.ntmps8
  go_wp2
  go_ret2
  exact ⟨rfl, rfl⟩
theorem use_nil (w : World) :
    Calls Try.prog 8 #[.pointer none] w fun e w' => e = .returned (.tuple #[.int .i64 0, .int .i64 1]) ∧ w = w' := by
  go_enter Try.func8, Try.ntmps8
  go_wp2
  go_ret2
  exact ⟨rfl, rfl⟩

theorem next_any (g : Nat) (side next last : Int) (w : World) (hb : IDs w g side next last) :
    Calls Try.prog 14 #[.pointer (some ⟨g, 0, none⟩)] w fun e w' => e = .returned (.int .i64 next) ∧ w = w' := by
  have c1 := Blk.cell hb 1
  simp at c1
  go_enter Try.func14, Try.ntmps14
  go_wp2
  go_ret
  exact ⟨rfl, rfl⟩
theorem next_nil (w : World) :
    Calls Try.prog 14 #[.pointer none] w fun e w' => e = .returned (.int .i64 0) ∧ w = w' := by
  go_enter Try.func14, Try.ntmps14
  go_wp2
  go_ret
  exact ⟨rfl, rfl⟩
theorem last_any (g : Nat) (side next last : Int) (w : World) (hb : IDs w g side next last) :
    Calls Try.prog 15 #[.pointer (some ⟨g, 0, none⟩)] w fun e w' => e = .returned (.int .i64 last) ∧ w = w' := by
  have c1 := Blk.cell hb 2
  simp at c1
  go_enter Try.func15, Try.ntmps15
  go_wp2
  go_ret
  exact ⟨rfl, rfl⟩
theorem last_nil (w : World) :
    Calls Try.prog 15 #[.pointer none] w fun e w' => e = .returned (.int .i64 0) ∧ w = w' := by
  go_enter Try.func15, Try.ntmps15
  go_wp2
  go_ret
  exact ⟨rfl, rfl⟩

theorem skip_yes (g : Nat) (side next last id : Int) (w : World) (hb : IDs w g side next last) (hs : side = 0 ∨ side = 1) (h0 : ofB side id = true) (h : next ≤ id) (h2 : id ≤ 2147483647) :
    Calls Try.prog 13 #[.pointer (some ⟨g, 0, none⟩), .int .i64 id] w fun e w' => e = .returned (.int .i64 0) ∧ IDs w' g side (id + 2) last ∧ Only [g] w w' := by
  have hM := fun W (hW : IDs W g side next last) => mine_any g side next last id W hW hs
  rw [h0] at hM
  have HM := Lib.hid hM
  have hid1 : 1 ≤ id := by simp [ofB] at h0; omega
  clear hM h0 hs
  have hlt := Blk.lt hb
  go_enter Try.func13, Try.ntmps13
  go_wp2_with fail
  refine (HM.out _ hb).mono ?_
  rintro e w1 ⟨rfl, hb1⟩
  have d1 : IDs w1 g side next last := Blk.below hb hb1 hlt
  have c1 := Blk.cell d1 1
  have f1 := Blk.frozen d1 1
  simp at c1
  go_wp2_with fail
  go_ret
  exact ⟨rfl, Blk.set_ d1 1 _, (Only.of_below hb1).setCell (.inl (by simp)) _⟩
theorem skip_range (g : Nat) (side next last id : Int) (w : World) (hb : IDs w g side next last) (hs : side = 0 ∨ side = 1) (h0 : ofB side id = true) (h : id < next) :
    Calls Try.prog 13 #[.pointer (some ⟨g, 0, none⟩), .int .i64 id] w fun e w' => e = .returned (.int .i64 3) ∧ Below w.heap.size w w' := by
  have hM := fun W (hW : IDs W g side next last) => mine_any g side next last id W hW hs
  rw [h0] at hM
  have HM := Lib.hid hM
  clear hM h0 hs
  have hlt := Blk.lt hb
  go_enter Try.func13, Try.ntmps13
  go_wp2_with fail
  refine (HM.out _ hb).mono ?_
  rintro e w1 ⟨rfl, hb1⟩
  have d1 : IDs w1 g side next last := Blk.below hb hb1 hlt
  have c1 := Blk.cell d1 1
  simp at c1
  go_wp2_with fail
  go_ret
  exact ⟨rfl, hb1⟩
theorem skip_arg (g : Nat) (side next last id : Int) (w : World) (hb : IDs w g side next last) (hs : side = 0 ∨ side = 1) (h0 : ofB side id = false) :
    Calls Try.prog 13 #[.pointer (some ⟨g, 0, none⟩), .int .i64 id] w fun e w' => e = .returned (.int .i64 2) ∧ Below w.heap.size w w' := by
  have hM := fun W (hW : IDs W g side next last) => mine_any g side next last id W hW hs
  rw [h0] at hM
  have HM := Lib.hid hM
  clear hM h0 hs
  go_enter Try.func13, Try.ntmps13
  go_wp2_with fail
  refine (HM.out _ hb).mono ?_
  rintro e w1 ⟨rfl, hb1⟩
  go_wp2_with fail
  go_ret
  exact ⟨rfl, hb1⟩
theorem skip_nil (id : Int) (w : World) :
    Calls Try.prog 13 #[.pointer none, .int .i64 id] w fun e w' => e = .returned (.int .i64 1) ∧ w = w' := by
  go_enter Try.func13, Try.ntmps13
  go_wp2_with fail
  go_ret
  exact ⟨rfl, rfl⟩

theorem peer_yes (g : Nat) (side next last id : Int) (w : World) (hb : IDs w g side next last) (hs : side = 0 ∨ side = 1) (h0 : ofB (1 - side) id = true) (h : last < id) :
    Calls Try.prog 9 #[.pointer (some ⟨g, 0, none⟩), .int .i64 id] w fun e w' => e = .returned (.int .i64 0) ∧ IDs w' g side next id ∧ Only [g] w w' := by
  have hM := fun W => of_any (1 - side) id W (by omega)
  rw [h0] at hM
  have HM := Lib.hid hM
  have hs1 : 0 ≤ side := by omega
  have hs2 : side ≤ 1 := by omega
  clear hM h0 hs
  have hlt := Blk.lt hb
  have c0 := Blk.cell hb 0
  simp at c0
  go_enter Try.func9, Try.ntmps9
  go_wp2_with fail
  refine (HM.out _).mono ?_
  rintro e w1 ⟨rfl, hb1⟩
  have d1 : IDs w1 g side next last := Blk.below hb hb1 hlt
  have c1 := Blk.cell d1 2
  have f1 := Blk.frozen d1 2
  simp at c1
  go_wp2_with fail
  go_ret
  exact ⟨rfl, Blk.set_ d1 2 _, (Only.of_below hb1).setCell (.inl (by simp)) _⟩
theorem peer_no (g : Nat) (side next last id : Int) (w : World) (hb : IDs w g side next last) (hs : side = 0 ∨ side = 1) (h0 : ofB (1 - side) id = false ∨ id ≤ last) :
    Calls Try.prog 9 #[.pointer (some ⟨g, 0, none⟩), .int .i64 id] w fun e w' => e = .returned (.int .i64 1) ∧ Below w.heap.size w w' := by
  have hM := fun W => of_any (1 - side) id W (by omega)
  have hs1 : 0 ≤ side := by omega
  have hs2 : side ≤ 1 := by omega
  have hlt := Blk.lt hb
  have c0 := Blk.cell hb 0
  simp at c0
  cases ho : ofB (1 - side) id with
  | false =>
    rw [ho] at hM
    have HM := Lib.hid hM
    clear hM h0 hs ho
    go_enter Try.func9, Try.ntmps9
    go_wp2_with fail
    refine (HM.out _).mono ?_
    rintro e w1 ⟨rfl, hb1⟩
    go_wp2_with fail
    go_ret
    exact ⟨rfl, hb1⟩
  | true =>
    rw [ho] at hM h0
    have h1 : id ≤ last := by simpa using h0
    have HM := Lib.hid hM
    clear hM h0 hs ho
    go_enter Try.func9, Try.ntmps9
    go_wp2_with fail
    refine (HM.out _).mono ?_
    rintro e w1 ⟨rfl, hb1⟩
    have d1 : IDs w1 g side next last := Blk.below hb hb1 hlt
    have c1 := Blk.cell d1 2
    simp at c1
    go_wp2_with fail
    go_ret
    exact ⟨rfl, hb1⟩
theorem peer_nil (id : Int) (w : World) :
    Calls Try.prog 9 #[.pointer none, .int .i64 id] w fun e w' => e = .returned (.int .i64 2) ∧ w = w' := by
  go_enter Try.func9, Try.ntmps9
  go_wp2_with fail
  go_ret
  exact ⟨rfl, rfl⟩

/-- Was a number opened, or passed over? -/
def pastB (side next last id : Int) : Bool := if ofB side id then decide (id < next) else ofB (1 - side) id && decide (id ≤ last)
theorem past_any (g : Nat) (side next last id : Int) (w : World) (hb : IDs w g side next last) (hs : side = 0 ∨ side = 1) :
    Calls Try.prog 11 #[.pointer (some ⟨g, 0, none⟩), .int .i64 id] w fun e w' => e = .returned (.bool (pastB side next last id)) ∧ Below w.heap.size w w' := by
  by_cases h1 : id < 1
  · rw [show pastB side next last id = false by unfold pastB; rw [show ofB side id = false by simp [ofB]; omega, show ofB (1 - side) id = false by simp [ofB]; omega]; rfl]
    clear hs
    go_enter Try.func11, Try.ntmps11
    go_wp2_with fail
    go_ret
    exact ⟨rfl, Below.refl _ _⟩
  · by_cases h2 : 2147483647 < id
    · rw [show pastB side next last id = false by unfold pastB; rw [show ofB side id = false by simp [ofB]; omega, show ofB (1 - side) id = false by simp [ofB]; omega]; rfl]
      clear hs
      go_enter Try.func11, Try.ntmps11
      go_wp2_with fail
      go_ret
      exact ⟨rfl, Below.refl _ _⟩
    · have hM := fun W (hW : IDs W g side next last) => mine_any g side next last id W hW hs
      have hlt := Blk.lt hb
      cases ho : ofB side id with
      | true =>
        rw [show pastB side next last id = decide (id < next) by simp [pastB, ho]]
        rw [ho] at hM
        have HM := Lib.hid hM
        clear hM hs ho
        go_enter Try.func11, Try.ntmps11
        go_wp2_with fail
        refine (HM.out _ hb).mono ?_
        rintro e w1 ⟨rfl, hb1⟩
        have d1 : IDs w1 g side next last := Blk.below hb hb1 hlt
        have c1 := Blk.cell d1 1
        simp at c1
        go_wp2_with fail
        go_ret
        exact ⟨rfl, hb1⟩
      | false =>
        have ho2 : ofB (1 - side) id = true := by simp [ofB] at ho ⊢; omega
        rw [show pastB side next last id = decide (id ≤ last) by simp [pastB, ho, ho2]]
        rw [ho] at hM
        have HM := Lib.hid hM
        clear hM hs ho ho2
        go_enter Try.func11, Try.ntmps11
        go_wp2_with fail
        refine (HM.out _ hb).mono ?_
        rintro e w1 ⟨rfl, hb1⟩
        have d1 : IDs w1 g side next last := Blk.below hb hb1 hlt
        have c1 := Blk.cell d1 2
        simp at c1
        go_wp2_with fail
        go_ret
        exact ⟨rfl, hb1⟩
theorem past_nil (id : Int) (w : World) :
    Calls Try.prog 11 #[.pointer none, .int .i64 id] w fun e w' => e = .returned (.bool false) ∧ w = w' := by
  go_enter Try.func11, Try.ntmps11
  go_wp2_with fail
  go_ret
  exact ⟨rfl, rfl⟩

theorem awake_any (w : World) :
    Calls Try.prog 7 #[] w fun e w' => e = .returned (.bool true) ∧ Below w.heap.size w w' := by
  go_enter Try.func7, Try.ntmps7
  go_wp2_with fail
  refine (new_yes 0 _ (.inl rfl)).mono ?_
  rintro e w1 ⟨rfl, d1, b1⟩
  rw [show (0 : Int) + 1 = 1 by decide] at d1
  go_wp2_with fail
  refine (use_yes _ 0 1 0 _ d1 (by omega) (by omega)).mono ?_
  rintro e w2 ⟨rfl, d2, o2⟩
  rw [show (1 : Int) + 2 = 3 by decide] at d2
  have b2 := bonly b1 o2 (by simp)
  go_wp2_with fail
  refine (use_yes _ 0 3 0 _ d2 (by omega) (by omega)).mono ?_
  rintro e w3 ⟨rfl, d3, o3⟩
  rw [show (3 : Int) + 2 = 5 by decide] at d3
  have b3 := bonly b2 o3 (by simp)
  go_wp2_with fail
  refine (peer_yes _ 0 5 0 4 _ d3 (.inl rfl) (by decide) (by omega)).mono ?_
  rintro e w4 ⟨rfl, d4, o4⟩
  have b4 := bonly b3 o4 (by simp)
  go_wp2_with fail
  refine (peer_no _ 0 5 4 2 _ d4 (.inl rfl) (.inr (by omega))).mono ?_
  rintro e w5 ⟨rfl, hb5⟩
  have d5 : IDs w5 w.heap.size 0 5 4 := Blk.below d4 hb5 (Blk.lt d4)
  have b5 := b4.trans (hb5.mono b4.size)
  go_wp2_with fail
  refine (last_any _ 0 5 4 _ d5).mono ?_
  rintro e w6 ⟨rfl, rfl⟩
  go_wp2_with fail
  go_ret
  exact ⟨rfl, b5⟩
end Go.Proofs.Ytnpkcoaofcbckaa
