/- The walks of package credit: find, line. -/
import Derived.Test.YtpbahmnlhckgbaaCred
import Derived.Deep.QuietTactic
import Derived.BigQuiet
import Derived.Deep.RegionWith
import Derived.Deep.RegionHeld3
import Derived.WalkLawsBesides
import Derived.WalkSmall
namespace Go.Proofs.Ytpbahmnlhckgbaa
open Go.RowKit
set_option linter.unusedVariables false
/-- The place of the first number that is not below x. -/
def Place (l : List Ln) (x : Int) (k : Nat) : Prop := k ≤ l.length ∧ (∀ (j : Nat) (hj : j < l.length), j < k → l[j].id < x) ∧ (∀ (j : Nat) (hj : j < l.length), k ≤ j → x ≤ l[j].id)
def Found (l : List Ln) (x : Int) (k : Nat) (b : Bool) : Prop := Place l x k ∧ (b = true ↔ ∃ h : k < l.length, l[k].id = x)
def FindIs (w : World) (l : List Ln) (x : Int) (e : Ending) (w' : World) : Prop := ∃ k b, e = .returned (.tuple #[.int .i64 (k : Nat), .bool b]) ∧ Found l x k b ∧ Below w.heap.size w w'
set_option maxHeartbeats 2000000 in
theorem bsearch_any (base g cw cap : Nat) (cn sp M x : Int) (A : Option Addr) (l : List Ln) (w : World) (k : Led base w g cw cn sp A cap l M) :
    Calls Try.prog 42 #[.slice A l.length cap, .int .i64 x, .func (.func 43) #[] #[]] w (FindIs w l x) := by
  have hlen := k.few
  have hcap := k.capb
  have hsrt := Lib.hid k.srt
  have HK := Lib.hid k
  clear k
  go_enter Try.func42, Try.ntmps42
  go_wp2_with fail
  go_loopw [9, 10] (fun lo hi wr => ∃ (a b : Nat), a ≤ b ∧ b ≤ l.length ∧ lo = .int .i64 a ∧ hi = .int .i64 b ∧ (∀ (j : Nat) (hj : j < l.length), j < a → l[j].id < x) ∧ (∀ (j : Nat) (hj : j < l.length), b ≤ j → x ≤ l[j].id) ∧ Below w.heap.size w wr) (fun lo hi _ => (intOf hi).toNat - (intOf lo).toNat)
  case atStart => exact ⟨0, l.length, by omega, by omega, rfl, rfl, fun j _ h => absurd h (by omega), fun j h h2 => absurd h (by omega), Below.refl _ _⟩
  case round =>
    obtain ⟨a, b, hab, hbl, rfl, rfl, hlo, hhi, b1⟩ := hrel
    have HB := Lib.hid (And.intro hlo (And.intro hhi b1))
    clear hlo hhi b1
    by_cases hlt : a < b
    · have hml : (a + b) / 2 < l.length := by omega
      have KR := Lib.hid (HK.out.below HB.out.2.2)
      obtain ⟨gb, hA, hgb, c0, c1, c2⟩ := KR.out.cells ((a + b) / 2) hml
      have hp0 := IntKind.wrap_i64
      have HSR := Lib.hid (fun (j : Nat) (hj : j < l.length) (h : j < (a + b) / 2) => hsrt.out j ((a + b) / 2) hj hml h)
      have HSR2 := Lib.hid (fun (j : Nat) (hj : j < l.length) (h : (a + b) / 2 < j) => hsrt.out ((a + b) / 2) j hml hj h)
      have HEQ := Lib.hid (fun (j : Nat) (hj : j < l.length) (h : j = (a + b) / 2) => show l[j].id = l[(a + b) / 2].id by subst h; rfl)
      generalize l[(a + b) / 2].id = y at *
      generalize l[(a + b) / 2].w = ww at *
      generalize l[(a + b) / 2].sp = ss at *
      subst hA
      clear hp0
      by_cases hd : y < x
      · go_wp2_with (go_at_call 43; refine (cmp_any _ _ _ _ _).mono ?_; rintro e w1 ⟨rfl, b1⟩; rw [cmpI_lt hd])
        have BN := Lib.hid (HB.out.2.2.trans (b1.mono HB.out.2.2.size))
        go_roundw
        case rel =>
          refine ⟨(a + b) / 2 + 1, b, by omega, hbl, ?_, rfl, fun j hj hjm => ?_, HB.out.2.1, BN.out⟩
          · rw [show ((a : Int) + (b : Int)) / 2 + 1 = (((a + b) / 2 + 1 : Nat) : Int) by omega]
          · rcases Nat.lt_or_ge j ((a + b) / 2) with h | h
            · have := HSR.out j hj h; omega
            · have := HEQ.out j hj (by omega); omega
        case measure => simp [intOf]; omega
      · have hge : Hid (0 ≤ cmpI y x) := by
          show 0 ≤ cmpI y x
          unfold cmpI; rw [if_neg hd]; split <;> omega
        have hge2 : Hid (¬ cmpI y x < 0) := Int.not_lt.2 hge.out
        have hyx : x ≤ y := by omega
        go_wp2_with (go_at_call 43; refine (cmp_any _ _ _ _ _).mono ?_; rintro e w1 ⟨rfl, b1⟩; have hge3 := hge2.out; generalize cmpI y x = q at *)
        have BN := Lib.hid (HB.out.2.2.trans (b1.mono HB.out.2.2.size))
        go_roundw
        case rel =>
          refine ⟨a, (a + b) / 2, by omega, by omega, rfl, ?_, HB.out.1, fun j hj hjm => ?_, BN.out⟩
          · rw [show ((a : Int) + (b : Int)) / 2 = (((a + b) / 2 : Nat) : Int) by omega]
          · rcases Nat.lt_or_ge ((a + b) / 2) j with h | h
            · have := HSR2.out j hj h; omega
            · have := HEQ.out j hj (by omega); omega
        case measure => simp [intOf]; omega
    · obtain rfl : a = b := by omega
      have HP : Hid (Place l x a) := ⟨hbl, HB.out.1, HB.out.2.1⟩
      have KR := Lib.hid (HK.out.below HB.out.2.2)
      by_cases hal : a < l.length
      · obtain ⟨gb, hA, hgb, c0, c1, c2⟩ := KR.out.cells a hal
        have hal' : (a : Int) < l.length := by omega
        have ha0 : (0 : Int) ≤ a := by omega
        have HX := Lib.hid (show l[a].id = l[a].id from rfl)
        have HPX : Hid (x ≤ l[a].id) := HP.out.2.2 a hal (Nat.le_refl _)
        have HFT : Hid (l[a].id = x → Found l x a true) := fun h => ⟨HP.out, by simp; exact ⟨hal, h⟩⟩
        have HFF : Hid (l[a].id ≠ x → Found l x a false) := fun h => ⟨HP.out, by simp; intro _; exact h⟩
        generalize l[a].id = y at *
        generalize l[a].w = ww at *
        generalize l[a].sp = ss at *
        subst hA
        by_cases he : y = x
        · subst he
          go_wp2_with (go_at_call 43; refine (cmp_any _ _ _ _ _).mono ?_; rintro e w1 ⟨rfl, b1⟩; rw [cmpI_eq])
          have BN := Lib.hid (HB.out.2.2.trans (b1.mono HB.out.2.2.size))
          go_ret2
          exact ⟨a, true, rfl, HFT.out (by trivial), BN.out⟩
        · have hq : Hid (cmpI y x = 1) := cmpI_gt (by have := HPX.out; omega)
          go_wp2_with (go_at_call 43; refine (cmp_any _ _ _ _ _).mono ?_; rintro e w1 ⟨rfl, b1⟩; rw [hq.out])
          have BN := Lib.hid (HB.out.2.2.trans (b1.mono HB.out.2.2.size))
          go_ret2
          exact ⟨a, false, rfl, HFF.out he, BN.out⟩
      · obtain rfl : a = l.length := by omega
        go_wp2_with fail
        go_ret2
        exact ⟨l.length, false, rfl, ⟨HP.out, by simp⟩, HB.out.2.2⟩
theorem find_any (base g cw cap : Nat) (cn sp M x : Int) (A : Option Addr) (l : List Ln) (w : World) (k : Led base w g cw cn sp A cap l M) :
    Calls Try.prog 22 #[.pointer (some ⟨g, 0, none⟩), .int .i64 x] w (FindIs w l x) := by
  have HF := Lib.hid (bsearch_any base g cw cap cn sp M x A l w k)
  have c2 := Blk.cell k.blk 2
  simp at c2
  clear k
  go_enter Try.func22, Try.ntmps22
  go_wp2_with fail
  refine HF.out.mono ?_
  rintro e w1 ⟨k, b, rfl, hf, b1⟩
  have HB := Lib.hid (And.intro hf b1)
  clear hf b1
  go_wp2_with fail
  go_ret2
  exact ⟨k, b, rfl, HB.out.1, HB.out.2⟩
theorem Found.no {l : List Ln} {x : Int} {k : Nat} (h : Found l x k false) (hs : Srt l) : ∀ (j : Nat) (hj : j < l.length), l[j].id ≠ x := by
  intro j hj he
  obtain ⟨⟨h1, h2, h3⟩, h4⟩ := h
  have h5 : ¬ ∃ h : k < l.length, l[k].id = x := fun hh => by have := h4.2 hh; cases this
  rcases Nat.lt_or_ge j k with h | h
  · have := h2 j hj h; omega
  · have hk : k < l.length := by omega
    have h6 := h3 k hk (Nat.le_refl _)
    rcases Nat.lt_or_ge k j with h7 | h7
    · have := hs k j hk hj h7; omega
    · obtain rfl : k = j := by omega
      exact h5 ⟨hk, he⟩
theorem Found.yes {l : List Ln} {x : Int} {k : Nat} (h : Found l x k true) : ∃ h : k < l.length, l[k].id = x := h.2.1 rfl
theorem srt_one {l : List Ln} (hs : Srt l) {i j : Nat} (hi : i < l.length) (hj : j < l.length) (e : l[i].id = l[j].id) : i = j := by
  rcases Nat.lt_trichotomy i j with h | h | h
  · have := hs i j hi hj h; omega
  · exact h
  · have := hs j i hj hi h; omega
/-- A stream's line: the address of its row, or none. -/
def LineIs (w : World) (A : Option Addr) (l : List Ln) (x : Int) (e : Ending) (w' : World) : Prop :=
  ((∃ (k : Nat) (hk : k < l.length) (gb : Nat), A = some ⟨gb, 0, none⟩ ∧ l[k].id = x ∧ e = .returned (.tuple #[.pointer (some ⟨gb, k * 3, none⟩), .int .i64 0])) ∨ ((∀ (j : Nat) (hj : j < l.length), l[j].id ≠ x) ∧ e = .returned (.tuple #[.pointer none, .int .i64 7]))) ∧ Below w.heap.size w w'
theorem line_any (base g cw cap : Nat) (cn sp M x : Int) (A : Option Addr) (l : List Ln) (w : World) (k : Led base w g cw cn sp A cap l M) :
    Calls Try.prog 26 #[.pointer (some ⟨g, 0, none⟩), .int .i64 x] w (LineIs w A l x) := by
  have HF := Lib.hid (find_any base g cw cap cn sp M x A l w k)
  have HK := Lib.hid k
  have hlen := k.few
  have hcap := k.capb
  clear k
  go_enter Try.func26, Try.ntmps26
  go_wp2_with fail
  refine HF.out.mono ?_
  rintro e w1 ⟨k, b, rfl, hf, b1⟩
  have HK1 := Lib.hid (HK.out.below b1)
  have HB := Lib.hid b1
  clear b1
  cases b with
  | false =>
    have HN := Lib.hid (hf.no HK.out.srt)
    clear hf
    go_wp2_with fail
    go_ret2
    exact ⟨.inr ⟨HN.out, rfl⟩, HB.out⟩
  | true =>
    obtain ⟨hk, hx⟩ := hf.yes
    have HX := Lib.hid hx
    obtain ⟨gb, hA, hgb, _⟩ := HK1.out.cells k hk
    have c2 := Blk.cell HK1.out.blk 2
    simp at c2
    have hk0 : (0 : Int) ≤ k := by omega
    have hk1 : (k : Int) < l.length := by omega
    subst hA
    clear hf hx
    go_wp2_with fail
    go_ret2
    exact ⟨.inl ⟨k, hk, gb, rfl, HX.out, rfl⟩, HB.out⟩
theorem line_nil (x : Int) (w : World) : Calls Try.prog 26 #[.pointer none, .int .i64 x] w fun e w' => e = .returned (.tuple #[.pointer none, .int .i64 1]) ∧ w = w' := by
  go_enter Try.func26, Try.ntmps26
  go_wp2_with fail
  go_ret2
  exact ⟨rfl, rfl⟩
end Go.Proofs.Ytpbahmnlhckgbaa
