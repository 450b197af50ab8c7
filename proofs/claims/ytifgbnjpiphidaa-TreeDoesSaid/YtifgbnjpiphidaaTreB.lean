/- The walks of the answer's tree: Below, Depth, sort. -/
import Derived.Sort.LotA
import Derived.Test.YtifgbnjpiphidaaTreA
namespace Go.Proofs.Ytifgbnjpiphidaa
open Go.RowKit
set_option linter.unusedVariables false
theorem rfind_fix {h c : Nat} {x : Int} {B : Option Addr} {l : List Nd} (hu : Uq l) {p : Nd} (hg : getN l x = some p) : ∃ (i : Nat) (hi : i < l.length), l[i] = p ∧ ∀ W : World, Rt W h B c l → Calls Try.prog 35 #[.pointer (some ⟨h, 0, none⟩), .int .i64 x] W fun e w' => e = .returned (.int .i64 (i : Nat)) ∧ W = w' := by
  have hm := getN_mem hg
  obtain ⟨i, hi, hp⟩ := List.getElem_of_mem hm.1
  refine ⟨i, hi, hp, fun W k => ?_⟩
  rw [← hm.2, ← hp]
  exact rfind_at h c B l W k i hi hu
theorem dp_le2 {l : List Nd} {r : Int → Nat} (hu : Uq l) (hr : Rk l r) (x : Int) : dp l r x ≤ l.length := by
  have hx : ∀ n, ∀ x, dp l r x = n → n ≤ (ordD l r n).length := by
    intro n
    induction n with
    | zero => intro x _; omega
    | succ n ih =>
      intro x hx
      cases hg : getN l x with
      | none => rw [dp_none hg] at hx; omega
      | some p =>
        have h1 := dp_some hr hg
        have h2 := ih p.on (by omega)
        rw [ordD_succ, List.length_append]
        have h3 : x ∈ levL l r (n + 1) := (mem_lev hu).2 ⟨⟨p, hg⟩, hx⟩
        have h4 : 0 < (levL l r (n + 1)).length := List.length_pos_of_mem h3
        omega
  exact Nat.le_trans (hx _ x rfl) (ordD_length l r _)
theorem rbelow_any (h c : Nat) (B : Option Addr) (l : List Nd) (w : World) (k : Rt w h B c l) (r : Int → Nat) (hu : Uq l) (hr : Rk l r) (id high : Int) :
    Calls Try.prog 41 #[.pointer (some ⟨h, 0, none⟩), .int .i64 id, .int .i64 high] w fun e w' => (∃ v, e = .returned (.bool v) ∧ (v = true ↔ Abv l high id)) ∧ w = w' := by
  have HK := Lib.hid k
  have HU := Lib.hid (And.intro hu hr)
  have HD := Lib.hid (dp_le2 hu hr id)
  have hcap := k.capb
  have hfew := k.few
  have c0' := Blk.cell k.blk 0
  simp at c0'
  clear k hu hr
  go_enter Try.func41, Try.ntmps41
  go_wp2_with fail
  go_loop [1, 7] (fun xv nv => ∃ (x : Int) (n : Nat), xv = .int .i64 x ∧ nv = .int .i64 n ∧ (Abv l high id ↔ Abv l high x) ∧ n + dp l r x ≤ l.length) (fun _ nv => l.length + 1 - (intOf nv).toNat)
  case atStart => exact ⟨id, 0, rfl, rfl, Iff.rfl, by have := HD.out; omega⟩
  case round =>
    obtain ⟨x, n, rfl, rfl, ha, hn⟩ := hrel
    have HA := Lib.hid ha
    have hn0 : (0 : Int) ≤ n := by omega
    have hn1 : (n : Int) ≤ l.length := by omega
    have HN := Lib.hid hn
    clear ha hn
    cases hg : getN l x with
    | none =>
      have HF : Hid (¬ Abv l high id) := fun h => abv_none hg (HA.out.1 h)
      have HC := Lib.hid (rfind_no h c x B l w HK.out hg)
      clear hg
      go_wp2_with fail
      refine HC.out.mono ?_
      rintro e w1 ⟨rfl, rfl⟩
      go_wp2_with fail
      go_ret
      exact ⟨⟨false, rfl, by simp; exact HF.out⟩, rfl⟩
    | some p =>
      obtain ⟨i, hi, hp, hC⟩ := rfind_fix (h := h) (c := c) (B := B) HU.out.1 hg
      have HC := Lib.hid (hC w HK.out)
      have hdn : dp l r x = dp l r p.on + 1 := dp_some HU.out.2 hg
      have hn2 : n + 1 + dp l r p.on ≤ l.length := by have := HN.out; omega
      obtain ⟨b, off, hB, _, _, x1, _⟩ := HK.out.cells i hi
      rw [hp] at x1
      have hi0 : (0 : Int) ≤ i := by omega
      have hi1 : (i : Int) < l.length := by omega
      have HG := Lib.hid hg
      have HN2 := Lib.hid hn2
      clear hC hdn hg hp hn2
      subst hB
      by_cases he : p.on = high
      · have HF : Hid (Abv l high id) := HA.out.2 (.here HG.out he)
        have heq : (p.on == high) = true := by simp [he]
        clear he
        go_wp2_with fail
        refine HC.out.mono ?_
        rintro e w1 ⟨rfl, rfl⟩
        go_wp2_with fail
        go_ret
        exact ⟨⟨true, rfl, by simp; exact HF.out⟩, rfl⟩
      · have HF : Hid (Abv l high id ↔ Abv l high p.on) := HA.out.trans (abv_step HG.out he)
        have heq : (p.on == high) = false := by simp [he]
        clear he
        go_wp2_with fail
        refine HC.out.mono ?_
        rintro e w1 ⟨rfl, rfl⟩
        go_wp2_with fail
        go_round
        case rel => exact ⟨p.on, n + 1, rfl, by go_num, HF.out, HN2.out⟩
        case measure => simp [intOf]; omega
theorem rdepth_any (h c : Nat) (B : Option Addr) (l : List Nd) (w : World) (k : Rt w h B c l) (r : Int → Nat) (hu : Uq l) (hr : Rk l r) (id : Int) :
    Calls Try.prog 29 #[.pointer (some ⟨h, 0, none⟩), .int .i64 id] w fun e w' => e = .returned (.int .i64 (dp l r id)) ∧ ∃ q, w' = w.drewN q := by
  have HK := Lib.hid k
  have HU := Lib.hid (And.intro hu hr)
  have HD := Lib.hid (dp_le2 hu hr id)
  have hcap := k.capb
  have hfew := k.few
  have c0' := Blk.cell k.blk 0
  simp at c0'
  clear k hu hr
  go_enter Try.func29, Try.ntmps29
  go_wp2_with fail
  go_loopw [1, 5] (fun xv nv wr => ∃ (x : Int) (n q : Nat), xv = .int .i64 x ∧ nv = .int .i64 n ∧ wr = w.drewN q ∧ n + dp l r x = dp l r id) (fun _ nv _ => l.length + 1 - (intOf nv).toNat)
  case atStart => exact ⟨id, 0, 0, rfl, rfl, rfl, by omega⟩
  case round =>
    obtain ⟨x, n, q, rfl, rfl, rfl, hn⟩ := hrel
    have hn0 : (0 : Int) ≤ n := by omega
    have hn1 : (n : Int) ≤ l.length := by have := HD.out; omega
    have HN := Lib.hid hn
    clear hn
    cases hg : getN l x with
    | none =>
      have HF : Hid (n = dp l r id) := by
        have h := HN.out
        rw [dp_none hg] at h
        exact h
      have HC := Lib.hid (rfind_no h c x B l (w.drewN q) (HK.out.drewN q) hg)
      clear hg
      go_wp2_with fail
      refine HC.out.mono ?_
      rintro e w1 ⟨rfl, rfl⟩
      go_wp2_with fail
      go_ret
      exact ⟨by rw [← HF.out]; rfl, q, rfl⟩
    | some p =>
      obtain ⟨i, hi, hp, hC⟩ := rfind_fix (h := h) (c := c) (B := B) HU.out.1 hg
      have HC := Lib.hid (fun q => hC (w.drewN q) (HK.out.drewN q))
      have hdn : dp l r x = dp l r p.on + 1 := dp_some HU.out.2 hg
      have hn2 : n + 1 + dp l r p.on = dp l r id := by have := HN.out; omega
      obtain ⟨b, off, hB, _, _, x1, _⟩ := HK.out.cells i hi
      rw [hp] at x1
      have hi0 : (0 : Int) ≤ i := by omega
      have hi1 : (i : Int) < l.length := by omega
      have HN2 := Lib.hid hn2
      have hlen : n + 1 ≤ l.length := by have := HD.out; omega
      clear hC hdn hg hp hn2
      subst hB
      go_wp2_with fail
      refine (HC.out q).mono ?_
      rintro e w1 ⟨rfl, rfl⟩
      go_wp2_with fail
      go_quiet ((go_at_call 35; exact quiet_add_left (HC.out _)))
      go_wp2_with fail
      go_roundw
      case rel => exact ⟨p.on, n + 1, q + nq, rfl, by go_num, World.drewN_drewN w q nq, HN2.out⟩
      case measure => simp [intOf]; omega
end Go.Proofs.Ytifgbnjpiphidaa
