/- The walks of package credit: Resize. -/
import Derived.Test.YtpbahmnlhckgbaaCred6
import Derived.Deep.QuietTactic
import Derived.BigQuiet
import Derived.Deep.RegionWith
import Derived.Deep.RegionHeld3
import Derived.WalkLawsBesides
import Derived.WalkSmall
namespace Go.Proofs.Ytpbahmnlhckgbaa
open Go.RowKit
set_option linter.unusedVariables false
/-- May a window be changed by d? -/
def Fits (n d : Int) : Prop := -2147483647 ≤ n + d ∧ n + d ≤ 2147483647
instance (n d : Int) : Decidable (Fits n d) := by unfold Fits; infer_instance
def Win2 (a b : Int) : Prop := 0 ≤ a ∧ a ≤ 2147483647 ∧ 0 ≤ b ∧ b ≤ 2147483647
set_option maxHeartbeats 1000000 in
theorem try_any (ww p q : Nat) (x n s a b : Int) (c : Int) (w : World) (hw : Win w ww n) (ha : Blk w p 3 #[.int .i64 a]) (hb : Blk w q 3 #[.int .i64 b]) (h1 : -2147483647 ≤ n) (h2 : n ≤ 2147483647) (hab : Win2 a b) (hc : (Fits n (b - a) ∧ c = 0) ∨ (¬ Fits n (b - a) ∧ c = 10)) :
    Calls Try.prog 28 #[.agg #[.int .i64 x, .pointer (some ⟨ww, 0, none⟩), .int .i64 s], .pointer (some ⟨p, 0, none⟩), .pointer (some ⟨q, 0, none⟩)] w fun e w' => e = .returned (.int .i64 c) ∧ Below w.heap.size w w' := by
  have HW := Lib.hid hw
  have hpl := Blk.lt ha
  have hql := Blk.lt hb
  have HA := Lib.hid ha
  have HB := Lib.hid hb
  have HR : Hid (∀ (V : World) (v : Nat), Win V v n → Calls Try.prog 27 #[.pointer (some ⟨v, 0, none⟩), .int .i64 a, .int .i64 b] V fun e w' => e = .returned (.int .i64 c) ∧ Only [v] V w') := fun V v hV => by
    obtain ⟨ha1, ha2, hb1, hb2⟩ := hab
    rcases hc with ⟨hf, rfl⟩ | ⟨hf, rfl⟩
    · exact (resize_yes v n a b V hV h1 h2 ha1 ha2 hb1 hb2 hf.1 hf.2).mono fun e w' ⟨he, _, ho⟩ => ⟨he, ho⟩
    · refine (resize_over v n a b V hV h1 h2 ha1 ha2 hb1 hb2 (by unfold Fits at hf; omega)).mono ?_
      rintro e w' ⟨he, rfl⟩
      exact ⟨he, Only.refl _ _⟩
  clear hw ha hb hc hab h1 h2
  go_enter Try.func28, Try.ntmps28
  go_wp2_with fail
  have HN := Lib.hid (Blk.new w 60 #[.int .i64 x, .pointer (some ⟨ww, 0, none⟩), .int .i64 s])
  have HW1 := Lib.hid (HW.out.alloc (.cells #[.int .i64 x, .pointer (some ⟨ww, 0, none⟩), .int .i64 s] 60))
  have HA1 := Lib.hid (HA.out.alloc (.cells #[.int .i64 x, .pointer (some ⟨ww, 0, none⟩), .int .i64 s] 60))
  have HB1 := Lib.hid (HB.out.alloc (.cells #[.int .i64 x, .pointer (some ⟨ww, 0, none⟩), .int .i64 s] 60))
  have HBL := Lib.hid ((Below.refl w.heap.size w).alloc (Nat.le_refl _) (.cells #[.int .i64 x, .pointer (some ⟨ww, 0, none⟩), .int .i64 s] 60))
  generalize w.alloc (.cells #[.int .i64 x, .pointer (some ⟨ww, 0, none⟩), .int .i64 s] 60) = w1 at *
  have cp := Blk.cell HA1.out 0
  have cq := Blk.cell HB1.out 0
  have cn := Blk.cell HN.out 1
  simp at cp cq cn
  have lp := Blk.lt HA1.out
  have lq := Blk.lt HB1.out
  have ln := Blk.lt HN.out
  have hs := HBL.out.size
  go_region_held3 (fun w' => w'.cell? ⟨p, 0, none⟩ = some (.int .i64 a) ∧ w'.cell? ⟨q, 0, none⟩ = some (.int .i64 b) ∧ w'.cell? ⟨w.heap.size, 1, none⟩ = some (.pointer (some ⟨ww, 0, none⟩)))
    (first
      | go_keep
      | (refine ⟨?_, ?_, ?_⟩ <;> with_reducible assumption))
    ((first
      | (go_at_call 29
         refine (copy_any ww n _ (by exact HW1.out.drewN 1)).mono ?_
         rintro e w2 ⟨rfl, hw2, b2'⟩
         have b2 : Below w1.heap.size w1 w2 := ⟨b2'.os, b2'.tape, b2'.output, b2'.size, b2'.block⟩
         have kp := (b2.cell (p := ⟨p, 0, none⟩) lp).trans cp
         have kq := (b2.cell (p := ⟨q, 0, none⟩) lq).trans cq
         have kn := (b2.cell (p := ⟨w.heap.size, 1, none⟩) ln).trans cn
         have H2 := Lib.hid (And.intro hw2 b2)
         clear hw2 b2 b2')
      | (go_at_call 27
         refine (HR.out _ _ (by exact H2.out.1)).mono ?_
         rintro e w3 ⟨rfl, o3⟩
         have b3 : Below w1.heap.size w1 w3 := H2.out.2.trans (o3.below H2.out.2.size (by simp))
         have mp := (b3.cell (p := ⟨p, 0, none⟩) lp).trans cp
         have mq := (b3.cell (p := ⟨q, 0, none⟩) lq).trans cq
         have mn := (b3.cell (p := ⟨w.heap.size, 1, none⟩) ln).trans cn
         have H3 := Lib.hid b3
         clear o3 b3)))
  go_wp2_with fail
  go_ret
  exact ⟨rfl, HBL.out.trans (H3.out.mono hs)⟩
theorem none_new (w : World) : Calls Try.prog 20 #[.int .i64 0] w fun e w' => e = .returned (.tuple #[.pointer (some ⟨w.heap.size, 0, none⟩), .int .i64 0]) ∧ Win w' w.heap.size 0 ∧ Below w.heap.size w w' := new_yes 0 w (by decide) (by decide)
/-- The first j windows changed by d. -/
def rzk (l : List Ln) (d : Int) : Nat → List Ln
  | 0 => l
  | j + 1 => if h : j < l.length then chg (rzk l d j) j (l[j].n + d) l[j].sp else rzk l d j
theorem rzk_length (l : List Ln) (d : Int) : ∀ j, (rzk l d j).length = l.length
  | 0 => rfl
  | j + 1 => by
    unfold rzk
    split
    · rw [chg_length]; exact rzk_length l d j
    · exact rzk_length l d j
theorem rzk_get (l : List Ln) (d : Int) : ∀ (j i : Nat) (hi : i < (rzk l d j).length) (hi' : i < l.length), (rzk l d j)[i] = if i < j then ⟨l[i].id, l[i].w, l[i].n + d, l[i].sp⟩ else l[i]
  | 0, i, hi, hi' => by rw [if_neg (by omega)]; rfl
  | j + 1, i, hi, hi' => by
    have ih := rzk_get l d j
    by_cases h : j < l.length
    · have e : rzk l d (j + 1) = chg (rzk l d j) j (l[j].n + d) l[j].sp := by rw [rzk, dif_pos h]
      have hi2 : i < (rzk l d j).length := by rw [rzk_length]; exact hi'
      have e2 : (rzk l d (j + 1))[i] = (chg (rzk l d j) j (l[j].n + d) l[j].sp)[i]'(by rw [chg_length]; exact hi2) := by simp only [e]
      rw [e2, chg_get i _ hi2, ih i hi2 hi']
      by_cases hij : j = i
      · subst hij
        rw [if_pos rfl, if_neg (by omega), if_pos (by omega)]
      · rw [if_neg hij]
        by_cases hlt : i < j
        · rw [if_pos hlt, if_pos (by omega)]
        · rw [if_neg hlt, if_neg (by omega)]
    · have e : rzk l d (j + 1) = rzk l d j := by rw [rzk, dif_neg h]
      have hi2 : i < (rzk l d j).length := by rw [rzk_length]; exact hi'
      have e2 : (rzk l d (j + 1))[i] = (rzk l d j)[i] := by simp only [e]
      rw [e2, ih i hi2 hi', if_pos (by omega), if_pos (by omega)]
def rz (l : List Ln) (d : Int) : List Ln := l.map fun x => ⟨x.id, x.w, x.n + d, x.sp⟩
theorem rzk_all (l : List Ln) (d : Int) : rzk l d l.length = rz l d := by
  apply List.ext_getElem (by simp [rzk_length, rz])
  intro i h1 h2
  have h3 : i < l.length := by simpa [rz] using h2
  rw [rzk_get l d l.length i h1 h3, if_pos h3]
  simp [rz]
section
variable (base g cw cap : Nat) (cn sp M : Int) (A : Option Addr) (l : List Ln) (w : World) (k : Led base w g cw cn sp A cap l M)
include k
set_option maxHeartbeats 1000000 in
theorem rsz_arg (a b : Int) (h : a < 0 ∨ 2147483647 < a ∨ b < 0 ∨ 2147483647 < b) : Calls Try.prog 12 #[.pointer (some ⟨g, 0, none⟩), .int .i64 a, .int .i64 b] w fun e w' => e = .returned (.int .i64 2) ∧ Below w.heap.size w w' := by
  have HR := Lib.hid (fun (V : World) (v : Nat) => resize_arg v a b V h)
  have HK := Lib.hid k
  have hfew := k.few
  have hcap := k.capb
  have xa := Blk.alloc (Blk.new w 3 #[.int .i64 a]) (.cells #[.int .i64 b] 3)
  have xb := Blk.new (w.alloc (.cells #[.int .i64 a] 3)) 3 #[.int .i64 b]
  simp only [World.size_alloc] at xb
  have B0 : Below w.heap.size w ((w.alloc (.cells #[.int .i64 a] 3)).alloc (.cells #[.int .i64 b] 3)) := ((Below.refl _ _).alloc (Nat.le_refl _) _).alloc (by simp) _
  have H0 := Lib.hid (And.intro xa (And.intro xb B0))
  clear h k xa xb B0
  go_enter Try.func12, Try.ntmps12
  go_wp2_with fail
  generalize (w.alloc (.cells #[.int .i64 a] 3)).alloc (.cells #[.int .i64 b] 3) = W at *
  go_step3
  go_wp2_with fail
  refine (none_new W).mono ?_
  rintro e w1 ⟨rfl, hw, b1⟩
  have ca := Blk.cell (Blk.below H0.out.1 b1 (Blk.lt H0.out.1)) 0
  have cb := Blk.cell (Blk.below H0.out.2.1 b1 (Blk.lt H0.out.2.1)) 0
  simp at ca cb
  have H1 := Lib.hid (H0.out.2.2.trans (b1.mono H0.out.2.2.size))
  clear hw b1
  go_wp2_with fail
  refine (HR.out _ _).mono ?_
  rintro e w2 ⟨rfl, rfl⟩
  have K1 := Lib.hid (HK.out.below H1.out)
  have c2 := Blk.cell K1.out.blk 2
  simp at c2
  go_wp2_with fail
  go_step3
  go_wp2_with fail
  generalize w1 = W1 at *
  go_loopw [33, 9] (fun iv ev wr => iv = .int .i64 0 ∧ ev = .int .i64 2 ∧ wr = W1) (fun _ _ _ => 0)
  case atStart => exact ⟨rfl, rfl, rfl⟩
  case round =>
    obtain ⟨rfl, rfl, rfl⟩ := hrel
    by_cases hl : l.length = 0
    · have hl0 : (l.length : Int) ≤ 0 := by omega
      go_wp2_with fail
      try rw [Exit.noGoto_ret]
      go_ret
      exact ⟨rfl, H1.out⟩
    · have hl0 : (0 : Int) < l.length := by omega
      obtain ⟨gb, hA, _, c0, c1, c3⟩ := K1.out.cells 0 (by omega)
      generalize l[0].id = x at *
      generalize l[0].w = ww at *
      generalize l[0].sp = ss at *
      simp only [Nat.zero_mul, Nat.zero_add] at c0 c1 c3
      subst hA
      go_wp2_with fail
      try rw [Exit.noGoto_ret]
      go_ret
      exact ⟨rfl, H1.out.alloc H1.out.size _⟩
set_option maxHeartbeats 1000000 in
theorem rsz_over (a b : Int) (hab : Win2 a b) (i0 : Nat) (hi0 : i0 < l.length) (hover : ¬ Fits l[i0].n (b - a)) (hbefore : ∀ (j : Nat) (hj : j < l.length), j < i0 → Fits l[j].n (b - a)) : Calls Try.prog 12 #[.pointer (some ⟨g, 0, none⟩), .int .i64 a, .int .i64 b] w fun e w' => e = .returned (.int .i64 10) ∧ Below w.heap.size w w' := by
  have HR := Lib.hid (fun (V : World) (v : Nat) (hV : Win V v 0) => resize_yes v 0 a b V hV (by decide) (by decide) hab.1 hab.2.1 hab.2.2.1 hab.2.2.2 (by have := hab; unfold Win2 at this; omega) (by have := hab; unfold Win2 at this; omega))
  have HFIT : Hid (∀ (j : Nat) (hj : j < l.length), j ≤ i0 → ∃ c : Int, ((j < i0 ∧ c = 0) ∨ (j = i0 ∧ c = 10)) ∧ ((Fits l[j].n (b - a) ∧ c = 0) ∨ (¬ Fits l[j].n (b - a) ∧ c = 10))) := fun j hj hji => by
    rcases Nat.lt_or_ge j i0 with h | h
    · exact ⟨0, .inl ⟨h, rfl⟩, .inl ⟨hbefore j hj h, rfl⟩⟩
    · obtain rfl : j = i0 := by omega
      exact ⟨10, .inr ⟨rfl, rfl⟩, .inr ⟨hover, rfl⟩⟩
  have HAB := Lib.hid hab
  have HK := Lib.hid k
  have k_bds := Lib.hid k.bds
  have hfew := k.few
  have hcap := k.capb
  have xa := Blk.alloc (Blk.new w 3 #[.int .i64 a]) (.cells #[.int .i64 b] 3)
  have xb := Blk.new (w.alloc (.cells #[.int .i64 a] 3)) 3 #[.int .i64 b]
  simp only [World.size_alloc] at xb
  have B0 : Below w.heap.size w ((w.alloc (.cells #[.int .i64 a] 3)).alloc (.cells #[.int .i64 b] 3)) := ((Below.refl _ _).alloc (Nat.le_refl _) _).alloc (by simp) _
  have H0 := Lib.hid (And.intro xa (And.intro xb B0))
  clear hover hbefore hab k xa xb B0
  go_enter Try.func12, Try.ntmps12
  go_wp2_with fail
  generalize (w.alloc (.cells #[.int .i64 a] 3)).alloc (.cells #[.int .i64 b] 3) = W at *
  go_step3
  go_wp2_with fail
  refine (none_new W).mono ?_
  rintro e w1 ⟨rfl, hw, b1⟩
  have ca := Blk.cell (Blk.below H0.out.1 b1 (Blk.lt H0.out.1)) 0
  have cb := Blk.cell (Blk.below H0.out.2.1 b1 (Blk.lt H0.out.2.1)) 0
  simp at ca cb
  have H1 := Lib.hid (H0.out.2.2.trans (b1.mono H0.out.2.2.size))
  have HW := Lib.hid hw
  have HW0 := Lib.hid b1
  clear hw b1
  go_wp2_with fail
  refine (HR.out _ _ HW.out).mono ?_
  rintro e w2 ⟨rfl, _, o2⟩
  have b2 : Below W.heap.size W w2 := HW0.out.trans (o2.below HW0.out.size (by simp))
  have ca := Blk.cell (Blk.below H0.out.1 b2 (Blk.lt H0.out.1)) 0
  have cb := Blk.cell (Blk.below H0.out.2.1 b2 (Blk.lt H0.out.2.1)) 0
  simp at ca cb
  have H2 := Lib.hid (And.intro (Blk.below H0.out.1 b2 (Blk.lt H0.out.1)) (And.intro (Blk.below H0.out.2.1 b2 (Blk.lt H0.out.2.1)) (H0.out.2.2.trans (b2.mono H0.out.2.2.size))))
  have K2 := Lib.hid (HK.out.below H2.out.2.2)
  have c2 := Blk.cell K2.out.blk 2
  simp at c2
  clear o2 b2
  go_wp2_with fail
  go_step3
  go_wp2_with fail
  generalize w2 = W2 at *
  go_loopw [33, 9] (fun iv ev wr => ∃ (j : Nat) (c : Int), j ≤ l.length ∧ iv = .int .i64 j ∧ ev = .int .i64 c ∧ ((j ≤ i0 ∧ c = 0) ∨ (j = i0 + 1 ∧ c = 10)) ∧ Below W2.heap.size W2 wr) (fun iv _ _ => l.length - (intOf iv).toNat)
  case atStart => exact ⟨0, 0, by omega, rfl, rfl, .inl ⟨by omega, rfl⟩, Below.refl _ _⟩
  case round =>
    obtain ⟨j, c, hj, rfl, rfl, hcase, br⟩ := hrel
    have HB := Lib.hid br
    have hbs := br.size
    clear br
    have hA0 := Lib.hid (H2.out.2.2.trans (HB.out.mono H2.out.2.2.size))
    by_cases hlt : j < l.length
    · obtain ⟨gb, hA, hgb, c0, c1, c3⟩ := (K2.out.below HB.out).cells j hlt
      have hj0 : (0 : Int) ≤ j := by omega
      have hj1 : (j : Int) < l.length := by omega
      rcases hcase with ⟨hji, rfl⟩ | ⟨hji, rfl⟩
      · obtain ⟨c', hc1, hc2⟩ := HFIT.out j hlt hji
        have hbd := k_bds.out l[j] (List.getElem_mem _)
        have HT := Lib.hid (fun (V : World) (p q : Nat) (hw : Win V l[j].w l[j].n) (ha : Blk V p 3 #[.int .i64 a]) (hb : Blk V q 3 #[.int .i64 b]) => try_any l[j].w p q l[j].id l[j].n l[j].sp a b c' V hw ha hb hbd.1 hbd.2.1 HAB.out hc2)
        have HWJ := Lib.hid ((K2.out.below HB.out).wins l[j] (List.getElem_mem _)).1
        have HCASE : Hid ((j + 1 ≤ i0 ∧ c' = 0) ∨ (j + 1 = i0 + 1 ∧ c' = 10)) := by
          rcases hc1 with ⟨h, e⟩ | ⟨h, e⟩
          · exact .inl ⟨by omega, e⟩
          · exact .inr ⟨by omega, e⟩
        clear hc2 hbd hc1
        generalize l[j].id = x at *
        generalize l[j].n = n at *
        generalize l[j].w = ww at *
        generalize l[j].sp = ss at *
        have XA := Lib.hid ((Blk.below H2.out.1 HB.out (Blk.lt H2.out.1)).alloc (.cells #[.int .i64 x, .pointer (some ⟨ww, 0, none⟩), .int .i64 ss] 60))
        have XB := Lib.hid ((Blk.below H2.out.2.1 HB.out (Blk.lt H2.out.2.1)).alloc (.cells #[.int .i64 x, .pointer (some ⟨ww, 0, none⟩), .int .i64 ss] 60))
        have XW := Lib.hid (HWJ.out.alloc (.cells #[.int .i64 x, .pointer (some ⟨ww, 0, none⟩), .int .i64 ss] 60))
        have XL := Lib.hid (HB.out.alloc hbs (.cells #[.int .i64 x, .pointer (some ⟨ww, 0, none⟩), .int .i64 ss] 60))
        subst hA
        go_wp2_with fail
        refine (HT.out _ _ _ (by exact XW.out) (by exact XA.out) (by exact XB.out)).mono ?_
        rintro e w3 ⟨rfl, b3⟩
        have X3 := Lib.hid (XL.out.trans (b3.mono (by simp; omega)))
        clear b3
        go_wp2_with fail
        go_roundw
        case rel => exact ⟨j + 1, c', by omega, by go_num, rfl, HCASE.out, X3.out⟩
        case measure => simp [intOf]; omega
      · clear hji
        generalize l[j].id = x at *
        generalize l[j].w = ww at *
        generalize l[j].sp = ss at *
        subst hA
        go_wp2_with fail
        try rw [Exit.noGoto_ret]
        go_ret
        exact ⟨rfl, hA0.out.alloc hA0.out.size _⟩
    · obtain rfl : j = l.length := by omega
      obtain rfl : c = 10 := by omega
      clear hcase
      go_wp2_with fail
      try rw [Exit.noGoto_ret]
      go_ret
      exact ⟨rfl, hA0.out⟩
set_option maxHeartbeats 1000000 in
theorem rsz_ok (a b : Int) (hab : Win2 a b) (hall : ∀ (j : Nat) (hj : j < l.length), Fits l[j].n (b - a)) : Calls Try.prog 12 #[.pointer (some ⟨g, 0, none⟩), .int .i64 a, .int .i64 b] w fun e w' => e = .returned (.int .i64 0) ∧ Led base w' g cw cn sp A cap (rz l (b - a)) M ∧ Below base w w' ∧ Still w w' := by
  have HR := Lib.hid (fun (V : World) (v : Nat) (hV : Win V v 0) => resize_yes v 0 a b V hV (by decide) (by decide) hab.1 hab.2.1 hab.2.2.1 hab.2.2.2 (by have := hab; unfold Win2 at this; omega) (by have := hab; unfold Win2 at this; omega))
  have HALL := Lib.hid hall
  have HAB := Lib.hid hab
  have HK := Lib.hid k
  have k_bds := Lib.hid k.bds
  have hfew := k.few
  have hcap := k.capb
  have xa := Blk.alloc (Blk.new w 3 #[.int .i64 a]) (.cells #[.int .i64 b] 3)
  have xb := Blk.new (w.alloc (.cells #[.int .i64 a] 3)) 3 #[.int .i64 b]
  simp only [World.size_alloc] at xb
  have B0 : Below w.heap.size w ((w.alloc (.cells #[.int .i64 a] 3)).alloc (.cells #[.int .i64 b] 3)) := ((Below.refl _ _).alloc (Nat.le_refl _) _).alloc (by simp) _
  have H0 := Lib.hid (And.intro xa (And.intro xb B0))
  clear hall hab k xa xb B0
  go_enter Try.func12, Try.ntmps12
  go_wp2_with fail
  generalize (w.alloc (.cells #[.int .i64 a] 3)).alloc (.cells #[.int .i64 b] 3) = W at *
  go_step3
  go_wp2_with fail
  refine (none_new W).mono ?_
  rintro e w1 ⟨rfl, hw, b1⟩
  have ca := Blk.cell (Blk.below H0.out.1 b1 (Blk.lt H0.out.1)) 0
  have cb := Blk.cell (Blk.below H0.out.2.1 b1 (Blk.lt H0.out.2.1)) 0
  simp at ca cb
  have H1 := Lib.hid (H0.out.2.2.trans (b1.mono H0.out.2.2.size))
  have HW := Lib.hid hw
  have HW0 := Lib.hid b1
  clear hw b1
  go_wp2_with fail
  refine (HR.out _ _ HW.out).mono ?_
  rintro e w2 ⟨rfl, _, o2⟩
  have b2 : Below W.heap.size W w2 := HW0.out.trans (o2.below HW0.out.size (by simp))
  have ca := Blk.cell (Blk.below H0.out.1 b2 (Blk.lt H0.out.1)) 0
  have cb := Blk.cell (Blk.below H0.out.2.1 b2 (Blk.lt H0.out.2.1)) 0
  simp at ca cb
  have H2 := Lib.hid (And.intro (Blk.below H0.out.1 b2 (Blk.lt H0.out.1)) (And.intro (Blk.below H0.out.2.1 b2 (Blk.lt H0.out.2.1)) (H0.out.2.2.trans (b2.mono H0.out.2.2.size))))
  have K2 := Lib.hid (HK.out.below H2.out.2.2)
  have c2 := Blk.cell K2.out.blk 2
  simp at c2
  clear o2 b2
  go_wp2_with fail
  go_step3
  go_wp2_with fail
  generalize w2 = W2 at *
  go_loopw [33, 9] (fun iv ev wr => ∃ (j : Nat), j ≤ l.length ∧ iv = .int .i64 j ∧ ev = .int .i64 0 ∧ Below W2.heap.size W2 wr) (fun iv _ _ => l.length - (intOf iv).toNat)
  case atStart => exact ⟨0, by omega, rfl, rfl, Below.refl _ _⟩
  case round =>
    obtain ⟨j, hj, rfl, rfl, br⟩ := hrel
    have HB := Lib.hid br
    have hbs := br.size
    clear br
    have hA0 := Lib.hid (H2.out.2.2.trans (HB.out.mono H2.out.2.2.size))
    by_cases hlt : j < l.length
    · obtain ⟨gb, hA, hgb, c0, c1, c3⟩ := (K2.out.below HB.out).cells j hlt
      have hj0 : (0 : Int) ≤ j := by omega
      have hj1 : (j : Int) < l.length := by omega
      have hbd := k_bds.out l[j] (List.getElem_mem _)
      have HT := Lib.hid (fun (V : World) (p q : Nat) (hw : Win V l[j].w l[j].n) (ha : Blk V p 3 #[.int .i64 a]) (hb : Blk V q 3 #[.int .i64 b]) => try_any l[j].w p q l[j].id l[j].n l[j].sp a b 0 V hw ha hb hbd.1 hbd.2.1 HAB.out (.inl ⟨HALL.out j hlt, rfl⟩))
      have HWJ := Lib.hid ((K2.out.below HB.out).wins l[j] (List.getElem_mem _)).1
      clear hbd
      generalize l[j].id = x at *
      generalize l[j].n = n at *
      generalize l[j].w = ww at *
      generalize l[j].sp = ss at *
      have XA := Lib.hid ((Blk.below H2.out.1 HB.out (Blk.lt H2.out.1)).alloc (.cells #[.int .i64 x, .pointer (some ⟨ww, 0, none⟩), .int .i64 ss] 60))
      have XB := Lib.hid ((Blk.below H2.out.2.1 HB.out (Blk.lt H2.out.2.1)).alloc (.cells #[.int .i64 x, .pointer (some ⟨ww, 0, none⟩), .int .i64 ss] 60))
      have XW := Lib.hid (HWJ.out.alloc (.cells #[.int .i64 x, .pointer (some ⟨ww, 0, none⟩), .int .i64 ss] 60))
      have XL := Lib.hid (HB.out.alloc hbs (.cells #[.int .i64 x, .pointer (some ⟨ww, 0, none⟩), .int .i64 ss] 60))
      subst hA
      go_wp2_with fail
      refine (HT.out _ _ _ (by exact XW.out) (by exact XA.out) (by exact XB.out)).mono ?_
      rintro e w3 ⟨rfl, b3⟩
      have X3 := Lib.hid (XL.out.trans (b3.mono (by simp; omega)))
      clear b3
      go_wp2_with fail
      go_roundw
      case rel => exact ⟨j + 1, by omega, by go_num, rfl, X3.out⟩
      case measure => simp [intOf]; omega
    · obtain rfl : j = l.length := by omega
      have KR := Lib.hid (K2.out.below HB.out)
      have HRA := Lib.hid (Blk.below H2.out.1 HB.out (Blk.lt H2.out.1))
      have HRB := Lib.hid (Blk.below H2.out.2.1 HB.out (Blk.lt H2.out.2.1))
      have cr2 := Blk.cell KR.out.blk 2
      simp at cr2
      clear HB hbs
      go_wp2_with fail
      generalize wr = WR at *
      go_loopw [51] (fun iv wr => ∃ (j : Nat), j ≤ l.length ∧ iv = .int .i64 j ∧ Led base wr g cw cn sp A cap (rzk l (b - a) j) M ∧ Below base WR wr ∧ Still WR wr) (fun iv _ => l.length - (intOf iv).toNat)
      case atStart => exact ⟨0, by omega, rfl, KR.out, Below.refl _ _, Still.of_below (Below.refl _ _)⟩
      case round =>
        obtain ⟨j, hj, rfl, kj, bj, sj⟩ := hrel
        have KJ := Lib.hid (And.intro kj (And.intro bj sj))
        clear kj bj sj
        by_cases hlt : j < l.length
        · have hjl : j < (rzk l (b - a) j).length := by rw [rzk_length]; exact hlt
          have hg : (rzk l (b - a) j)[j] = l[j] := by rw [rzk_get l (b - a) j j hjl hlt, if_neg (by omega)]
          obtain ⟨gb, hA, hgb, c0, c1, c3⟩ := KJ.out.1.cells j hjl
          rw [hg] at c0 c1 c3
          have hwj := KJ.out.1.wins _ (List.getElem_mem hjl)
          rw [hg] at hwj
          have XA := KJ.out.2.2.blk HRA.out (by decide) (by decide) (by decide)
          have XB := KJ.out.2.2.blk HRB.out (by decide) (by decide) (by decide)
          have xa := Blk.cell XA 0
          have xb := Blk.cell XB 0
          simp at xa xb
          have hxl := Blk.lt XA
          have hxl2 := Blk.lt XB
          have hj0 : (0 : Int) ≤ j := by omega
          have hj1 : (j : Int) < l.length := by omega
          have hbd := k_bds.out l[j] (List.getElem_mem _)
          have hfj := HALL.out j hlt
          have HRZ := Lib.hid (fun (V : World) (hV : Win V l[j].w l[j].n) => resize_yes l[j].w l[j].n a b V hV hbd.1 hbd.2.1 HAB.out.1 HAB.out.2.1 HAB.out.2.2.1 HAB.out.2.2.2 hfj.1 hfj.2)
          have HFIN : Hid (∀ (V : World), Led base V g cw cn sp A cap (rzk l (b - a) j) M → Below base WR V → Still WR V → ∀ w4, Win w4 l[j].w (l[j].n + (b - a)) → Only [l[j].w] V w4 → Led base w4 g cw cn sp A cap (rzk l (b - a) (j + 1)) M ∧ Below base WR w4 ∧ Still WR w4) := fun V kV bV sV w4 h4 o4 => by
            have hh := kV.win_set hjl (n := l[j].n + (b - a)) (by rw [hg]; exact h4) (by rw [hg]; exact o4) hfj.1 hfj.2
            have hwV := kV.wins _ (List.getElem_mem hjl)
            rw [hg] at hwV hh
            have hbv : base ≤ V.heap.size := Nat.le_trans kV.bas.1 (Nat.le_of_lt kV.lt)
            refine ⟨?_, bV.trans (o4.below hbv (by simpa using hwV.2.1)), sV.trans (Still.of_only o4 (fun z hz _ => by simp at hz; subst hz; exact ⟨_, _, _, hwV.1, .inr (.inr rfl)⟩))⟩
            rw [rzk, dif_pos hlt]
            exact hh
          have HWW := Lib.hid hwj.1
          clear hbd hfj hg XA XB hwj
          generalize hl2 : rzk l (b - a) (j + 1) = l2 at *
          have HL2 := Lib.hid hl2
          clear hl2
          generalize l[j].id = x at *
          generalize l[j].n = n at *
          generalize l[j].w = ww at *
          generalize l[j].sp = ss at *
          have XW := Lib.hid (HWW.out.alloc (.cells #[.int .i64 x, .pointer (some ⟨ww, 0, none⟩), .int .i64 ss] 60))
          have XK := Lib.hid (And.intro (KJ.out.1.alloc (.cells #[.int .i64 x, .pointer (some ⟨ww, 0, none⟩), .int .i64 ss] 60)) (And.intro (KJ.out.2.1.trans ((Below.refl _ _).alloc (Nat.le_trans KJ.out.1.bas.1 (Nat.le_of_lt KJ.out.1.lt)) (.cells #[.int .i64 x, .pointer (some ⟨ww, 0, none⟩), .int .i64 ss] 60))) (KJ.out.2.2.trans (Still.of_below ((Below.refl _ _).alloc (Nat.le_refl _) (.cells #[.int .i64 x, .pointer (some ⟨ww, 0, none⟩), .int .i64 ss] 60))))))
          have HA9 := Lib.hid hA
          rw [hA]
          clear hA
          go_wp2_with fail
          refine (HRZ.out _ (by exact XW.out)).mono ?_
          rintro e w4 ⟨rfl, h4, o4⟩
          have H4 := Lib.hid (HFIN.out _ XK.out.1 XK.out.2.1 XK.out.2.2 w4 h4 o4)
          clear h4 o4
          go_wp2_with fail
          go_roundw
          case rel => exact ⟨j + 1, by omega, by go_num, by rw [HL2.out, ← HA9.out]; exact H4.out⟩
          case measure => simp [intOf]; omega
        · obtain rfl : j = l.length := by omega
          go_wp2_with fail
          try rw [Exit.noGoto_ret]
          go_ret
          have hws : base ≤ w.heap.size := Nat.le_trans HK.out.bas.1 (Nat.le_of_lt HK.out.lt)
          have hkk := KJ.out.1
          rw [rzk_all] at hkk
          exact ⟨rfl, hkk, (hA0.out.mono hws).trans KJ.out.2.1, (Still.of_below hA0.out).trans KJ.out.2.2⟩
end
theorem rsz_none (a b : Int) (w : World) : Calls Try.prog 12 #[.pointer none, .int .i64 a, .int .i64 b] w fun e w' => e = .returned (.int .i64 1) ∧ Below w.heap.size w w' := by
  go_enter Try.func12, Try.ntmps12
  go_wp2_with fail
  go_step3
  go_wp2_with fail
  try rw [Exit.noGoto_ret]
  go_ret
  exact ⟨rfl, ((Below.refl _ _).alloc (Nat.le_refl _) _).alloc (by simp) _⟩
end Go.Proofs.Ytpbahmnlhckgbaa
