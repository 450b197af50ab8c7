/- The walk of the laws' same. -/
import Derived.Test.YtifgbnjpiphidaaTreJ
import Derived.Deep.RegionHeld3
namespace Go.Proofs.Ytifgbnjpiphidaa
open Go.RowKit
set_option linter.unusedVariables false
theorem ordL_le {l : List Nd} {r : Int → Nat} (h : TreeOk l r) : (ordL l r).length = l.length := ord_length h
set_option maxRecDepth 100000 in
set_option maxHeartbeats 16000000 in
theorem same_any (g b : Nat) (most : Int) (h c : Nat) (B : Option Addr) (l : List Nd) (w : World) (k : Bth w g b most h B c l) :
    Calls Try.prog 15 #[.pointer (some ⟨g, 0, none⟩), .pointer (some ⟨h, 0, none⟩)] w fun e w' => e = .returned (.bool true) ∧ Below w.heap.size w w' := by
  obtain ⟨r, hr⟩ := k.ok
  have HK := Lib.hid k
  have HR := Lib.hid hr
  have hfew := k.t.few
  have hcap := k.r.capb
  have hhl := k.r.lt
  have c0' := Blk.cell k.r.blk 0
  simp at c0'
  have CO := Lib.hid (fun W (kW : Trs W g b most l) => order_any g b most l W kW r hr)
  have CRO := Lib.hid (fun W (kW : Rt W h B c l) => rorder_any h c B l W kW r hr.uq hr.rk)
  have hol : (ordL l r).length ≤ 256 := by rw [ordL_le hr]; exact hfew
  clear hr k
  go_enter Try.func15, Try.ntmps15
  go_wp2_with fail
  go_loopw [5] (fun iv wr => ∃ j : Nat, iv = .int .i64 j ∧ j ≤ l.length ∧ Below w.heap.size w wr) (fun iv _ => l.length - (intOf iv).toNat)
  case atStart => exact ⟨0, rfl, by omega, Below.refl _ _⟩
  case round =>
    obtain ⟨j, rfl, hj, hb⟩ := hrel
    have hbs := hb.size
    have c0 : wr.cell? ⟨h, 0, none⟩ = some (.slice B l.length c) := (hb.cell (p := ⟨h, 0, none⟩) hhl).trans c0'
    have HM := Lib.hid (And.intro (HK.out.below hb) hb)
    clear hb
    have hj0 : (0 : Int) ≤ j := by omega
    by_cases hlt : j < l.length
    · have hj1 : (j : Int) < l.length := by omega
      obtain ⟨bq, off, hB, hbq, x0, x1, x2⟩ := HM.out.1.r.cells j hlt
      have hg := getN_of_mem HR.out.uq (List.getElem_mem hlt)
      have hn := HM.out.1.t.nd l[j] (List.getElem_mem hlt)
      have hwf : (Lit.int .i64 l[j].id).wf = true := wf31 (by have := hn.1; omega) hn.1.2
      have CH := Lib.hid (fun W (kW : Trs W g b most l) => (has_any g b most l W kW l[j].id hwf))
      have CP := Lib.hid (fun W (kW : Trs W g b most l) => (parent_any g b most l W kW l[j].id hwf))
      have CW := Lib.hid (fun W (kW : Trs W g b most l) => (weight_any g b most l W kW l[j].id hwf))
      have CD := Lib.hid (fun W (kW : Trs W g b most l) => (depth_any g b most l W kW r HR.out l[j].id hwf))
      have CRD := Lib.hid (fun W (kW : Rt W h B c l) => (rdepth_any h c B l W kW r HR.out.uq HR.out.rk l[j].id))
      have CK := Lib.hid (fun W (kW : Trs W g b most l) => (kids_own g b most l W kW l[j].id))
      have CRK := Lib.hid (fun W (kW : Rt W h B c l) => (rkids_any h c B l W kW l[j].id))
      have hkl := kids_length l l[j].id
      rw [hg] at CH CP CW
      simp only [Option.isSome_some, Option.getD_some] at CH CP CW
      clear hg hn hwf
      generalize dp l r l[j].id = D at *
      generalize kidsL l l[j].id = ks at *
      generalize l[j] = p at *
      obtain ⟨pi, po, pw⟩ := p
      simp only at x0 x1 x2 CH CP CW CD CRD CK CRK
      subst hB
      have z1 := Blk.new wr 63 #[.int .i64 pi, .int .i64 po, .int .i64 pw]
      have B1 : Below wr.heap.size wr (wr.alloc (.cells #[.int .i64 pi, .int .i64 po, .int .i64 pw] 63)) := (Below.refl _ _).alloc (Nat.le_refl _) _
      have H1 := Lib.hid (And.intro (HM.out.1.below B1) (And.intro z1 (HM.out.2.trans (B1.mono hbs))))
      obtain ⟨bX, hbX⟩ : ∃ bX, bX = wr.heap.size := ⟨_, rfl⟩
      clear z1 B1
      go_upto_region 5 with fail
      clear x0 x1 x2 c0
      generalize wr.alloc (.cells #[.int .i64 pi, .int .i64 po, .int .i64 pw] 63) = w0 at *
      rw [← hbX] at H1 ⊢
      clear hbX
      have d00 := Blk.cell H1.out.2.1 0
      have d01 := Blk.cell H1.out.2.1 1
      have d02 := Blk.cell H1.out.2.1 2
      simp at d00 d01 d02
      try simp only [List.append]
      go_region_held3 (fun w' => w'.cell? ⟨bX, 0, none⟩ = some (.int .i64 pi) ∧ w'.cell? ⟨bX, 1, none⟩ = some (.int .i64 po) ∧ w'.cell? ⟨bX, 2, none⟩ = some (.int .i64 pw))
        (first
          | go_keep
          | (refine ⟨?_, ?_, ?_⟩ <;> with_reducible assumption))
        ((first
          | (go_at_call 19
             refine (CH.out _ (by exact H1.out.1.t.drewN 1)).mono ?_
             rintro e w1 ⟨rfl, b1'⟩
             have b1 : Below w0.heap.size w0 w1 := ⟨b1'.os, b1'.tape, b1'.output, b1'.size, b1'.block⟩
             have K1 := Lib.hid (And.intro (H1.out.1.below b1) (And.intro (H1.out.2.1.below b1 H1.out.2.1.lt) (H1.out.2.2.trans (b1.mono H1.out.2.2.size))))
             have d10 := Blk.cell K1.out.2.1 0
             have d11 := Blk.cell K1.out.2.1 1
             have d12 := Blk.cell K1.out.2.1 2
             simp at d10 d11 d12
             clear b1 b1')
          | (go_at_call 12
             refine (CP.out _ (by exact K1.out.1.t)).mono ?_
             rintro e w2 ⟨rfl, b2'⟩
             have b2 : Below w1.heap.size w1 w2 := ⟨b2'.os, b2'.tape, b2'.output, b2'.size, b2'.block⟩
             have K2 := Lib.hid (And.intro (K1.out.1.below b2) (And.intro (K1.out.2.1.below b2 K1.out.2.1.lt) (K1.out.2.2.trans (b2.mono K1.out.2.2.size))))
             have d20 := Blk.cell K2.out.2.1 0
             have d21 := Blk.cell K2.out.2.1 1
             have d22 := Blk.cell K2.out.2.1 2
             simp at d20 d21 d22
             clear b2 b2')
          | (go_at_call 11
             refine (CW.out _ (by exact K2.out.1.t)).mono ?_
             rintro e w3 ⟨rfl, b3'⟩
             have b3 : Below w2.heap.size w2 w3 := ⟨b3'.os, b3'.tape, b3'.output, b3'.size, b3'.block⟩
             have K3 := Lib.hid (And.intro (K2.out.1.below b3) (And.intro (K2.out.2.1.below b3 K2.out.2.1.lt) (K2.out.2.2.trans (b3.mono K2.out.2.2.size))))
             have d30 := Blk.cell K3.out.2.1 0
             have d31 := Blk.cell K3.out.2.1 1
             have d32 := Blk.cell K3.out.2.1 2
             simp at d30 d31 d32
             clear b3 b3')
          | (go_at_call 18
             refine (CD.out _ (by exact K3.out.1.t)).mono ?_
             rintro e w4 ⟨rfl, b4'⟩
             have b4 : Below w3.heap.size w3 w4 := ⟨b4'.os, b4'.tape, b4'.output, b4'.size, b4'.block⟩
             have K4 := Lib.hid (And.intro (K3.out.1.below b4) (And.intro (K3.out.2.1.below b4 K3.out.2.1.lt) (K3.out.2.2.trans (b4.mono K3.out.2.2.size))))
             have d40 := Blk.cell K4.out.2.1 0
             have d41 := Blk.cell K4.out.2.1 1
             have d42 := Blk.cell K4.out.2.1 2
             simp at d40 d41 d42
             clear b4 b4')
          | (go_at_call 29
             refine (CRD.out _ (by exact K4.out.1.r)).mono ?_
             rintro e w5 ⟨rfl, q5, rfl⟩
             have K5 : Hid (Bth (w4.drewN q5) g b most h (some ⟨bq, off, none⟩) c l ∧ Blk (w4.drewN q5) bX 63 #[.int .i64 pi, .int .i64 po, .int .i64 pw] ∧ Below w.heap.size w (w4.drewN q5)) := ⟨K4.out.1.drewN q5, K4.out.2.1.drewN q5, below_drewN K4.out.2.2 q5⟩
             generalize w4.drewN q5 = w5 at *
             have d50 := Blk.cell K5.out.2.1 0
             have d51 := Blk.cell K5.out.2.1 1
             have d52 := Blk.cell K5.out.2.1 2
             simp at d50 d51 d52)
          | (go_at_call 20
             refine (CK.out _ (by exact K5.out.1.t)).mono ?_
             rintro e w6 ⟨A6, c6, rfl, h6, b6'⟩
             have b6 : Below w5.heap.size w5 w6 := ⟨b6'.os, b6'.tape, b6'.output, b6'.size, b6'.block⟩
             have K6 := Lib.hid (And.intro (K5.out.1.below b6) (And.intro (K5.out.2.1.below b6 K5.out.2.1.lt) (And.intro (K5.out.2.2.trans (b6.mono K5.out.2.2.size)) (Held.of_own h6))))
             have d60 := Blk.cell K6.out.2.1 0
             have d61 := Blk.cell K6.out.2.1 1
             have d62 := Blk.cell K6.out.2.1 2
             simp at d60 d61 d62
             clear b6 b6' h6)
          | (go_at_call 30
             refine (CRK.out _ (by exact K6.out.1.r)).mono ?_
             rintro e w7 ⟨A7, c7, rfl, h7, b7'⟩
             have b7 : Below w6.heap.size w6 w7 := ⟨b7'.os, b7'.tape, b7'.output, b7'.size, b7'.block⟩
             have K7 := Lib.hid (And.intro (K6.out.2.2.2.below b7) (And.intro (Held.of_own h7) (And.intro (K6.out.2.2.1.trans (b7.mono K6.out.2.2.1.size)) (K6.out.2.1.below b7 K6.out.2.1.lt))))
             have d70 := Blk.cell K7.out.2.2.2 0
             have d71 := Blk.cell K7.out.2.2.2 1
             have d72 := Blk.cell K7.out.2.2.2 2
             simp at d70 d71 d72
             clear b7 b7' h7)
          | (go_at_call 21
             refine (ints_eq _ _ _ _ _ _ ks _ rfl rfl (by exact K7.out.1) (by exact K7.out.2.1) (by omega)).mono ?_
             rintro e w8 ⟨rfl, q8, rfl⟩
             have K8 : Hid (Below w.heap.size w (w7.drewN q8) ∧ Blk (w7.drewN q8) bX 63 #[.int .i64 pi, .int .i64 po, .int .i64 pw]) := ⟨below_drewN K7.out.2.2.1 q8, K7.out.2.2.2.drewN q8⟩
             generalize w7.drewN q8 = w8 at *
             have d80 := Blk.cell K8.out.2 0
             have d81 := Blk.cell K8.out.2 1
             have d82 := Blk.cell K8.out.2 2
             simp at d80 d81 d82)))
      go_wp2_with fail
      go_roundw
      case rel => exact ⟨j + 1, by go_num, by omega, K8.out.1⟩
      case measure => simp [intOf]; omega
    · obtain rfl : l.length = j := by omega
      have CK := Lib.hid (fun W (kW : Trs W g b most l) => (kids_own g b most l W kW 0))
      have CRK := Lib.hid (fun W (kW : Rt W h B c l) => (rkids_any h c B l W kW 0))
      have CL := Lib.hid (fun W (kW : Trs W g b most l) => (len_any g b most l W kW))
      have hkl := kids_length l 0
      generalize kidsL l 0 = ks at *
      generalize ordL l r = od at *
      go_upto_region 7 with fail
      try simp only [List.append]
      go_region_held3 (fun w' => w'.cell? ⟨h, 0, none⟩ = some (.slice B l.length c))
        (first
          | go_keep
          | with_reducible assumption)
        ((first
          | (go_at_call 13
             refine (CL.out _ (by exact HM.out.1.t.drewN 1)).mono ?_
             rintro e w1 ⟨rfl, rfl⟩)
          | (go_at_call 17
             refine (CO.out _ (by exact HM.out.1.t.drewN 1)).mono ?_
             rintro e w2 ⟨A2, c2, rfl, h2, b2'⟩
             have b2 : Below wr.heap.size wr w2 := ⟨b2'.os, b2'.tape, b2'.output, b2'.size, b2'.block⟩
             have K2 := Lib.hid (And.intro (HM.out.1.below b2) (And.intro h2 (HM.out.2.trans (b2.mono hbs))))
             have d2 := Blk.cell K2.out.1.r.blk 0
             simp at d2
             clear b2 b2' h2)
          | (go_at_call 31
             refine (CRO.out _ (by exact K2.out.1.r)).mono ?_
             rintro e w3 ⟨A3, c3, rfl, h3, b3'⟩
             have b3 : Below w2.heap.size w2 w3 := ⟨b3'.os, b3'.tape, b3'.output, b3'.size, b3'.block⟩
             have K3 := Lib.hid (And.intro (K2.out.1.below b3) (And.intro (K2.out.2.1.below b3) (And.intro (Held.of_own h3) (K2.out.2.2.trans (b3.mono K2.out.2.2.size)))))
             have d3 := Blk.cell K3.out.1.r.blk 0
             simp at d3
             clear b3 b3' h3)
          | (go_at_call 20
             refine (CK.out _ (by exact K4.out.1.t)).mono ?_
             rintro e w5 ⟨A5, c5, rfl, h5, b5'⟩
             have b5 : Below w4.heap.size w4 w5 := ⟨b5'.os, b5'.tape, b5'.output, b5'.size, b5'.block⟩
             have K5 := Lib.hid (And.intro (K4.out.1.below b5) (And.intro (Held.of_own h5) (K4.out.2.trans (b5.mono K4.out.2.size))))
             have d5 := Blk.cell K5.out.1.r.blk 0
             simp at d5
             clear b5 b5' h5)
          | (go_at_call 30
             refine (CRK.out _ (by exact K5.out.1.r)).mono ?_
             rintro e w6 ⟨A6, c6, rfl, h6, b6'⟩
             have b6 : Below w5.heap.size w5 w6 := ⟨b6'.os, b6'.tape, b6'.output, b6'.size, b6'.block⟩
             have K6 := Lib.hid (And.intro (K5.out.1.below b6) (And.intro (K5.out.2.1.below b6) (And.intro (Held.of_own h6) (K5.out.2.2.trans (b6.mono K5.out.2.2.size)))))
             have d6 := Blk.cell K6.out.1.r.blk 0
             simp at d6
             clear b6 b6' h6)
          | (go_at_call 21
             refine (ints_eq A5 A6 ks.length ks.length c5 c6 ks _ rfl rfl (by exact K6.out.2.1) (by exact K6.out.2.2.1) (by omega)).mono ?_
             rintro e w7 ⟨rfl, q7, rfl⟩
             have K7 : Hid (Bth (w6.drewN q7) g b most h B c l ∧ Below w.heap.size w (w6.drewN q7)) := ⟨K6.out.1.drewN q7, below_drewN K6.out.2.2.2 q7⟩
             generalize w6.drewN q7 = w7 at *
             have d7 := Blk.cell K7.out.1.r.blk 0
             simp at d7)
          | (go_at_call 21
             refine (ints_eq A2 A3 od.length od.length c2 c3 od _ rfl rfl (by exact K3.out.2.1) (by exact K3.out.2.2.1) (by omega)).mono ?_
             rintro e w4 ⟨rfl, q4, rfl⟩
             have K4 : Hid (Bth (w3.drewN q4) g b most h B c l ∧ Below w.heap.size w (w3.drewN q4)) := ⟨K3.out.1.drewN q4, below_drewN K3.out.2.2.2 q4⟩
             generalize w3.drewN q4 = w4 at *
             have d4 := Blk.cell K4.out.1.r.blk 0
             simp at d4)))
      go_wp2_with fail
      go_ret
      exact ⟨rfl, K7.out.2⟩
end Go.Proofs.Ytifgbnjpiphidaa
