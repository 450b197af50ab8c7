/- Proved: QueueOrder answers true for every input, and leaves its arguments as they were; no condition. -/
import Derived.Test.YtlncapddimehiaaRows
import Derived.Test.YtlncapddimehiaaMem
import Derived.Test.YtlncapddimehiaaLift
import Derived.Test.YtlncapddimehiaaQueueL
import Derived.Test.YtlncapddimehiaaQueueF
import Derived.Test.YtlncapddimehiaaQueueO
import Derived.WalkKit
import Derived.ProofKit
import Derived.OpenShut
import Derived.Handy
import Derived.Deep.QuietTactic
import Derived.BigQuiet
import Derived.Deep.RegionWith
import Derived.WalkLawsBesides
import Derived.Deep.RegionHeld3
namespace Go.Proofs.Ytlncapddimehiaa.QueueOrder
open Go.ChangeShapes Go.WideShapes Go.ChangeAt Go.RowKit Go.Deep
set_option linter.unusedVariables false

theorem reads_new (w : World) (s : ByteArray) : Reads (w.alloc (.cells #[.string s] 9)) (w.heap.size + 1) 1 (some ⟨w.heap.size, 0, none⟩) 1 [.string s] :=
  ⟨rfl, fun _ => ⟨_, rfl, by simp, fun j u hu => World.news_of_block (cs := #[.string s]) (t := 9) (fr := (0, 0)) (heap_alloc_new w _) j u hu⟩⟩
theorem texts_eq (A A' : Option Addr) (n n' k k' : Nat) (L : List ByteArray) (w : World) (hn : n = L.length) (hn' : n' = L.length) (h : Held w 9 1 A n k (strs L)) (h' : Held w 9 1 A' n' k' (strs L)) (hL : L.length ≤ 1000) :
    Calls Try.prog 11 #[.slice A n k, .slice A' n' k'] w fun e w' => e = .returned (.bool true) ∧ ∃ q, w' = w.drewN q := by
  subst hn hn'
  exact texts_any A A' k k' L w h h' hL
theorem str_inj {a b : ByteArray} (h : a.toList = b.toList) : a = b := by
  rw [ByteArray.toList_eq, ByteArray.toList_eq] at h
  obtain ⟨⟨x⟩⟩ := a
  obtain ⟨⟨y⟩⟩ := b
  simp only at h
  rw [h]
theorem own_zero {w : World} {base : Nat} {e : TypeId} {n k b off : Nat} {A : Option Addr} {xs : List Value} (h : w.ownsRow base e 1 (.slice A n k) n xs) (hA : A = some ⟨b, off, none⟩) : off = 0 := by
  rcases h.2 with ⟨hv, h0⟩ | ⟨x, c, cur, hv, _⟩
  · injection hv with h1; rw [hA] at h1; cases h1
  · injection hv with h1; rw [hA] at h1; injection h1 with h1; injection h1
theorem own_addr {w : World} {base : Nat} {e : TypeId} {n k : Nat} {A : Option Addr} {xs : List Value} (h : w.ownsRow base e 1 (.slice A n k) n xs) : n ≤ k ∧ k ≤ 9223372036854775807 ∧ ((A = none ∧ n = 0 ∧ k = 0) ∨ ∃ x, A = some ⟨x, 0, none⟩) := by
  rcases h.2 with ⟨hv, h0⟩ | ⟨x, c, cur, hv, _, _, hnc, hcm, _, _⟩
  · injection hv with h1 h2 h3
    subst h1 h3
    exact ⟨by omega, by omega, .inl ⟨rfl, h0, rfl⟩⟩
  · injection hv with h1 h2 h3
    subst h1 h3
    exact ⟨hnc, by unfold maxLen at hcm; omega, .inr ⟨x, rfl⟩⟩
set_option maxRecDepth 100000 in
set_option maxHeartbeats 16000000 in
theorem walk (w : World) (a0 : Int) (w0 : (Lit.int .u8 a0).wf = true) (a1 : Int) (w1 : (Lit.int .u8 a1).wf = true) (v2 : Value) (n : Nat) (C : Nat → List Value) (h2 : RowsAt w v2 n 2 KS C) :
    Calls Try.prog 3 #[.int .u8 a0, .int .u8 a1, v2] w fun e w' => e = .returned (.bool true) ∧ Below w.heap.size w w' := by
  obtain ⟨A2, n2c, rfl, hnc, hcap, hcells⟩ := h2
  obtain ⟨i0, hi0, hz0, hz1, hz2⟩ := info_parts info_S
  have HC := Lib.hid hcells
  obtain ⟨x0, x1⟩ := bounds_u8 w0
  obtain ⟨y0, y1⟩ := bounds_u8 w1
  obtain ⟨cp, hcp⟩ : ∃ x : Int, x = a0 % 65 := ⟨_, rfl⟩
  obtain ⟨st, hst⟩ : ∃ x : Int, x = a1 % 3 := ⟨_, rfl⟩
  have h0 : 0 ≤ cp := by omega
  have h1 : cp ≤ 64 := by omega
  have s0 : 0 ≤ st := by omega
  have s1 : st ≤ 2 := by omega
  have e0 : a0 % 65 = cp := hcp.symm
  have e1 : a1 % 3 = st := hst.symm
  clear hcp hst hcells w0 w1
  go_enter Try.func3, Try.ntmps3
  go_wp2_with fail
  refine (new_okF cp st _ h0 h1 s0 s1).mono ?_
  rintro e w1 ⟨rfl, k1, b1⟩
  obtain ⟨g, hg⟩ : ∃ g, g = w.heap.size := ⟨_, rfl⟩
  have hgw : w.heap.size ≤ g := by omega
  have K1 : OMem w g cp st (.slice none 0 0) (.slice none 0 0) [] [] [] 0 w1 := by
    rw [hg]
    exact ⟨⟨0, 0, 0, k1, by omega⟩, own_nil _ _ _ _, own_nil _ _ _ _, by simp [Value.ownBlock], b1⟩
  rw [← hg]
  have H1 := Lib.hid K1
  clear k1 b1 K1 hg
  go_wp2_with fail
  refine (awake_any _).mono ?_
  rintro e w2 ⟨rfl, bb2⟩
  have H2 := Lib.hid (H1.out.below bb2)
  clear bb2
  go_wp2_with fail
  go_loopw [11, 12, 13] (fun av tv iv wr => ∃ (m : Nat) (A T : Option Addr) (kA kT : Nat) (all took L : List ByteArray), m ≤ 150 ∧ iv = .int .i64 m ∧ av = .slice A all.length kA ∧ tv = .slice T took.length kT ∧ OMem w g cp st (.slice A all.length kA) (.slice T took.length kT) all took L m wr ∧ QLaw st all took L ∧ (L.length : Int) ≤ cp ∧ all.length ≤ m ∧ took.length ≤ m ∧ w.heap.size ≤ g) (fun _ _ i _ => 150 - (intOf i).toNat)
  case atStart => exact ⟨0, none, none, 0, 0, [], [], [], by omega, rfl, rfl, rfl, H2.out, ⟨by simp, by simp, fun _ => ⟨[], rfl⟩⟩, by simpa using h0, by simp, by simp, hgw⟩
  case round =>
    obtain ⟨m, A, T, kA, kT, all, took, L, hm, rfl, rfl, rfl, k, ql, hLc, hla, hlt, _⟩ := hrel
    have HK := Lib.hid (And.intro k ql)
    clear k ql
    obtain ⟨oA1, oA2, oA3⟩ := own_addr HK.out.1.oA
    obtain ⟨oT1, oT2, oT3⟩ := own_addr HK.out.1.oT
    by_cases hgo : m < n ∧ m < 150
    · obtain ⟨hmn, hm2⟩ := hgo
      obtain ⟨bq, off, kd, s, rfl, hbl, c0, c1, hx, hsz⟩ := ks_at HC.out hmn
      rw [← HK.out.1.bl.cell (p := ⟨bq, off + m * 2, none⟩) hbl] at c0
      rw [← HK.out.1.bl.cell (p := ⟨bq, off + m * 2 + 1, none⟩) hbl] at c1
      by_cases hbig : 300 < s.size
      · have hbig' : (300 : Int) < s.size := by omega
        go_wp2_with fail
        go_roundw
        case rel => exact ⟨m + 1, A, T, kA, kT, all, took, L, by omega, by go_num, rfl, rfl, HK.out.1.le (by omega), HK.out.2, hLc, by omega, by omega, hgw⟩
        case measure => simp [intOf]; omega
      · have hbig' : (s.size : Int) ≤ 300 := by omega
        have HKL := Lib.hid (HK.out.1.le (M' := (m : Int) + 1) (by omega))
        clear oA3 oT3
        by_cases hk : kd = 4 ∨ kd = 5
        · cases L with
          | nil =>
            obtain ⟨qa, qb, qc, q, hqb⟩ := HK.out.1.q
            have HT := Lib.hid (take_none g cp st qa qb qc wr q.q)
            clear q
            rcases hk with rfl | rfl
            all_goals
              (go_wp2_with fail
               refine HT.out.mono ?_
               rintro e w3 ⟨rfl, rfl⟩
               have HQ := Lib.hid HK.out.2
               go_wp2_with fail
               obtain ⟨qa', qb', qc', q', hq'⟩ := HKL.out.q
               have HLN := Lib.hid (len_any g cp st ([] : List ByteArray) qa' qb' qc' wr q'.q)
               have HIT := Lib.hid (items_any g cp st ([] : List ByteArray) qa' qb' qc' (wr.drewN 1) (q'.q.drewN 1) (by have := hLc; omega))
               have OA9 : (wr).ownsRow w.heap.size 9 1 (.slice A (all.length) kA) (all.length) (strs all) := by first | exact HKL.out.oA | (have h := HKL.out.oA; simpa using h)
               obtain ⟨uA1, uA2, uA3⟩ := own_addr OA9
               have hlc9 := hLc
               have HOA9 := Lib.hid OA9
               clear q' OA9
               refine HLN.out.mono ?_
               rintro e w9 ⟨rfl, rfl⟩
               by_cases hs2 : st = 2
               · have hs2b : (st == 2) = true := by simp [hs2]
                 obtain ⟨pre, hpre⟩ := HQ.out.late hs2
                 obtain ⟨p, hp⟩ : ∃ p, p = pre.length := ⟨_, rfl⟩
                 have hN : all.length = p + (([] : List ByteArray)).length := by
                   have h := congrArg List.length hpre
                   simp only [List.length_append, List.length_cons, List.length_nil] at h ⊢
                   omega
                 have HPR := Lib.hid (show (strs all).drop p = strs ([] : List ByteArray) by rw [hpre, hp]; simp [strs])
                 have HO := Lib.hid (Held.of_own HOA9.out)
                 have hp2 : p ≤ kA := by omega
                 have hp3 : (p : Int) ≤ kA := by omega
                 clear hpre hp hs2
                 have HN := Lib.hid hN
                 rw [hN]
                 have hb9 : p + (([] : List ByteArray)).length ≤ 9223372036854775807 := by omega
                 have hpL : (p : Int) ≤ (p : Int) + ((([] : List ByteArray)).length : Int) := by omega
                 have hw9 : IntKind.i64.wrap (p : Int) = (p : Int) := by rw [IntKind.wrap_i64]; omega
                 by_cases hkp : kA = p
                 · have hL0 : (([] : List ByteArray)).length = 0 := by omega
                   have HE : Hid (∀ (W' : World) (X : Option Addr), Held W' 9 1 X 0 0 (strs ([] : List ByteArray))) := fun W' X => ⟨by rw [List.eq_nil_of_length_eq_zero hL0]; rfl, Nat.le_refl _, by omega, fun _ => ⟨rfl, rfl⟩, fun h => absurd h (by omega)⟩
                   have hKP := Lib.hid hkp
                   have hL0' := Lib.hid hL0
                   clear hN hL0' uA3 hKP
                   subst hkp
                   go_wp2_with fail
                   go_region_held3 (fun w' => True)
                     (first
                       | go_keep
                       | trivial)
                     ((first
                       | (go_at_call 12
                          refine HIT.out.mono ?_
                          rintro e w10 ⟨A6, k6, rfl, hh6, b6'⟩
                          have b6 : Below wr.heap.size wr w10 := ⟨b6'.os, b6'.tape, b6'.output, b6'.size, b6'.block⟩
                          have H6 := Lib.hid (And.intro hh6 b6)
                          clear hh6 b6 b6')
                       | (go_at_call 11
                          refine (texts_eq _ _ _ _ _ _ ([] : List ByteArray) _ (by first | rfl | omega | (simp; done) | (simp; omega)) (by first | rfl | omega | (simp; done) | (simp; omega)) (by first | exact H6.out.1 | (have h6 := H6.out.1; rw [hL0] at h6; exact h6)) (HE.out _ _) (by omega)).mono ?_
                          rintro e w11 ⟨rfl, q11, rfl⟩)))
                   go_wp2_with fail
                   go_roundw
                   case rel => exact ⟨m + 1, A, T, kA, kT, all, took, ([] : List ByteArray), by omega, by go_num, (by congr 1; have := HN.out; (try simp only [List.length_append, List.length_cons, List.length_nil] at *); omega), by first | rfl | simp, by simpa using (HKL.out.below (below_drewN H6.out.2 _)), HQ.out, hlc9, (by first | (simp; done) | (simp; omega) | omega), (by first | (simp; done) | (simp; omega) | omega), hgw⟩
                   case measure => simp [intOf]; omega
                 · obtain ⟨x, hAx⟩ : ∃ x, A = some ⟨x, 0, none⟩ := by
                     rcases uA3 with h | h
                     · omega
                     · exact h
                   have HALL := Lib.hid (Held.cutFrom (b := x) (off := 0) (m := p) (by have h := HO.out; rw [hAx] at h; exact h) (by omega))
                   have HAX := Lib.hid hAx
                   rw [hAx]
                   clear hN uA3 hAx
                   go_wp2_with fail
                   go_region_held3 (fun w' => True)
                     (first
                       | go_keep
                       | trivial)
                     ((first
                       | (go_at_call 12
                          refine HIT.out.mono ?_
                          rintro e w10 ⟨A6, k6, rfl, hh6, b6'⟩
                          have b6 : Below wr.heap.size wr w10 := ⟨b6'.os, b6'.tape, b6'.output, b6'.size, b6'.block⟩
                          have H6 := Lib.hid (And.intro hh6 b6)
                          clear hh6 b6 b6')
                       | (go_at_call 11
                          refine (texts_eq _ _ _ _ _ _ ([] : List ByteArray) _ rfl (by have := HN.out; first | rfl | omega | (simp; done) | (simp; omega)) H6.out.1 (by have h := HALL.out; rw [if_neg hkp, HPR.out, Nat.zero_add] at h; have h2 := h.below H6.out.2; have e2 := HN.out; first | exact h2 | (rw [e2, Nat.add_sub_cancel_left] at h2; exact h2) | (rw [e2] at h2; simpa using h2)) (by omega)).mono ?_
                          rintro e w11 ⟨rfl, q11, rfl⟩)))
                   go_wp2_with fail
                   go_roundw
                   case rel => exact ⟨m + 1, A, T, kA, kT, all, took, ([] : List ByteArray), by omega, by go_num, (by rw [HAX.out]; congr 1; have := HN.out; (try simp only [List.length_append, List.length_cons, List.length_nil] at *); omega), by first | rfl | simp, by simpa using (HKL.out.below (below_drewN H6.out.2 _)), HQ.out, hlc9, (by first | (simp; done) | (simp; omega) | omega), (by first | (simp; done) | (simp; omega) | omega), hgw⟩
                   case measure => simp [intOf]; omega
               · have hs2b : (st == 2) = false := by simp [hs2]
                 clear hs2
                 go_wp2_with fail
                 go_quiet (fail)
                 go_wp2_with fail
                 go_roundw
                 case rel => exact ⟨m + 1, A, T, kA, kT, all, took, ([] : List ByteArray), by omega, by go_num, by first | rfl | simp, by first | rfl | simp, by simpa using (HKL.out.below (below_drewN (Below.refl _ _) _)), HQ.out, hlc9, (by first | (simp; done) | (simp; omega) | omega), (by first | (simp; done) | (simp; omega) | omega), hgw⟩
                 case measure => simp [intOf]; omega)
          | cons s5 L5 =>
            obtain ⟨qa, qb, qc, q, hqb⟩ := HK.out.1.q
            have HT := Lib.hid (take_anyF g cp st s5 L5 qa qb qc wr q (by simp at hLc; omega) (by omega) (by omega))
            clear q
            rcases hk with rfl | rfl
            all_goals
              (go_wp2_with fail
               refine HT.out.mono ?_
               rintro e w3 ⟨rfl, q3, o3⟩
               have K3 := HK.out.1.turn hgw q3 o3 (M' := (m : Int) + 1) (by omega)
               have H3 := Lib.hid K3
               clear K3 q3 o3
               have HR := Lib.hid (reads_new w3 s5)
               have HQ := Lib.hid HK.out.2.take
               have hb3 := H3.out.bl.size
               go_wp2_with (first
                 | (at_builtin
                    refine wpList_append_any _ rfl (.tmp 78) (.tmp 80) _ rfl w.heap.size 9 i0 _ 1 16 Try.underlying28 hi0 hz0 hz1 hz2 rfl (by omega) (.slice T took.length kT) took.length (strs took) rfl (H3.out.oT.alloc _) (w3.heap.size + 1) (some ⟨w3.heap.size, 0, none⟩) 1 1 [.string s5] rfl HR.out (by simp [Value.oneCell']) (by simp only [maxLen]; omega) (by omega) (by simp; omega) ?_
                    intro v4 w4 hn4 hg4 hd4
                    obtain ⟨T4, k4, rfl⟩ := slice_of_own' hn4
                    have K4 := (H3.out.below ((Below.refl _ _).alloc (Nat.le_refl _) _)).pushT hn4 hg4 hd4
                    have H4 := Lib.hid K4
                    clear K4 hn4 hg4 hd4))
               obtain ⟨qa', qb', qc', q', hq'⟩ := H4.out.q
               have HLN := Lib.hid (len_any g cp st L5 qa' qb' qc' w4 q'.q)
               have HIT := Lib.hid (items_any g cp st L5 qa' qb' qc' (w4.drewN 1) (q'.q.drewN 1) (by have := (by simp at hLc; omega : (L5.length : Int) ≤ cp); omega))
               have OA9 : (w4).ownsRow w.heap.size 9 1 (.slice A (all.length) kA) (all.length) (strs all) := by first | exact H4.out.oA | (have h := H4.out.oA; simpa using h)
               obtain ⟨uA1, uA2, uA3⟩ := own_addr OA9
               have hlc9 := (by simp at hLc; omega : (L5.length : Int) ≤ cp)
               have HOA9 := Lib.hid OA9
               clear q' OA9
               refine HLN.out.mono ?_
               rintro e w9 ⟨rfl, rfl⟩
               by_cases hs2 : st = 2
               · have hs2b : (st == 2) = true := by simp [hs2]
                 obtain ⟨pre, hpre⟩ := HQ.out.late hs2
                 obtain ⟨p, hp⟩ : ∃ p, p = pre.length := ⟨_, rfl⟩
                 have hN : all.length = p + (L5).length := by
                   have h := congrArg List.length hpre
                   simp only [List.length_append, List.length_cons, List.length_nil] at h ⊢
                   omega
                 have HPR := Lib.hid (show (strs all).drop p = strs L5 by rw [hpre, hp]; simp [strs])
                 have HO := Lib.hid (Held.of_own HOA9.out)
                 have hp2 : p ≤ kA := by omega
                 have hp3 : (p : Int) ≤ kA := by omega
                 clear hpre hp hs2
                 have HN := Lib.hid hN
                 rw [hN]
                 have hb9 : p + (L5).length ≤ 9223372036854775807 := by omega
                 have hpL : (p : Int) ≤ (p : Int) + ((L5).length : Int) := by omega
                 have hw9 : IntKind.i64.wrap (p : Int) = (p : Int) := by rw [IntKind.wrap_i64]; omega
                 by_cases hkp : kA = p
                 · have hL0 : (L5).length = 0 := by omega
                   have HE : Hid (∀ (W' : World) (X : Option Addr), Held W' 9 1 X 0 0 (strs L5)) := fun W' X => ⟨by rw [List.eq_nil_of_length_eq_zero hL0]; rfl, Nat.le_refl _, by omega, fun _ => ⟨rfl, rfl⟩, fun h => absurd h (by omega)⟩
                   have hKP := Lib.hid hkp
                   have hL0' := Lib.hid hL0
                   clear hN hL0' uA3 hKP
                   subst hkp
                   go_wp2_with fail
                   go_region_held3 (fun w' => True)
                     (first
                       | go_keep
                       | trivial)
                     ((first
                       | (go_at_call 12
                          refine HIT.out.mono ?_
                          rintro e w10 ⟨A6, k6, rfl, hh6, b6'⟩
                          have b6 : Below w4.heap.size w4 w10 := ⟨b6'.os, b6'.tape, b6'.output, b6'.size, b6'.block⟩
                          have H6 := Lib.hid (And.intro hh6 b6)
                          clear hh6 b6 b6')
                       | (go_at_call 11
                          refine (texts_eq _ _ _ _ _ _ L5 _ (by first | rfl | omega | (simp; done) | (simp; omega)) (by first | rfl | omega | (simp; done) | (simp; omega)) (by first | exact H6.out.1 | (have h6 := H6.out.1; rw [hL0] at h6; exact h6)) (HE.out _ _) (by omega)).mono ?_
                          rintro e w11 ⟨rfl, q11, rfl⟩)))
                   go_wp2_with fail
                   go_roundw
                   case rel => exact ⟨m + 1, A, T4, kA, k4, all, (took ++ [s5]), L5, by omega, by go_num, (by congr 1; have := HN.out; (try simp only [List.length_append, List.length_cons, List.length_nil] at *); omega), by first | rfl | simp, by simpa using (H4.out.below (below_drewN H6.out.2 _)), HQ.out, hlc9, (by first | (simp; done) | (simp; omega) | omega), (by first | (simp; done) | (simp; omega) | omega), hgw⟩
                   case measure => simp [intOf]; omega
                 · obtain ⟨x, hAx⟩ : ∃ x, A = some ⟨x, 0, none⟩ := by
                     rcases uA3 with h | h
                     · omega
                     · exact h
                   have HALL := Lib.hid (Held.cutFrom (b := x) (off := 0) (m := p) (by have h := HO.out; rw [hAx] at h; exact h) (by omega))
                   have HAX := Lib.hid hAx
                   rw [hAx]
                   clear hN uA3 hAx
                   go_wp2_with fail
                   go_region_held3 (fun w' => True)
                     (first
                       | go_keep
                       | trivial)
                     ((first
                       | (go_at_call 12
                          refine HIT.out.mono ?_
                          rintro e w10 ⟨A6, k6, rfl, hh6, b6'⟩
                          have b6 : Below w4.heap.size w4 w10 := ⟨b6'.os, b6'.tape, b6'.output, b6'.size, b6'.block⟩
                          have H6 := Lib.hid (And.intro hh6 b6)
                          clear hh6 b6 b6')
                       | (go_at_call 11
                          refine (texts_eq _ _ _ _ _ _ L5 _ rfl (by have := HN.out; first | rfl | omega | (simp; done) | (simp; omega)) H6.out.1 (by have h := HALL.out; rw [if_neg hkp, HPR.out, Nat.zero_add] at h; have h2 := h.below H6.out.2; have e2 := HN.out; first | exact h2 | (rw [e2, Nat.add_sub_cancel_left] at h2; exact h2) | (rw [e2] at h2; simpa using h2)) (by omega)).mono ?_
                          rintro e w11 ⟨rfl, q11, rfl⟩)))
                   go_wp2_with fail
                   go_roundw
                   case rel => exact ⟨m + 1, A, T4, kA, k4, all, (took ++ [s5]), L5, by omega, by go_num, (by rw [HAX.out]; congr 1; have := HN.out; (try simp only [List.length_append, List.length_cons, List.length_nil] at *); omega), by first | rfl | simp, by simpa using (H4.out.below (below_drewN H6.out.2 _)), HQ.out, hlc9, (by first | (simp; done) | (simp; omega) | omega), (by first | (simp; done) | (simp; omega) | omega), hgw⟩
                   case measure => simp [intOf]; omega
               · have hs2b : (st == 2) = false := by simp [hs2]
                 clear hs2
                 go_wp2_with fail
                 go_quiet (fail)
                 go_wp2_with fail
                 go_roundw
                 case rel => exact ⟨m + 1, A, T4, kA, k4, all, (took ++ [s5]), L5, by omega, by go_num, by first | rfl | simp, by first | rfl | simp, by simpa using (H4.out.below (below_drewN (Below.refl _ _) _)), HQ.out, hlc9, (by first | (simp; done) | (simp; omega) | omega), (by first | (simp; done) | (simp; omega) | omega), hgw⟩
                 case measure => simp [intOf]; omega)
        · have hk4 : (kd == 4) = false := by simp; omega
          have hk5 : (kd == 5) = false := by simp; omega
          clear hk
          obtain ⟨qa, qb, qc, q, hqb⟩ := HK.out.1.q
          have HP := Lib.hid (put_allF g cp st L qa qb qc m s wr q h0 h1 s0 s1 hLc hqb (by omega))
          clear q
          go_wp2_with fail
          refine HP.out.mono ?_
          rintro e w3 ⟨v, L', a', b', c', rfl, q3, o3, hL', hb', hcase⟩
          have K3 := HK.out.1.turn hgw q3 o3 hb'
          have H3 := Lib.hid K3
          clear K3 q3 o3 hb'
          have c1' : w3.cell? ⟨bq, off + m * 2 + 1, none⟩ = some (.string s) := (H3.out.bl.cell (p := ⟨bq, off + m * 2 + 1, none⟩) hbl).trans ((HK.out.1.bl.cell (p := ⟨bq, off + m * 2 + 1, none⟩) hbl).symm.trans c1)
          rcases hcase with ⟨rfl, rfl⟩ | ⟨hv, hp⟩
          · have HQ := Lib.hid HK.out.2
            go_wp2_with fail
            obtain ⟨qa', qb', qc', q', hq'⟩ := H3.out.q
            have HLN := Lib.hid (len_any g cp st L' qa' qb' qc' w3 q'.q)
            have HIT := Lib.hid (items_any g cp st L' qa' qb' qc' (w3.drewN 1) (q'.q.drewN 1) (by have := hL'; omega))
            have OA9 : (w3).ownsRow w.heap.size 9 1 (.slice A (all.length) kA) (all.length) (strs all) := by first | exact H3.out.oA | (have h := H3.out.oA; simpa using h)
            obtain ⟨uA1, uA2, uA3⟩ := own_addr OA9
            have hlc9 := hL'
            have HOA9 := Lib.hid OA9
            clear q' OA9
            refine HLN.out.mono ?_
            rintro e w9 ⟨rfl, rfl⟩
            by_cases hs2 : st = 2
            · have hs2b : (st == 2) = true := by simp [hs2]
              obtain ⟨pre, hpre⟩ := HQ.out.late hs2
              obtain ⟨p, hp⟩ : ∃ p, p = pre.length := ⟨_, rfl⟩
              have hN : all.length = p + (L').length := by
                have h := congrArg List.length hpre
                simp only [List.length_append, List.length_cons, List.length_nil] at h ⊢
                omega
              have HPR := Lib.hid (show (strs all).drop p = strs L' by rw [hpre, hp]; simp [strs])
              have HO := Lib.hid (Held.of_own HOA9.out)
              have hp2 : p ≤ kA := by omega
              have hp3 : (p : Int) ≤ kA := by omega
              clear hpre hp hs2
              have HN := Lib.hid hN
              rw [hN]
              have hb9 : p + (L').length ≤ 9223372036854775807 := by omega
              have hpL : (p : Int) ≤ (p : Int) + ((L').length : Int) := by omega
              have hw9 : IntKind.i64.wrap (p : Int) = (p : Int) := by rw [IntKind.wrap_i64]; omega
              by_cases hkp : kA = p
              · have hL0 : (L').length = 0 := by omega
                have HE : Hid (∀ (W' : World) (X : Option Addr), Held W' 9 1 X 0 0 (strs L')) := fun W' X => ⟨by rw [List.eq_nil_of_length_eq_zero hL0]; rfl, Nat.le_refl _, by omega, fun _ => ⟨rfl, rfl⟩, fun h => absurd h (by omega)⟩
                have hKP := Lib.hid hkp
                have hL0' := Lib.hid hL0
                clear hN hL0' uA3 hKP
                subst hkp
                go_wp2_with fail
                go_region_held3 (fun w' => True)
                  (first
                    | go_keep
                    | trivial)
                  ((first
                    | (go_at_call 12
                       refine HIT.out.mono ?_
                       rintro e w10 ⟨A6, k6, rfl, hh6, b6'⟩
                       have b6 : Below w3.heap.size w3 w10 := ⟨b6'.os, b6'.tape, b6'.output, b6'.size, b6'.block⟩
                       have H6 := Lib.hid (And.intro hh6 b6)
                       clear hh6 b6 b6')
                    | (go_at_call 11
                       refine (texts_eq _ _ _ _ _ _ L' _ (by first | rfl | omega | (simp; done) | (simp; omega)) (by first | rfl | omega | (simp; done) | (simp; omega)) (by first | exact H6.out.1 | (have h6 := H6.out.1; rw [hL0] at h6; exact h6)) (HE.out _ _) (by omega)).mono ?_
                       rintro e w11 ⟨rfl, q11, rfl⟩)))
                go_wp2_with fail
                go_roundw
                case rel => exact ⟨m + 1, A, T, kA, kT, all, took, L', by omega, by go_num, (by congr 1; have := HN.out; (try simp only [List.length_append, List.length_cons, List.length_nil] at *); omega), by first | rfl | simp, by simpa using (H3.out.below (below_drewN H6.out.2 _)), HQ.out, hlc9, (by first | (simp; done) | (simp; omega) | omega), (by first | (simp; done) | (simp; omega) | omega), hgw⟩
                case measure => simp [intOf]; omega
              · obtain ⟨x, hAx⟩ : ∃ x, A = some ⟨x, 0, none⟩ := by
                  rcases uA3 with h | h
                  · omega
                  · exact h
                have HALL := Lib.hid (Held.cutFrom (b := x) (off := 0) (m := p) (by have h := HO.out; rw [hAx] at h; exact h) (by omega))
                have HAX := Lib.hid hAx
                rw [hAx]
                clear hN uA3 hAx
                go_wp2_with fail
                go_region_held3 (fun w' => True)
                  (first
                    | go_keep
                    | trivial)
                  ((first
                    | (go_at_call 12
                       refine HIT.out.mono ?_
                       rintro e w10 ⟨A6, k6, rfl, hh6, b6'⟩
                       have b6 : Below w3.heap.size w3 w10 := ⟨b6'.os, b6'.tape, b6'.output, b6'.size, b6'.block⟩
                       have H6 := Lib.hid (And.intro hh6 b6)
                       clear hh6 b6 b6')
                    | (go_at_call 11
                       refine (texts_eq _ _ _ _ _ _ L' _ rfl (by have := HN.out; first | rfl | omega | (simp; done) | (simp; omega)) H6.out.1 (by have h := HALL.out; rw [if_neg hkp, HPR.out, Nat.zero_add] at h; have h2 := h.below H6.out.2; have e2 := HN.out; first | exact h2 | (rw [e2, Nat.add_sub_cancel_left] at h2; exact h2) | (rw [e2] at h2; simpa using h2)) (by omega)).mono ?_
                       rintro e w11 ⟨rfl, q11, rfl⟩)))
                go_wp2_with fail
                go_roundw
                case rel => exact ⟨m + 1, A, T, kA, kT, all, took, L', by omega, by go_num, (by rw [HAX.out]; congr 1; have := HN.out; (try simp only [List.length_append, List.length_cons, List.length_nil] at *); omega), by first | rfl | simp, by simpa using (H3.out.below (below_drewN H6.out.2 _)), HQ.out, hlc9, (by first | (simp; done) | (simp; omega) | omega), (by first | (simp; done) | (simp; omega) | omega), hgw⟩
                case measure => simp [intOf]; omega
            · have hs2b : (st == 2) = false := by simp [hs2]
              clear hs2
              go_wp2_with fail
              go_quiet (fail)
              go_wp2_with fail
              go_roundw
              case rel => exact ⟨m + 1, A, T, kA, kT, all, took, L', by omega, by go_num, by first | rfl | simp, by first | rfl | simp, by simpa using (H3.out.below (below_drewN (Below.refl _ _) _)), HQ.out, hlc9, (by first | (simp; done) | (simp; omega) | omega), (by first | (simp; done) | (simp; omega) | omega), hgw⟩
              case measure => simp [intOf]; omega
          · have hv2 : (v != 0) = true := by simp; omega
            have HQ := Lib.hid (HK.out.2.put hp)
            have HR := Lib.hid (reads_new w3 s)
            have hb3 := H3.out.bl.size
            clear hp
            go_wp2_with (first
              | (at_builtin
                 refine wpList_append_any _ rfl (.tmp 90) (.tmp 96) _ rfl w.heap.size 9 i0 _ 1 16 Try.underlying28 hi0 hz0 hz1 hz2 rfl (by omega) (.slice A all.length kA) all.length (strs all) rfl (H3.out.oA.alloc _) (w3.heap.size + 1) (some ⟨w3.heap.size, 0, none⟩) 1 1 [.string s] rfl HR.out (by simp [Value.oneCell']) (by simp only [maxLen]; omega) (by omega) (by simp; omega) ?_
                 intro v4 w4 hn4 hg4 hd4
                 obtain ⟨A4, k4, rfl⟩ := slice_of_own' hn4
                 have K4 := (H3.out.below ((Below.refl _ _).alloc (Nat.le_refl _) _)).pushA hn4 hg4 hd4
                 have H4 := Lib.hid K4
                 clear K4 hn4 hg4 hd4))
            obtain ⟨qa', qb', qc', q', hq'⟩ := H4.out.q
            have HLN := Lib.hid (len_any g cp st L' qa' qb' qc' w4 q'.q)
            have HIT := Lib.hid (items_any g cp st L' qa' qb' qc' (w4.drewN 1) (q'.q.drewN 1) (by have := hL'; omega))
            have OA9 : (w4).ownsRow w.heap.size 9 1 (.slice A4 ((all.length + 1)) k4) ((all.length + 1)) (strs (all ++ [s])) := by first | exact H4.out.oA | (have h := H4.out.oA; simpa using h)
            obtain ⟨uA1, uA2, uA3⟩ := own_addr OA9
            have hlc9 := hL'
            have HOA9 := Lib.hid OA9
            clear q' OA9
            refine HLN.out.mono ?_
            rintro e w9 ⟨rfl, rfl⟩
            by_cases hs2 : st = 2
            · have hs2b : (st == 2) = true := by simp [hs2]
              obtain ⟨pre, hpre⟩ := HQ.out.late hs2
              obtain ⟨p, hp⟩ : ∃ p, p = pre.length := ⟨_, rfl⟩
              have hN : (all.length + 1) = p + (L').length := by
                have h := congrArg List.length hpre
                simp only [List.length_append, List.length_cons, List.length_nil] at h ⊢
                omega
              have HPR := Lib.hid (show (strs (all ++ [s])).drop p = strs L' by rw [hpre, hp]; simp [strs])
              have HO := Lib.hid (Held.of_own HOA9.out)
              have hp2 : p ≤ k4 := by omega
              have hp3 : (p : Int) ≤ k4 := by omega
              clear hpre hp hs2
              have HN := Lib.hid hN
              rw [hN]
              have hb9 : p + (L').length ≤ 9223372036854775807 := by omega
              have hpL : (p : Int) ≤ (p : Int) + ((L').length : Int) := by omega
              have hw9 : IntKind.i64.wrap (p : Int) = (p : Int) := by rw [IntKind.wrap_i64]; omega
              by_cases hkp : k4 = p
              · have hL0 : (L').length = 0 := by omega
                have HE : Hid (∀ (W' : World) (X : Option Addr), Held W' 9 1 X 0 0 (strs L')) := fun W' X => ⟨by rw [List.eq_nil_of_length_eq_zero hL0]; rfl, Nat.le_refl _, by omega, fun _ => ⟨rfl, rfl⟩, fun h => absurd h (by omega)⟩
                have hKP := Lib.hid hkp
                have hL0' := Lib.hid hL0
                clear hN hL0' uA3 hKP
                subst hkp
                go_wp2_with fail
                go_region_held3 (fun w' => True)
                  (first
                    | go_keep
                    | trivial)
                  ((first
                    | (go_at_call 12
                       refine HIT.out.mono ?_
                       rintro e w10 ⟨A6, k6, rfl, hh6, b6'⟩
                       have b6 : Below w4.heap.size w4 w10 := ⟨b6'.os, b6'.tape, b6'.output, b6'.size, b6'.block⟩
                       have H6 := Lib.hid (And.intro hh6 b6)
                       clear hh6 b6 b6')
                    | (go_at_call 11
                       refine (texts_eq _ _ _ _ _ _ L' _ (by first | rfl | omega | (simp; done) | (simp; omega)) (by first | rfl | omega | (simp; done) | (simp; omega)) (by first | exact H6.out.1 | (have h6 := H6.out.1; rw [hL0] at h6; exact h6)) (HE.out _ _) (by omega)).mono ?_
                       rintro e w11 ⟨rfl, q11, rfl⟩)))
                go_wp2_with fail
                go_roundw
                case rel => exact ⟨m + 1, A4, T, k4, kT, (all ++ [s]), took, L', by omega, by go_num, (by congr 1; have := HN.out; (try simp only [List.length_append, List.length_cons, List.length_nil] at *); omega), by first | rfl | simp, by simpa using (H4.out.below (below_drewN H6.out.2 _)), HQ.out, hlc9, (by first | (simp; done) | (simp; omega) | omega), (by first | (simp; done) | (simp; omega) | omega), hgw⟩
                case measure => simp [intOf]; omega
              · obtain ⟨x, hAx⟩ : ∃ x, A4 = some ⟨x, 0, none⟩ := by
                  rcases uA3 with h | h
                  · omega
                  · exact h
                have HALL := Lib.hid (Held.cutFrom (b := x) (off := 0) (m := p) (by have h := HO.out; rw [hAx] at h; exact h) (by omega))
                have HAX := Lib.hid hAx
                rw [hAx]
                clear hN uA3 hAx
                go_wp2_with fail
                go_region_held3 (fun w' => True)
                  (first
                    | go_keep
                    | trivial)
                  ((first
                    | (go_at_call 12
                       refine HIT.out.mono ?_
                       rintro e w10 ⟨A6, k6, rfl, hh6, b6'⟩
                       have b6 : Below w4.heap.size w4 w10 := ⟨b6'.os, b6'.tape, b6'.output, b6'.size, b6'.block⟩
                       have H6 := Lib.hid (And.intro hh6 b6)
                       clear hh6 b6 b6')
                    | (go_at_call 11
                       refine (texts_eq _ _ _ _ _ _ L' _ rfl (by have := HN.out; first | rfl | omega | (simp; done) | (simp; omega)) H6.out.1 (by have h := HALL.out; rw [if_neg hkp, HPR.out, Nat.zero_add] at h; have h2 := h.below H6.out.2; have e2 := HN.out; first | exact h2 | (rw [e2, Nat.add_sub_cancel_left] at h2; exact h2) | (rw [e2] at h2; simpa using h2)) (by omega)).mono ?_
                       rintro e w11 ⟨rfl, q11, rfl⟩)))
                go_wp2_with fail
                go_roundw
                case rel => exact ⟨m + 1, A4, T, k4, kT, (all ++ [s]), took, L', by omega, by go_num, (by rw [HAX.out]; congr 1; have := HN.out; (try simp only [List.length_append, List.length_cons, List.length_nil] at *); omega), by first | rfl | simp, by simpa using (H4.out.below (below_drewN H6.out.2 _)), HQ.out, hlc9, (by first | (simp; done) | (simp; omega) | omega), (by first | (simp; done) | (simp; omega) | omega), hgw⟩
                case measure => simp [intOf]; omega
            · have hs2b : (st == 2) = false := by simp [hs2]
              clear hs2
              go_wp2_with fail
              go_quiet (fail)
              go_wp2_with fail
              go_roundw
              case rel => exact ⟨m + 1, A4, T, k4, kT, (all ++ [s]), took, L', by omega, by go_num, by first | rfl | simp, by first | rfl | simp, by simpa using (H4.out.below (below_drewN (Below.refl _ _) _)), HQ.out, hlc9, (by first | (simp; done) | (simp; omega) | omega), (by first | (simp; done) | (simp; omega) | omega), hgw⟩
              case measure => simp [intOf]; omega
    · have hend : ¬ m < n ∨ (m < n ∧ ¬ m < 150) := by omega
      clear hgo
      by_cases hst0 : st = 0
      · have hs0b : (st == 0) = true := by simp [hst0]
        have herr := HK.out.2.err hst0
        obtain ⟨qa, qb, qc, q, hqb⟩ := HK.out.1.q
        have HIT := Lib.hid (fun (W' : World) (hW : Below wr.heap.size wr W') => items_any g cp st L qa qb qc W' (q.below_ hW).q (by omega))
        have hN : all.length = took.length + L.length := by rw [herr, List.length_append]
        have HAT := Lib.hid (Held.of_own HK.out.1.oA)
        have HTT := Lib.hid (Held.of_own HK.out.1.oT)
        have HP1 := Lib.hid (show (strs all).take took.length = strs took by rw [herr]; simp [strs])
        have HP2 := Lib.hid (show (strs all).drop took.length = strs L by rw [herr]; simp [strs])
        have HN := Lib.hid hN
        have ht1 : took.length ≤ kA := by omega
        have ht2 : (took.length : Int) ≤ kA := by omega
        have ht3 : (took.length : Int) ≤ (took.length : Int) + (L.length : Int) := by omega
        have ht4 : took.length ≤ 150 := by omega
        rw [hN]
        clear q herr hst0 hN
        rcases oA3 with ⟨rfl, oA4, oA5⟩ | ⟨x, hAx⟩
        · have hz1 : took.length = 0 := by omega
          have hz2 : L.length = 0 := by have := HN.out; omega
          have HE : Hid (∀ (W' : World) (X : Option Addr) (M : List ByteArray), M.length = 0 → Held W' 9 1 X 0 0 (strs M)) := fun W' X M hM => ⟨by rw [List.eq_nil_of_length_eq_zero hM]; rfl, Nat.le_refl _, by omega, fun _ => ⟨rfl, rfl⟩, fun h => absurd h (by omega)⟩
          subst oA5
          have HZ1 := Lib.hid hz1
          have HZ2 := Lib.hid hz2
          rcases hend with hend | ⟨hend, hend2⟩
          all_goals
            (go_wp2_with fail
             go_region_held3 (fun w' => True)
               (first
                 | go_keep
                 | trivial)
               ((first
                 | (go_at_call 12
                    refine (HIT.out _ (by first | exact below_drewN (Below.refl _ _) _ | exact below_drewN (below_drewN (Below.refl _ _) 1) _)).mono ?_
                    rintro e w10 ⟨A6, k6, rfl, hh6, b6'⟩
                    have b6 : Below wr.heap.size wr w10 := ⟨b6'.os, b6'.tape, b6'.output, b6'.size, b6'.block⟩
                    have H6 := Lib.hid (And.intro hh6 b6)
                    clear hh6 b6 b6')
                 | (go_at_call_of 11 (Value.slice T 0 kT)
                    refine (texts_eq _ _ _ _ _ _ took _ HZ1.out.symm HZ1.out.symm (by have h := HTT.out; rw [HZ1.out] at h; exact h) (HE.out _ _ _ HZ1.out) (by omega)).mono ?_
                    rintro e w11 ⟨rfl, q11, rfl⟩)
                 | (go_at_call 11
                    refine (texts_eq _ _ _ _ _ _ L _ (by first | rfl | exact HZ2.out.symm) HZ2.out.symm (by have h := H6.out.1; first | exact h | (rw [HZ2.out] at h; exact h)) (HE.out _ _ _ HZ2.out) (by omega)).mono ?_
                    rintro e w12 ⟨rfl, q12, rfl⟩)))
             go_wp2_with fail
             go_ret
             exact ⟨rfl, HK.out.1.bl.trans ((below_drewN H6.out.2 _).mono HK.out.1.bl.size)⟩)
        · have HAX := Lib.hid hAx
          have HAT2 := Lib.hid (show Held wr 9 1 (some ⟨x, 0, none⟩) all.length kA (strs all) by rw [← hAx]; exact HAT.out)
          have HAK := Lib.hid (show Held wr 9 1 (some ⟨x, 0, none⟩) took.length kA (strs took) by have h := HAT2.out.cutTo (m := took.length) (by have := HN.out; omega); rw [HP1.out] at h; exact h)
          rw [hAx]
          clear hAx
          by_cases hkp : kA = took.length
          · have hz2 : L.length = 0 := by have := HN.out; omega
            have HE : Hid (∀ (W' : World) (X : Option Addr) (M : List ByteArray), M.length = 0 → Held W' 9 1 X 0 0 (strs M)) := fun W' X M hM => ⟨by rw [List.eq_nil_of_length_eq_zero hM]; rfl, Nat.le_refl _, by omega, fun _ => ⟨rfl, rfl⟩, fun h => absurd h (by omega)⟩
            have HZ2 := Lib.hid hz2
            subst hkp
            rcases hend with hend | ⟨hend, hend2⟩
            all_goals
              (go_wp2_with fail
               go_region_held3 (fun w' => True)
                 (first
                   | go_keep
                   | trivial)
                 ((first
                   | (go_at_call 12
                      refine (HIT.out _ (by first | exact below_drewN (Below.refl _ _) _ | exact below_drewN (below_drewN (Below.refl _ _) 1) _)).mono ?_
                      rintro e w10 ⟨A6, k6, rfl, hh6, b6'⟩
                      have b6 : Below wr.heap.size wr w10 := ⟨b6'.os, b6'.tape, b6'.output, b6'.size, b6'.block⟩
                      have H6 := Lib.hid (And.intro hh6 b6)
                      clear hh6 b6 b6')
                   | (go_at_call_of 11 (Value.slice T took.length kT)
                      refine (texts_eq _ _ _ _ _ _ took _ rfl rfl (by exact HTT.out) (by exact HAK.out) (by omega)).mono ?_
                      rintro e w11 ⟨rfl, q11, rfl⟩)
                   | (go_at_call 11
                      refine (texts_eq _ _ _ _ _ _ L _ (by first | rfl | exact HZ2.out.symm) HZ2.out.symm (by have h := H6.out.1; first | exact h | (rw [HZ2.out] at h; exact h)) (HE.out _ _ _ HZ2.out) (by omega)).mono ?_
                      rintro e w12 ⟨rfl, q12, rfl⟩)))
               go_wp2_with fail
               go_ret
               exact ⟨rfl, HK.out.1.bl.trans ((below_drewN H6.out.2 _).mono HK.out.1.bl.size)⟩)
          · have HDR := Lib.hid (show Held wr 9 1 (some ⟨x, took.length, none⟩) L.length (kA - took.length) (strs L) by
              have h := HAT2.out.cutFrom (m := took.length) (by have := HN.out; omega)
              rw [if_neg hkp, HP2.out, Nat.zero_add, HN.out, Nat.add_sub_cancel_left] at h
              exact h)
            rcases hend with hend | ⟨hend, hend2⟩
            all_goals
              (go_wp2_with fail
               go_region_held3 (fun w' => True)
                 (first
                   | go_keep
                   | trivial)
                 ((first
                   | (go_at_call 12
                      refine (HIT.out _ (by first | exact below_drewN (Below.refl _ _) _ | exact below_drewN (below_drewN (Below.refl _ _) 1) _)).mono ?_
                      rintro e w10 ⟨A6, k6, rfl, hh6, b6'⟩
                      have b6 : Below wr.heap.size wr w10 := ⟨b6'.os, b6'.tape, b6'.output, b6'.size, b6'.block⟩
                      have H6 := Lib.hid (And.intro hh6 b6)
                      clear hh6 b6 b6')
                   | (go_at_call_of 11 (Value.slice T took.length kT)
                      refine (texts_eq _ _ _ _ _ _ took _ rfl rfl (by exact HTT.out) (by exact HAK.out) (by omega)).mono ?_
                      rintro e w11 ⟨rfl, q11, rfl⟩)
                   | (go_at_call 11
                      refine (texts_eq _ _ _ _ _ _ L _ rfl rfl (by exact H6.out.1) (by exact HDR.out.below H6.out.2) (by omega)).mono ?_
                      rintro e w12 ⟨rfl, q12, rfl⟩)))
               go_wp2_with fail
               go_ret
               exact ⟨rfl, HK.out.1.bl.trans ((below_drewN H6.out.2 _).mono HK.out.1.bl.size)⟩)
      · have hs0b : (st == 0) = false := by simp [hst0]
        have HAT := Lib.hid (Held.of_own HK.out.1.oA)
        have HTT := Lib.hid (Held.of_own HK.out.1.oT)
        have hsub := HK.out.2.sub
        have hsb : took.Sublist all := (List.sublist_append_left took L).trans hsub
        have HSB := Lib.hid hsb
        have HBL := Lib.hid HK.out.1.bl
        have HOA := Lib.hid HK.out.1.oA
        have HOT := Lib.hid HK.out.1.oT
        obtain ⟨wo, rfl⟩ : ∃ wo : World, wo = wr := ⟨_, rfl⟩
        clear hsub hsb hst0 oA3 oT3
        rcases hend with hend | ⟨hend, hend2⟩
        all_goals
          (go_wp2_with fail
           go_loopw [17, 18] (fun kv iv w2 => ∃ k i : Nat, k ≤ took.length ∧ i ≤ all.length ∧ kv = .int .i64 k ∧ iv = .int .i64 i ∧ (took.drop k).Sublist (all.drop i) ∧ ∃ q, w2 = wo.drewN q) (fun _ i _ => all.length - (intOf i).toNat)
           case atStart => exact ⟨0, 0, by omega, by omega, rfl, rfl, HSB.out, 0, rfl⟩
           case round =>
             obtain ⟨k, i, hk, hi, rfl, rfl, hsl, q2, rfl⟩ := hrel
             have HSL := Lib.hid hsl
             clear hsl
             by_cases hgo : i < all.length ∧ k < took.length
             · obtain ⟨hi2, hk2⟩ := hgo
               have hxi : (strs all)[i]? = some (.string all[i]) := by simp [strs, hi2]
               have hyk : (strs took)[k]? = some (.string took[k]) := by simp [strs, hk2]
               obtain ⟨bx, ox, hAx, hbx, hcx⟩ := HAT.out.at_ hxi
               obtain ⟨bt, ot, hTx, hbt, hct⟩ := HTT.out.at_ hyk
               have HE := Lib.hid (fun (e : all[i] = took[k]) => gr_eq HSL.out hi2 hk2 e)
               have HN := Lib.hid (fun (e : all[i] ≠ took[k]) => gr_ne HSL.out hi2 hk2 e)
               have hi3 : (0 : Int) ≤ i := by omega
               have hi4 : (i : Int) < all.length := by omega
               have hk3 : (0 : Int) ≤ k := by omega
               have hk4 : (k : Int) < took.length := by omega
               have H9 := Lib.hid (And.intro hAx hTx)
               obtain rfl := own_zero HOA.out hAx
               obtain rfl := own_zero HOT.out hTx
               rw [Nat.zero_add] at hcx hct
               generalize all[i] = s1 at *
               generalize took[k] = s2 at *
               rw [hAx, hTx]
               clear hxi hyk hAx hTx
               by_cases he : s1 = s2
               · have HG := Lib.hid (HE.out he)
                 subst he
                 go_wp2_with fail
                 go_quiet (fail)
                 go_wp2_with fail
                 go_roundw
                 case rel => exact ⟨k + 1, i + 1, by omega, by omega, by go_num, by go_num, HG.out, _, rfl⟩
                 case measure => simp [intOf]; omega
               · have HG := Lib.hid (HN.out he)
                 have hb1 : (s1.toList == s2.toList) = false := beq_eq_false_iff_ne.2 (fun h => he (str_inj h))
                 go_wp2_with fail
                 go_quiet (fail)
                 go_wp2_with fail
                 go_roundw
                 case rel => exact ⟨k, i + 1, by omega, by omega, rfl, by go_num, HG.out, _, rfl⟩
                 case measure => simp [intOf]; omega
             · have hkt : k = took.length := by
                 rcases (by omega : all.length ≤ i ∨ took.length ≤ k) with h | h
                 · have := gr_end HSL.out h; omega
                 · omega
               rcases (by omega : ¬ i < all.length ∨ (i < all.length ∧ ¬ k < took.length)) with h9 | ⟨h9, h10⟩
               all_goals
                 (subst hkt
                  go_wp2_with fail
                  go_ret
                  exact ⟨by first | rfl | simp, below_drewN HBL.out _⟩))

theorem own : ownKnob Try.prog.godebug = none := by kernel_rfl

set_option maxRecDepth 100000 in
theorem lifted (os : Os) (started : os.Started) (H : Type) (enc : TypeId × Value → H) :
    ReturnsInHanded {} Try.checked os 3 .any (Rows.queueOrderSpec.pre6 enc Try.prog Try.f3 Rows.queueOrderRow.domain false) (Rows.queueOrderSpec.post enc Try.prog Try.f3 false true false false) := by
  refine returnsInHanded_of_change (C := Try.checked) own started (by kernel_rfl) Try.func3
    (ChangeSpec.witness6 (enc := enc) (C := Try.checked) false ⟨#[], #[.int .u8 0, .int .u8 0, .slice none 0 0], []⟩ 8 (by kernel_rfl) (by kernel_rfl) (by kernel_rfl) (by kernel_rfl)) ?_
  intro W base args ds gs before hval0 hW hcnd _
  have hval : ∀ (j : Nat) t v, Try.f3.params[j]? = some t → args[j]? = some v → Value.okWide Try.prog W .any base t v := hval0
  have hW' := hW
  obtain ⟨p, q, hA0, hV, rfl, hfz, hnd⟩ := hW
  have hA : DataW.TrodAll enc Try.prog W 0 (fun _ => true) true Try.f3.params.toList args.toList ds p := hA0
  rw [Try.params3] at hA hval
  obtain ⟨v0, vs0, d0, ds0, p0, q0, hargs, rfl, rfl, h0, r0⟩ := trodAll_cons hA
  obtain ⟨v1, vs1, d1, ds1, p1, q1, rfl, rfl, rfl, h1, r1⟩ := trodAll_cons r0
  obtain ⟨v2, vs2, d2, ds2, p2, q2, rfl, rfl, rfl, h2, r2⟩ := trodAll_cons r1
  obtain ⟨rfl, rfl, rfl⟩ := trodAll_nil r2
  obtain rfl : args = #[v0, v1, v2] := by cases args; simp_all
  obtain ⟨rfl, rfl⟩ := trodVars_none hV
  have g0 := h0
  have g1 := h1
  have g2 := h2
  obtain ⟨a0, rfl, _, _, w0⟩ := open_int Try.underlying5 (hval 0 5 v0 rfl rfl) h0
  obtain ⟨a1, rfl, _, _, w1⟩ := open_int Try.underlying5 (hval 1 5 v1 rfl rfl) h1
  obtain ⟨n2, C2, k2⟩ := open_rows Try.underlying22 (by kernel_rfl) (by decide) (ks_of Try.underlying30 Try.underlying3 Try.underlying9 (by kernel_rfl) (by kernel_rfl) rfl rfl rfl rfl) (hval 2 22 v2 rfl rfl) h2
  clear hA0 hval0
  have hlt : ∀ x ∈ (p0 ++ (p1 ++ (p2 ++ []))), x.block < W.heap.size := fun x hx => hW'.lt x (by simpa using hx)
  refine (walk W a0 w0 a1 w1 v2 n2 C2 k2).mono fun e W' ⟨he, hb⟩ => ?_
  subst he
  refine ⟨_, rfl, post_of_below (pa := (p0 ++ (p1 ++ (p2 ++ [])))) (pv := []) hW' (fun _ _ _ => (trodAll_cons_mk (shut_bool Try.underlying4 _) trodAll_mk0)) (fun sp hsp => ?_) (fun _ _ => rfl) (by simp) hb (ok_one (by kernel_rfl) rfl (okWide_bool_mk Try.underlying4 _))⟩
  exact trodAll_cons_mk (below_trod sp (by kernel_rfl) (by kernel_rfl) (of_decide_eq_true (by kernel_rfl)) g0 hb (fun x hx => hlt x (by simp [hx])) (fun x hx => hsp x (by simp [hx])))
    (trodAll_cons_mk (below_trod sp (by kernel_rfl) (by kernel_rfl) (of_decide_eq_true (by kernel_rfl)) g1 hb (fun x hx => hlt x (by simp [hx])) (fun x hx => hsp x (by simp [hx])))
    (trodAll_cons_mk (below_trod sp (by kernel_rfl) (by kernel_rfl) (of_decide_eq_true (by kernel_rfl)) g2 hb (fun x hx => hlt x (by simp [hx])) (fun x hx => hsp x (by simp [hx])))
    (trodAll_mk0)))

theorem over : Rows.queueOrderRow.holds Try.pinned (OpenSpec.ofChange Rows.queueOrderSpec) :=
  OpenClaim.holds_of_wide 3 Try.f3 rfl rfl rfl rfl rfl rfl rfl ⟨rfl, rfl, rfl, rfl, rfl⟩ rfl rfl rfl rfl rfl (by kernel_rfl) Try.func3 (by kernel_rfl)
    (of_decide_eq_true (by kernel_rfl)) (by unfold Func.isWrapper; rw [if_neg (by decide +kernel)]; exact ⟨rfl, rfl⟩)
    (fun os started H enc _ => lifted os started H enc)

theorem proved : Rows.QueueOrderSaid := over
#print axioms proved
end Go.Proofs.Ytlncapddimehiaa.QueueOrder
