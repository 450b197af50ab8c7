/- The walk of the answer's Plus. -/
import Derived.Test.YteokepnkgdhkkaaRows
import Derived.WalkKit
import Derived.ProofKit
import Derived.Handy
import Derived.Deep.QuietTactic
import Derived.BigQuiet
import Derived.Deep.RegionWith
import Derived.Deep.RegionHeld3
import Derived.Deep.AppendLies
import Derived.WalkLawsBesides
import Derived.WalkSmall
import Derived.Deep.DeepCutAuto
import Derived.Test.YteokepnkgdhkkaaTal3
import Derived.Test.YteokepnkgdhkkaaCut
namespace Go.Proofs.Yteokepnkgdhkkaa
open Go.RowKit
set_option linter.unusedVariables false
theorem info_S : (Try.prog.info? 33).map (fun i => (i.zero, i.size, i.bytes)) = some (some (.agg #[.int .i64 0, .int .i64 0, .int .i64 0, .int .i64 0, .bool false, .bool false, .int .i64 0, .int .i64 0]), 8, 56) := by kernel_rfl
theorem run_fromR {P : Program} {T e : TypeId} {sz : Nat} (ht : P.underlying T = some (.slice e)) (hs : (P.info? e).map (·.size) = some sz) (A : Option Addr) (n c m : Nat) (hm : m ≤ n) (hnc : n ≤ c) :
    ∃ X : Option Addr, (∀ W : World, (Instr.sliceAt T (.slice A n c) (some (.int .i64 m)) none none).run P W = .ok (.slice X (n - m) (c - m)) W) ∧ ∀ (w : World) (B : Nat) (xs : List Value), Reads w B sz A n xs → Reads w B sz X (n - m) (xs.drop (m * sz)) := by
  have he : P.elem T = e := by simp [Program.elem, ht]
  have ht' : P.underlying T = some (.slice (P.elem T)) := by rw [he]; exact ht
  have hz : ∀ W : World, (sizeOf (P.elem T)).run P W = .ok sz W := fun W => by
    rw [he]
    cases hq : P.info? e with
    | none => simp [hq] at hs
    | some i =>
      have hi : i.size = sz := by simpa [hq] using hs
      simp [sizeOf, typeInfo, hq, hi]
  refine ⟨if c = m then A else A.map (·.add (m * sz)), fun W => ?_, fun w B xs h => ?_⟩
  · rw [run_sliceAt_slice W T _ _ _ _ ht', run_slice_l W T A n c ht' .i64 m (by omega) (by omega), hz]
    simp [Result.andThen, sliced]
  · exact h.cut hm hnc
/-- A sum laid in at its place. -/
theorem plus_at {l : List Sm} {x : Sm} {k : Nat} (hk : k ≤ l.length) (h1 : ∀ (j : Nat) (hj : j < l.length), j < k → l[j].st < x.st) (h2 : ∀ hj : k < l.length, x.st < l[k].st) : plusL l x = l.take k ++ x :: l.drop k := by
  induction l generalizing k with
  | nil =>
    have : k = 0 := by simpa using hk
    subst this
    rfl
  | cons p r ih =>
    cases k with
    | zero =>
      have := h2 (by simp)
      simp only [List.getElem_cons_zero] at this
      unfold plusL
      rw [if_neg (by omega), if_neg (by omega)]
      rfl
    | succ k =>
      have := h1 0 (by simp) (by omega)
      simp only [List.getElem_cons_zero] at this
      unfold plusL
      rw [if_pos this, ih (k := k) (by simpa using hk) (fun j hj hjk => by
        have := h1 (j + 1) (by simpa using hj) (by omega)
        simpa using this) (fun hj => by
        have := h2 (by simpa using hj)
        simpa using this)]
      rfl
/-- A sum added to the one that is there. -/
theorem plus_on {l : List Sm} {x : Sm} {k : Nat} (hs : SS l) (hk : k < l.length) (he : l[k].st = x.st) : plusL l x = l.set k (Sm.add x l[k]) := by
  induction l generalizing k with
  | nil => simp at hk
  | cons p r ih =>
    cases hs with
    | cons hs1 hs2 =>
      cases k with
      | zero =>
        simp only [List.getElem_cons_zero] at he
        unfold plusL
        rw [if_neg (by omega), if_pos he]
        rfl
      | succ k =>
        simp only [List.getElem_cons_succ] at he
        have hk' : k < r.length := by simpa using hk
        have := hs1 r[k] (List.getElem_mem hk')
        unfold plusL
        rw [if_pos (by omega), ih hs2 hk' he]
        rfl
theorem getElem_st_inj {l : List Sm} (hs : SS l) {i j : Nat} (hi : i < l.length) (hj : j < l.length) (h : i < j) : l[i].st < l[j].st := List.pairwise_iff_getElem.1 hs i j hi hj h
def goS (l : List Sm) (x : Sm) (k : Nat) : Bool := match l[k]? with
  | none => false
  | some q => decide (q.st < x.st)
theorem goS_at {l : List Sm} {x : Sm} {k : Nat} (h : k < l.length) : goS l x k = decide (l[k].st < x.st) := by
  unfold goS
  rw [List.getElem?_eq_getElem h]
theorem goS_end {l : List Sm} {x : Sm} {k : Nat} (h : l.length ≤ k) : goS l x k = false := by
  unfold goS
  rw [List.getElem?_eq_none h]
theorem reads_sum (w : World) (x : Sm) : Reads (w.alloc (.cells (sa x) 33)) (w.heap.size + 1) 8 (some ⟨w.heap.size, 0, none⟩) 1 (sv x) :=
  ⟨rfl, fun _ => ⟨_, rfl, by simp, fun j u hu => World.news_of_block (cs := sa x) (t := 33) (fr := (0, 0)) (heap_alloc_new w _) j u hu⟩⟩
set_option maxRecDepth 20000 in
set_option maxHeartbeats 4000000 in
theorem plus_new (B n c : Nat) (A : Option Addr) (l : List Sm) (x : Sm) (w : World) (h : Sms w B A n c l) (hB : B ≤ w.heap.size) (hnb : n ≤ 5000) (hno : ∀ (j : Nat) (hj : j < l.length), l[j].st ≠ x.st) :
    Calls Try.prog 22 #[.slice A n c, .agg (sa x)] w (SumsAre w (plusL l x)) := by
  obtain ⟨i0, hi0, hz0, hz1, hz2⟩ := info_parts info_S
  have bx := Blk.new w 33 (sa x)
  have B0 : Below w.heap.size w (w.alloc (.cells (sa x) 33)) := (Below.refl _ _).alloc (Nat.le_refl _) _
  have h0 := h.alloc hB (.cells (sa x) 33)
  have HF := Lib.hid (find_any B n c A l x.st _ h0)
  have H0 := Lib.hid (And.intro bx (And.intro B0 h0))
  have hc := h.cap_ge
  have hc2 := h.cap_le
  have HN := Lib.hid h.len
  have HNO := Lib.hid hno
  have HP : Hid (∀ (k : Nat) (l' : List Sm), k ≤ l.length → (∀ (j : Nat) (hj : j < l.length), j < k → l[j].st < x.st) → (∀ hj : k < l.length, x.st < l[k].st) → plusL l x = l.take k ++ x :: l.drop k) := fun k l' h1 h2 h3 => plus_at h1 h2 h3
  clear h bx B0 h0 hno
  obtain ⟨st, a1, a2, a3, p, q, a4, a5⟩ := x
  have l0 : (w.alloc (.cells (sa ⟨st, a1, a2, a3, p, q, a4, a5⟩) 33)).cell? ⟨w.heap.size, 0, none⟩ = some (.int .i64 st) := Blk.cell H0.out.1 0
  go_enter Try.func22, Try.ntmps22
  go_wp2_with fail
  refine HF.out.mono ?_
  rintro e w1 ⟨r, rfl, hr, rfl⟩
  obtain rfl : r = -1 := by
    rcases hr with ⟨k, hk, he, _⟩ | ⟨h, _⟩
    · exact absurd he (HNO.out k hk)
    · exact h
  clear hr HF
  have hWs : w.heap.size < (w.alloc (.cells (sa ⟨st, a1, a2, a3, p, q, a4, a5⟩) 33)).heap.size := by simp
  generalize w.alloc (.cells (sa ⟨st, a1, a2, a3, p, q, a4, a5⟩) 33) = W at *
  go_wp2_with fail
  go_loopw [6] (fun iv wr => ∃ k qq : Nat, k ≤ n ∧ iv = .int .i64 k ∧ (∀ (j : Nat) (hj : j < l.length), j < k → l[j].st < st) ∧ wr = W.drewN qq) (fun i _ => n - (intOf i).toNat)
  case atStart => exact ⟨0, 0, by omega, rfl, (fun j _ h => absurd h (by omega)), rfl⟩
  case round =>
    obtain ⟨k, qq, hk, rfl, hlo, rfl⟩ := hrel
    have HLO := Lib.hid hlo
    clear hlo
    have hk0 : (0 : Int) ≤ k := by omega
    go_upto_region 4 with fail
    go_cut [29] (fun s29 wx => (∃ q', wx = W.drewN q') ∧ s29 = .bool (goS l ⟨st, a1, a2, a3, p, q, a4, a5⟩ k))
    case first =>
      by_cases hlt : k < n
      · have hkl : k < l.length := by rw [HN.out]; exact hlt
        obtain ⟨b, off, rfl, hb, c0, _⟩ := H0.out.2.2.at_ k hkl
        have hk1 : (k : Int) < n := by omega
        have HG : Hid (goS l ⟨st, a1, a2, a3, p, q, a4, a5⟩ k = decide (l[k].st < st)) := goS_at hkl
        generalize l[k].st = y at *
        by_cases h1 : y < st
        · go_quiet (fail)
          go_wp2_with fail
          go_meet
          exact ⟨by first | exact ⟨_, rfl⟩ | exact ⟨_, World.drewN_drewN _ _ _⟩, by rw [HG.out, decide_eq_true h1]⟩
        · go_quiet (fail)
          go_wp2_with fail
          go_meet
          exact ⟨by first | exact ⟨_, rfl⟩ | exact ⟨_, World.drewN_drewN _ _ _⟩, by rw [HG.out, decide_eq_false (by omega)]⟩
      · obtain rfl : n = k := by omega
        have HG : Hid (goS l ⟨st, a1, a2, a3, p, q, a4, a5⟩ n = false) := goS_end (by rw [HN.out]; exact Nat.le_refl _)
        go_quiet (fail)
        go_wp2_with fail
        go_meet
        exact ⟨by first | exact ⟨_, rfl⟩ | exact ⟨_, World.drewN_drewN _ _ _⟩, by rw [HG.out]⟩
    case rest =>
      obtain ⟨⟨q', rfl⟩, rfl⟩ := hcut
      cases hg : goS l ⟨st, a1, a2, a3, p, q, a4, a5⟩ k
      · have HA : Hid (plusL l ⟨st, a1, a2, a3, p, q, a4, a5⟩ = l.take k ++ ⟨st, a1, a2, a3, p, q, a4, a5⟩ :: l.drop k) := by
          refine HP.out k [] (by rw [HN.out]; exact hk) HLO.out fun hj => ?_
          rw [goS_at hj] at hg
          have h1 := HNO.out k hj
          have h2 := of_decide_eq_false hg
          simp only at h1 h2 ⊢
          omega
        clear hg
        obtain ⟨X, hX1, hX2⟩ := run_fromR Try.underlying26 (by kernel_rfl : (Try.prog.info? 33).map (·.size) = some 8) A n c k hk hc
        have hU := fun W => run_upto Try.underlying26 (by kernel_rfl : (Try.prog.info? 33).map (·.size) = some 8) A n c k (by omega) W
        have hR1 : Reads (W.drewN q') B 8 A k (svs (l.take k)) := (H0.out.2.2.cut hk (Nat.le_trans hk hc) hc2).reads.drewN q'
        have hR2 : Reads (W.drewN q') B 8 X (n - k) (svs (l.drop k)) := by
          have h := hX2 W B _ H0.out.2.2.reads
          rw [svs_drop] at h
          exact h.drewN q'
        have HR := Lib.hid (And.intro hR1 hR2)
        have HBX : Hid (Blk (W.drewN q') w.heap.size 33 (sa ⟨st, a1, a2, a3, p, q, a4, a5⟩) ∧ Below w.heap.size w (W.drewN q')) := ⟨H0.out.1, below_drewN H0.out.2.1 q'⟩
        have hws := HBX.out.2.size
        have hxl := HBX.out.1.lt
        clear hX2 hR1 hR2 l0
        generalize hW5 : W.drewN q' = w5 at *
        have hs5 : w5.heap.size = W.heap.size := by rw [← hW5]; rfl
        have hB5 : B ≤ w5.heap.size := by omega
        clear hW5 hs5 HLO H0
        go_wp2_with (first
          | (at_builtin
             refine wpList_append_any _ rfl (.tmp 32) (.tmp 35) _ rfl w5.heap.size 33 i0 _ 8 56 Try.underlying26 hi0 hz0 hz1 hz2 rfl (by omega) (.slice (some ⟨w5.heap.size, 0, none⟩) 0 0) 0 [] rfl (own_empty (Blk.new w5 33 #[]) (Nat.le_refl _)) B A k c _ rfl (HR.out.1.alloc hB5 _) svs_one (by simp only [maxLen]; omega) (by omega) (by simp) ?_
             intro v1 w6 hn1 hg1 hd1
             obtain ⟨A6, k6, rfl⟩ := slice_of_own' hn1
             rw [Nat.zero_add, List.nil_append] at hn1
             have b1 : Below w5.heap.size w5 w6 := ((Below.refl _ _).alloc (Nat.le_refl _) _).grown hg1 (by simp) (fun k hk => by simp [Value.ownBlock] at hk; omega)
             have H6 := Lib.hid (And.intro hn1 b1)
             have hs6 := b1.size
             have bx6 := HBX.out.1.below b1 hxl
             have x0 := Blk.cell bx6 0
             have x1 := Blk.cell bx6 1
             have x2 := Blk.cell bx6 2
             have x3 := Blk.cell bx6 3
             have x4 := Blk.cell bx6 4
             have x5 := Blk.cell bx6 5
             have x6 := Blk.cell bx6 6
             have x7 := Blk.cell bx6 7
             simp [sa] at x0 x1 x2 x3 x4 x5 x6 x7
             clear hn1 hg1 hd1 b1 bx6)
          | (at_builtin
             refine wpList_append_any _ rfl (.tmp 37) (.tmp 39) _ rfl w5.heap.size 33 i0 _ 8 56 Try.underlying26 hi0 hz0 hz1 hz2 rfl (by omega) (.slice A6 k k6) k _ rfl (H6.out.1.alloc _) (w6.heap.size + 1) (some ⟨w6.heap.size, 0, none⟩) 1 1 (sv ⟨st, a1, a2, a3, p, q, a4, a5⟩) rfl (reads_sum w6 ⟨st, a1, a2, a3, p, q, a4, a5⟩) (fun u hu => svs_one (l := [⟨st, a1, a2, a3, p, q, a4, a5⟩]) u (by simpa [svs] using hu)) (by simp only [maxLen]; omega) (by omega) (by simp; omega) ?_
             intro v2 w7 hn2 hg2 hd2
             obtain ⟨A7, k7, rfl⟩ := slice_of_own' hn2
             have b2 : Below w5.heap.size w5 w7 := (H6.out.2.alloc hs6 _).grown hg2 (by simp; omega) (fun k hk => ownBlock_ge H6.out.1 hk)
             have H7 := Lib.hid (And.intro hn2 b2)
             have hs7 := b2.size
             clear hn2 hg2 hd2 b2)
          | (at_builtin
             refine wpList_append_any _ rfl (.tmp 41) (.tmp 44) _ rfl w5.heap.size 33 i0 _ 8 56 Try.underlying26 hi0 hz0 hz1 hz2 rfl (by omega) (.slice A7 (k + 1) k7) (k + 1) _ rfl H7.out.1 w5.heap.size X (n - k) (c - k) (svs (l.drop k)) rfl ((HR.out.2.more hB5).below H7.out.2) svs_one (by simp only [maxLen]; omega) (by omega) hs7 ?_
             intro v3 w8 hn3 hg3 hd3
             obtain ⟨A8, k8, rfl⟩ := slice_of_own' hn3
             have b3 : Below w5.heap.size w5 w8 := H7.out.2.grown hg3 hs7 (fun k hk => ownBlock_ge H7.out.1 hk)
             have H8 := Lib.hid (And.intro hn3 b3)
             clear hn3 hg3 hd3 b3))
        have hle : k + 1 + (n - k) = (plusL l ⟨st, a1, a2, a3, p, q, a4, a5⟩).length := by rw [HA.out, List.length_append, List.length_cons, List.length_take, List.length_drop, HN.out]; omega
        have e1 : svs (plusL l ⟨st, a1, a2, a3, p, q, a4, a5⟩) = svs (l.take k) ++ sv ⟨st, a1, a2, a3, p, q, a4, a5⟩ ++ svs (l.drop k) := by rw [HA.out, svs_append, svs_cons, List.append_assoc]
        go_ret
        refine ⟨A8, k8, by rw [← hle]; rfl, ?_, HBX.out.2.trans (H8.out.2.mono hws)⟩
        have := H8.out.1
        rw [← e1, hle] at this
        exact Sms.of_own this
      · have hlt : k < n := by
          rcases Nat.lt_or_ge k n with h | h
          · exact h
          · rw [goS_end (by rw [HN.out]; exact h)] at hg
            cases hg
        have hkl : k < l.length := by rw [HN.out]; exact hlt
        have ht : l[k].st < st := by rw [goS_at hkl] at hg; simpa using hg
        have HT := Lib.hid ht
        clear hg ht
        go_wp2_with fail
        go_roundw
        case rel =>
          refine ⟨k + 1, q', by omega, by go_num, fun j hj hjk => ?_, rfl⟩
          rcases Nat.lt_or_ge j k with h | h
          · exact HLO.out j hj h
          · obtain rfl : j = k := by omega
            exact HT.out
        case measure => simp [intOf]; omega
end Go.Proofs.Yteokepnkgdhkkaa
