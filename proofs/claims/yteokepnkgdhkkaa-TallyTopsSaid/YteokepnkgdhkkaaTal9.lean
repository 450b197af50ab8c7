/- The walk of tally's gather. -/
import Derived.Test.YteokepnkgdhkkaaRows
import Derived.WalkKit
import Derived.ProofKit
import Derived.Handy
import Derived.Deep.QuietTactic
import Derived.BigQuiet
import Derived.Deep.Cut
import Derived.Deep.RegionWith
import Derived.Deep.RegionHeld3
import Derived.Deep.AppendLies
import Derived.WalkLawsBesides
import Derived.WalkSmall
import Derived.Test.YteokepnkgdhkkaaTal7
import Derived.Test.YteokepnkgdhkkaaTal8
import Derived.Test.YteokepnkgdhkkaaTal4
namespace Go.Proofs.Yteokepnkgdhkkaa
open Go.RowKit
set_option linter.unusedVariables false
theorem SS.of_perm {t L : List Sm} (h : SS t) (h' : SS L) (hp : t.Perm L) : t = L := by
  refine SS.one h h' fun i => ?_
  cases e : getS L i with
  | none =>
    rw [getS_none] at e ⊢
    exact fun p hm => e p (hp.mem_iff.1 hm)
  | some a =>
    have hm := getS_mem e
    have := getS_of_mem h (hp.mem_iff.2 hm.1)
    rw [hm.2] at this
    exact this
theorem addV_put {L : List Sm} (x : Sm) : addV (getS L x.st) x = putS (getS L x.st) x := by
  unfold addV putS
  cases e : getS L x.st with
  | none => exact Sm.add_zero x
  | some y =>
    have hy := (getS_mem e).2
    show Sm.add { y with st := x.st } x = Sm.add x y
    have e2 : ({ y with st := x.st } : Sm) = y := by cases y; simp only at hy; subst hy; rfl
    rw [e2]
    exact Sm.add_comm hy
theorem length_plus_eq {l : List Sm} (h : SS l) (x : Sm) : (plusL l x).length = if (getS l x.st).isSome then l.length else l.length + 1 := by
  induction l with
  | nil => rfl
  | cons p r ih =>
    cases h with
    | cons h1 h2 =>
      unfold plusL
      rw [getS_cons]
      by_cases e1 : p.st < x.st
      · rw [if_pos e1, if_neg (show ¬ p.st = x.st by omega), List.length_cons, ih h2]
        split <;> simp [List.length_cons]
      · rw [if_neg e1]
        by_cases e2 : p.st = x.st
        · rw [if_pos e2, if_pos e2]; rfl
        · rw [if_neg e2, if_neg e2]
          have : getS r x.st = none := getS_none.2 fun q hq => by
            have := h1 q hq
            omega
          rw [this]; rfl
theorem upd_plus {L : List Sm} (h : SS L) (x : Sm) (i : Int) : upd (getS L) x.st (some (addV (getS L x.st) x)) i = getS (plusL L x) i := by
  rw [getS_plus h x i, addV_put]
  unfold upd
  by_cases hi : i = x.st
  · rw [if_pos hi, if_pos hi, hi]
  · rw [if_neg hi, if_neg hi]
/-- What has come out of the map when left says what is still to come. -/
structure OutS (L : List Sm) (left : Int → Bool) (a : List Sm) : Prop where
  nd : (a.map (·.st)).Nodup
  mem : ∀ x, x ∈ a ↔ left x.st = false ∧ getS L x.st = some x
theorem OutS.start (L : List Sm) : OutS L (fun x => ((getS L x).map enS).isSome) [] :=
  ⟨List.nodup_nil, fun x => by
    constructor
    · intro h; cases h
    · rintro ⟨h1, h2⟩
      rw [h2] at h1
      cases h1⟩
theorem OutS.take {L : List Sm} {left : Int → Bool} {a : List Sm} {i : Int} {x : Sm} (h : OutS L left a) (hl : left i = true) (hx : getS L i = some x) : OutS L (fun z => left z && !decide (z = i)) (a ++ [x]) := by
  have hi := (getS_mem hx).2
  subst hi
  obtain ⟨h1, h2⟩ := h
  have hn : ∀ y ∈ a, y.st ≠ x.st := fun y hy e => by
    have := ((h2 y).1 hy).1
    rw [e, hl] at this
    cases this
  refine ⟨?_, fun y => ?_⟩
  · rw [List.map_append, List.nodup_append]
    refine ⟨h1, by simp, fun p hp q hq => ?_⟩
    obtain ⟨y, hy, rfl⟩ := List.mem_map.1 hp
    simp at hq
    subst hq
    exact hn y hy
  · rw [List.mem_append, h2, List.mem_singleton]
    constructor
    · rintro (⟨a1, a2⟩ | rfl)
      · exact ⟨by rw [a1]; rfl, a2⟩
      · exact ⟨by simp, hx⟩
    · rintro ⟨a1, a2⟩
      by_cases hy : y.st = x.st
      · rw [hy, hx] at a2
        injection a2 with a2
        exact .inr a2.symm
      · exact .inl ⟨by simpa [hy] using a1, a2⟩
theorem OutS.perm {L : List Sm} {left : Int → Bool} {a : List Sm} (h : OutS L left a) (hl : ∀ x, left x = false) (hs : SS L) : a.Perm L := by
  have nd : ∀ l : List Sm, (l.map (·.st)).Nodup → l.Nodup := fun l hl => by
    unfold List.Nodup at *
    rw [List.pairwise_map] at hl
    exact hl.imp fun h e => h (by rw [e])
  have ndL : (L.map (·.st)).Nodup := by
    unfold List.Nodup
    rw [List.pairwise_map]
    exact hs.imp fun h => by omega
  refine (List.perm_ext_iff_of_nodup (nd a h.nd) (nd L ndL)).2 fun x => ?_
  rw [h.mem]
  constructor
  · rintro ⟨_, h2⟩
    exact (getS_mem h2).1
  · intro hx
    exact ⟨hl _, getS_of_mem hs hx⟩
/-- A sorted row of the same sums, each stream once, is the list. -/
theorem sorted_SS {t a L : List Sm} (hp : t.Perm a) (hpa : a.Perm L) (hs : t.Pairwise (fun x y => ltOf cfS y x = false)) (hL : SS L) : t = L := by
  have hpL := hp.trans hpa
  refine SS.of_perm ?_ hL hpL
  have ndL : L.Pairwise (fun x y => x.st ≠ y.st) := hL.imp fun h => by omega
  have ndt : t.Pairwise (fun x y => x.st ≠ y.st) := (hpL.pairwise_iff (fun h => Ne.symm h)).2 ndL
  exact (hs.and ndt).imp fun ⟨h1, h2⟩ => by
    rw [ltS_no] at h1
    omega
set_option maxHeartbeats 4000000 in
theorem gather_any (B n c : Nat) (A : Option Addr) (l : List Sm) (w : World) (h : Sms w B A n c l) (hB : B ≤ w.heap.size) (hnb : n ≤ 5000) (K : Int) (hK0 : 0 ≤ K) (hK : (n : Int) * K ≤ 576460752303423488) (hb : ∀ a ∈ l, a.bd K) (hk : ∀ a ∈ l, (Lit.int .i64 a.st).wf = true) :
    Calls Try.prog 21 #[.slice A n c] w (SumsAre w (gatherL l)) := by
  obtain ⟨i0, hi0, hz0, hz1, hz2⟩ := info_parts info_S
  have hc := h.cap_ge
  have hc2 := h.cap_le
  have HN := Lib.hid h.len
  have HB := Lib.hid (And.intro hb hk)
  have HKK := Lib.hid (And.intro hK0 hK)
  clear hK0 hK
  have HK := Lib.hid h
  clear h hb hk
  have hmm := @run_makeMap Try.prog
  have m1 : MapS ((w.alloc (.map #[] 0)).alloc (.cells #[.map (some w.heap.size)] 53)) w.heap.size (fun _ => none) 0 := MapV.alloc (MapS.made w) _
  have b1 := Blk.new (w.alloc (.map #[] 0)) 53 #[.map (some w.heap.size)]
  have B1 : Below w.heap.size w ((w.alloc (.map #[] 0)).alloc (.cells #[.map (some w.heap.size)] 53)) := ((Below.refl _ _).alloc (Nat.le_refl _) _).alloc (by simp) _
  rw [World.size_alloc] at b1
  have H1 := Lib.hid (And.intro m1 (And.intro b1 B1))
  have hs1 : ((w.alloc (.map #[] 0)).alloc (.cells #[.map (some w.heap.size)] 53)).heap.size = w.heap.size + 2 := by simp
  clear m1 b1 B1
  go_enter Try.func21, Try.ntmps21
  go_upto_region 3 with fail
  generalize (w.alloc (.map #[] 0)).alloc (.cells #[.map (some w.heap.size)] 53) = W at *
  clear hmm
  go_wp2_with fail
  have HS1 := Lib.hid hs1
  clear hs1
  go_loopw [14] (fun iv wr => ∃ k : Nat, k ≤ n ∧ iv = .int .i64 k ∧ MapS wr w.heap.size (getS (gatherL (l.take k))) (gatherL (l.take k)).length ∧ Blk wr (w.heap.size + 1) 53 #[.map (some w.heap.size)] ∧ Below w.heap.size w wr) (fun i _ => n - (intOf i).toNat)
  case atStart => exact ⟨0, by omega, rfl, H1.out.1.ext (fun i => rfl), H1.out.2.1, H1.out.2.2⟩
  case round =>
    obtain ⟨k, hk, rfl, hm, hbk, hbw⟩ := hrel
    have HM := Lib.hid (And.intro hm (And.intro hbk hbw))
    have hgl := hbk.lt
    clear hm hbk hbw
    have hk0 : (0 : Int) ≤ k := by omega
    by_cases hlt : k < n
    · have hkl : k < l.length := by rw [HN.out]; exact hlt
      obtain ⟨b, off, rfl, hbB, c0, c1, c2, c3, c4, c5, c6, c7⟩ := (HK.out.below (HM.out.2.2.mono hB)).at_ k hkl
      have hk1 : (k : Int) < n := by omega
      have HT := Lib.hid (gatherL_take l k hkl)
      have HX := Lib.hid (And.intro (HB.out.1 l[k] (List.getElem_mem hkl)) (HB.out.2 l[k] (List.getElem_mem hkl)))
      have hgl1 := gatherL_length (l.take k)
      rw [List.length_take] at hgl1
      have HL : Hid ((gatherL (l.take k)).length ≤ k ∧ SS (gatherL (l.take k)) ∧ ∀ a ∈ gatherL (l.take k), a.bd 576460752303423488) := ⟨by omega, gatherL_SS _, fun a ha => Sm.bd_mono (gatherL_bd (K := K) HKK.out.1 (fun b hb => HB.out.1 b (List.mem_of_mem_take hb)) a ha) (by
        rw [List.length_take]
        exact Int.le_trans (Int.mul_le_mul_of_nonneg_right (by omega) HKK.out.1) HKK.out.2)⟩
      clear hgl1
      generalize gatherL (l.take k) = L at *
      generalize l[k] = y at *
      obtain ⟨x0, x1, x2, x3, x4, x5, x6, x7⟩ := y
      try simp only at c0 c1 c2 c3 c4 c5 c6 c7
      have HC : Hid (Calls Try.prog 29 #[.agg (sa ⟨x0, x1, x2, x3, x4, x5, x6, x7⟩), .pointer (some ⟨w.heap.size + 1, 0, none⟩)] (wr.alloc (.cells (sa ⟨x0, x1, x2, x3, x4, x5, x6, x7⟩) 33)) fun e w2 => e = .returned (.tuple #[]) ∧ MapS w2 w.heap.size (getS (plusL L ⟨x0, x1, x2, x3, x4, x5, x6, x7⟩)) (plusL L ⟨x0, x1, x2, x3, x4, x5, x6, x7⟩).length ∧ Blk w2 (w.heap.size + 1) 53 #[.map (some w.heap.size)] ∧ Below w.heap.size w w2) := by
        have hbk := HM.out.2.1.alloc (.cells (sa ⟨x0, x1, x2, x3, x4, x5, x6, x7⟩) 33)
        have hws := HM.out.2.2.size
        refine (add_any ⟨x0, x1, x2, x3, x4, x5, x6, x7⟩ (w.heap.size + 1) w.heap.size L.length (getS L) _ (Blk.cell hbk 0) (MapV.alloc HM.out.1 _) (by have := HL.out.1; simp only [maxLen]; omega) HX.out.2 (Sm.bd_mono HX.out.1 (by
          have h1 := Int.mul_le_mul_of_nonneg_right (show (1 : Int) ≤ (n : Int) by omega) HKK.out.1
          have h2 := HKK.out.2
          omega)) (fun y hy => HL.out.2.2 y (getS_mem hy).1)).mono ?_
        rintro e w2 ⟨rfl, hm2, ho2⟩
        refine ⟨rfl, ?_, hbk.only ho2 (by simp), (HM.out.2.2.alloc hws _).trans (ho2.below (by simp; omega) (by simp))⟩
        rw [length_plus_eq HL.out.2.1]
        exact hm2.ext (upd_plus HL.out.2.1 _)
      go_wp2_with fail
      refine HC.out.mono ?_
      rintro e w2 ⟨rfl, hm2, hb2, hw2⟩
      have H2 := Lib.hid (And.intro hm2 (And.intro hb2 hw2))
      clear hm2 hb2 hw2
      go_wp2_with fail
      go_roundw
      case rel => exact ⟨k + 1, by omega, by go_num, by rw [HT.out]; exact H2.out.1, H2.out.2.1, H2.out.2.2⟩
      case measure => simp [intOf]; omega
    · obtain rfl : n = k := by omega
      have e0 := Lib.hid (show l.take n = l from List.take_of_length_le (by rw [HN.out]; exact Nat.le_refl _))
      have hm0 := HM.out.1
      rw [e0.out] at hm0
      have HM2 := Lib.hid (And.intro hm0 HM.out.2)
      have hsL := gatherL_SS l
      have hlen := gatherL_length l
      rw [HN.out] at hlen
      have hsl := Lib.hid hsL
      have cb := Blk.cell HM.out.2.1 0
      simp at cb
      have hws := HM.out.2.2.size
      have hml := MapV.lt hm0
      clear hm0 HM hsL H1
      obtain ⟨wl, hwl⟩ : ∃ x, x = wr := ⟨_, rfl⟩
      subst hwl
      generalize gatherL l = L at *
      go_wp2_with (first
        | (refine wpList_rangeV _ rfl (.tmp 22) _ rfl 3 33 Try.underlying3 Try.underlying53 w.heap.size L.length _ rfl (by exact HM2.out.1) ?_
           intro wR hR hgR hsR
           try simp only [Act.put, List.setIfInBounds_toArray, List.set_cons_zero, List.set_cons_succ]))
      have k2 := HM2.out.2.1.grown hgR (by simp)
      have B2 : Below w.heap.size w wR := HM2.out.2.2.grown hgR hws (by simp)
      have H2 := Lib.hid (And.intro k2 B2)
      have hgl2 := HM2.out.2.1.lt
      have HG := Lib.hid (show w.heap.size < wl.heap.size ∧ w.heap.size + 1 < wl.heap.size ∧ wR.heap.size = wl.heap.size + 1 from ⟨hml, hgl2, hsR⟩)
      clear k2 B2 hgR HM2 cb
      go_loopw [7] (fun s7 wr => ∃ (left : Int → Bool) (lc m c : Nat) (A : Option Addr) (a : List Sm), s7 = .slice A m c ∧ a.length = m ∧ m + lc ≤ L.length ∧ wr.ownsRow wR.heap.size 33 8 (.slice A m c) m (svs a) ∧ RangeV Try.prog 3 wr w.heap.size wl.heap.size (fun x => (getS L x).map enS) L.length left lc ∧ OutS L left a ∧ Below w.heap.size w wr ∧ wR.heap.size ≤ wr.heap.size) (fun _ wr => wr.rangeLeft w.heap.size wl.heap.size)
      case atStart => exact ⟨_, L.length, 0, 0, none, [], rfl, rfl, by omega, own_nil _ _ _ _, hR, OutS.start L, H2.out.2, Nat.le_refl _⟩
      case round =>
        obtain ⟨left, lc, m, c3, A3, a, rfl, ha, hml3, ho, hR2, hO, B3, hs3⟩ := hrel
        have HR := Lib.hid (And.intro hR2 (And.intro hO (And.intro ho ha)))
        have H3 := Lib.hid B3
        clear hR2 hO ho ha B3 hR
        go_wp2_with (first
          | (refine wpList_nextV _ enS rfl (.tmp 23) rfl 3 Try.underlying3 w.heap.size wl.heap.size L.length (getS L) left lc rfl (by exact HR.out.1) (fun hl0 hleft => ?_) (fun x t w4 lc4 hwf hlx hgx hR4 hlt4 hg4 hs4 hent => ?_)
             rotate_left
             have HS4 := Lib.hid (And.intro hs4 (And.intro hgx (And.intro hR4 hg4)))
             clear hs4 hgx hR4 hg4
             obtain ⟨x0, x1, x2, x3, x4, x5, x6, x7⟩ := t
             all_goals try simp only [Act.put, List.setIfInBounds_toArray, List.set_cons_zero, List.set_cons_succ])
          | (refine wpList_entryV _ rfl (.tmp 23) rfl rfl (by exact hent) ?_
             unfold enS sa
             try simp only [Act.put, List.setIfInBounds_toArray, List.set_cons_zero, List.set_cons_succ])
          | (at_builtin
             have ho4 : w4.ownsRow wR.heap.size 33 8 (.slice A3 m c3) m (svs a) := own_only HR.out.2.2.1 ((Only.refl [wl.heap.size] wr).grown HS4.out.2.2.2 (fun k hk => .inl (by simp at hk; simp [hk]))) (fun g' hg' => by have := ownBlock_ge HR.out.2.2.1 hg'; have := HG.out; simp; omega)
             refine wpList_append_any _ rfl (.tmp 28) (.tmp 30) _ rfl wR.heap.size 33 i0 _ 8 56 Try.underlying26 hi0 hz0 hz1 hz2 rfl (by omega) (.slice A3 m c3) m _ rfl ((ho4.alloc (.cells (sa ⟨x0, x1, x2, x3, x4, x5, x6, x7⟩) 33)).alloc (.cells (sa ⟨x0, x1, x2, x3, x4, x5, x6, x7⟩) 33)) ((w4.alloc (.cells (sa ⟨x0, x1, x2, x3, x4, x5, x6, x7⟩) 33)).heap.size + 1) (some ⟨w4.heap.size + 1, 0, none⟩) 1 1 (sv ⟨x0, x1, x2, x3, x4, x5, x6, x7⟩) rfl (by rw [show w4.heap.size + 1 = (w4.alloc (.cells (sa ⟨x0, x1, x2, x3, x4, x5, x6, x7⟩) 33)).heap.size by simp]; exact reads_sum (w4.alloc (.cells (sa ⟨x0, x1, x2, x3, x4, x5, x6, x7⟩) 33)) ⟨x0, x1, x2, x3, x4, x5, x6, x7⟩) (sv_one ⟨x0, x1, x2, x3, x4, x5, x6, x7⟩) (by simp only [maxLen]; omega) (by omega) (by have := HS4.out.1; simp; omega) ?_
             intro v5 w5 ho5 hg5 hd5
             obtain ⟨A5, k5', rfl⟩ := slice_of_own' ho5
             have H5 := Lib.hid (And.intro ho4 (And.intro ho5 hg5))
             clear ho4 ho5 hg5 hd5
             try simp only [Act.put, List.setIfInBounds_toArray, List.set_cons_zero, List.set_cons_succ]))
        · have hs4 := HS4.out.1
          have hR4 := HS4.out.2.2.1
          have hg4 := HS4.out.2.2.2
          have hG := HG.out
          have hB3 := H3.out.size
          have b4 : Below w.heap.size wr w4 := (Below.refl _ _).grown hg4 (by omega) (fun k hk => by simp at hk; omega)
          have hge := fun {k : Nat} (hk : (Value.slice A3 m c3).ownBlock = some k) => ownBlock_ge H5.out.1 hk
          have hg5 := H5.out.2.2
          have hne : ∀ k, k < wR.heap.size → some k ≠ (Value.slice A3 m c3).ownBlock := fun k hk e => by have := hge e.symm; omega
          have r5 := ((hR4.alloc (.cells (sa ⟨x0, x1, x2, x3, x4, x5, x6, x7⟩) 33)).alloc (.cells (sa ⟨x0, x1, x2, x3, x4, x5, x6, x7⟩) 33)).grown hg5 (hne _ (by omega)) (hne _ (by omega))
          have b5 : Below w.heap.size w w5 := (((H3.out.trans b4).alloc (by omega) (.cells (sa ⟨x0, x1, x2, x3, x4, x5, x6, x7⟩) 33)).alloc (by simp; omega) (.cells (sa ⟨x0, x1, x2, x3, x4, x5, x6, x7⟩) 33)).grown hg5 (by simp; omega) (fun k hk => by have := hge hk; omega)
          have hs5 := hg5.size
          rw [World.size_alloc, World.size_alloc] at hs5
          have hlr := r5.left_eq
          have hlr2 := HR.out.1.left_eq
          have ho5 := H5.out.2.1
          have e1 : svs a ++ sv ⟨x0, x1, x2, x3, x4, x5, x6, x7⟩ = svs (a ++ [⟨x0, x1, x2, x3, x4, x5, x6, x7⟩]) := by rw [svs_append, svs_cons, svs_nil, List.append_nil]
          rw [e1] at ho5
          go_roundw
          case rel => exact ⟨_, lc4, m + 1, k5', A5, a ++ [⟨x0, x1, x2, x3, x4, x5, x6, x7⟩], rfl, by rw [List.length_append, HR.out.2.2.2]; rfl, by omega, ho5, r5, HR.out.2.1.take hlx HS4.out.2.1, b5, by omega⟩
          case measure => rw [hlr, hlr2]; exact hlt4
        · have hper := HR.out.2.1.perm hleft hsl.out
          have hG := HG.out
          have hlen : L.length = m := by rw [← hper.length_eq]; exact HR.out.2.2.2
          have HS := Lib.hid (sort_any wR.heap.size wr A3 m c3 a HR.out.2.2.1 HR.out.2.2.2 (by omega) hs3)
          refine HS.out.mono ?_
          rintro e w6 ⟨rfl, t, hp, hpw, ho6, b6⟩
          have et : t = L := sorted_SS hp hper hpw hsl.out
          subst et
          have hb2 := H2.out.2.size
          have HF := Lib.hid (And.intro ho6 (And.intro (H3.out.trans (b6.mono hb2)) hlen))
          clear hp hpw ho6 b6 hper hlen HS
          go_wp2_with fail
          go_ret
          exact ⟨A3, c3, by rw [HF.out.2.2]; rfl, by rw [HF.out.2.2]; exact Sms.of_own HF.out.1, HF.out.2.1⟩
end Go.Proofs.Yteokepnkgdhkkaa
