/- The walks of the answer's sort, Kids, Order. -/
import Derived.Sort.LotA
import Derived.Test.YtifgbnjpiphidaaTreB
import Derived.Test.YtifgbnjpiphidaaTreQ
namespace Go.Proofs.Ytifgbnjpiphidaa
open Go.RowKit Go.Sort
set_option linter.unusedVariables false
theorem swp_perm (d : Array Int) (i j : Nat) (hi : i < d.size) (hj : j < d.size) : (swp d i j).toList.Perm d.toList := by
  have h := swp_permIn d 0 d.size i j (Nat.zero_le _) hi (Nat.zero_le _) hj (Nat.le_refl _)
  have h2 := h.2.2
  have e1 : (swp d i j).extract 0 d.size = swp d i j := by rw [← size_swp d i j]; simp
  rw [e1] at h2
  simpa using h2
/-- The first i stand in order. -/
def SoI (d : Array Int) (i : Nat) : Prop := ∀ p q : Nat, p < q → q < i → d[p]! ≤ d[q]!
/-- .. but for the one at k, that is to go down. -/
def InI (d : Array Int) (i k : Nat) : Prop := (∀ p q : Nat, p < q → q ≤ i → p ≠ k → q ≠ k → d[p]! ≤ d[q]!) ∧ ∀ q : Nat, k < q → q ≤ i → d[k]! ≤ d[q]!
theorem InI.start {d : Array Int} {i : Nat} (h : SoI d i) : InI d i i := ⟨fun p q h1 h2 h3 h4 => h p q h1 (by omega), fun q h1 h2 => by omega⟩
theorem InI.stop {d : Array Int} {i k : Nat} (h : InI d i k) (hk : k ≤ i) (hs : k = 0 ∨ d[k - 1]! ≤ d[k]!) : SoI d (i + 1) := by
  intro p q h1 h2
  by_cases e1 : p = k
  · rw [e1]; exact h.2 q (by omega) (by omega)
  · by_cases e2 : q = k
    · rw [e2]
      rcases hs with hs | hs
      · omega
      · by_cases e3 : p = k - 1
        · rw [e3]; exact hs
        · exact Int.le_trans (h.1 p (k - 1) (by omega) (by omega) e1 (by omega)) hs
    · exact h.1 p q h1 (by omega) e1 e2
theorem InI.down {d : Array Int} {i k : Nat} (h : InI d i k) (hk : k ≤ i) (hi : i < d.size) (hk0 : 0 < k) (hl : d[k]! < d[k - 1]!) : InI (swp d k (k - 1)) i (k - 1) := by
  have g := swp_get d (show k < d.size by omega) (show k - 1 < d.size by omega)
  refine ⟨fun p q h1 h2 h3 h4 => ?_, fun q h1 h2 => ?_⟩
  · rw [g p, g q, if_neg h3, if_neg h4]
    by_cases e1 : p = k
    · rw [if_pos e1, if_neg (show ¬ q = k by omega)]
      exact h.1 (k - 1) q (by omega) h2 (by omega) (by omega)
    · rw [if_neg e1]
      by_cases e2 : q = k
      · rw [if_pos e2]
        exact h.1 p (k - 1) (by omega) (by omega) e1 (by omega)
      · rw [if_neg e2]
        exact h.1 p q h1 h2 e1 e2
  · rw [g (k - 1), g q, if_pos rfl, if_neg (show ¬ q = k - 1 by omega)]
    by_cases e2 : q = k
    · rw [if_pos e2]; omega
    · rw [if_neg e2]
      exact h.2 q (by omega) h2
theorem so_list {d : Array Int} (h : SoI d d.size) : d.toList.Pairwise (fun x y => x ≤ y) := by
  rw [List.pairwise_iff_getElem]
  intro i j hi hj hij
  have hi' : i < d.size := by simpa using hi
  have hj' : j < d.size := by simpa using hj
  have := h i j hij hj'
  rw [getElem!_pos d i hi', getElem!_pos d j hj'] at this
  simpa using this
theorem nums_set (l : List Int) (i : Nat) (v : Int) : (nums l).set i (.int .i64 v) = nums (l.set i v) := by simp [nums, List.map_set]
theorem nums_swp (d : Array Int) (k : Nat) : ((nums d.toList).set k (.int .i64 d[k - 1]!)).set (k - 1) (.int .i64 d[k]!) = nums (swp d k (k - 1)).toList := by
  rw [nums_set, nums_set]
  unfold swp
  rw [Array.toList_setIfInBounds, Array.toList_setIfInBounds]
set_option maxHeartbeats 2000000 in
theorem rsort_any (A : Option Addr) (n c : Nat) (l : List Int) (w : World) (h : Held w 3 1 A n c (nums l)) (hl : l.length = n) (hn : n ≤ 5000) :
    Calls Try.prog 38 #[.slice A n c] w (IntsOwn w (sortI l)) := by
  obtain ⟨i0, hi0, hz0, hz1, hz2⟩ := info_parts info_INT
  have hc := h.2.1
  have hc2 := h.2.2.1
  have HR := Lib.hid (reads_of_held h)
  have HL := Lib.hid hl
  clear h hl
  go_enter Try.func38, Try.ntmps38
  go_wp2_with (first
    | (at_builtin
       refine wpList_append_any _ rfl (.tmp 7) (.tmp 8) _ rfl w.heap.size 3 i0 _ 1 8 Try.underlying46 hi0 hz0 hz1 hz2 rfl (by omega) (.slice (some ⟨w.heap.size, 0, none⟩) 0 0) 0 [] rfl (own_empty (Blk.new w 3 #[]) (Nat.le_refl _)) w.heap.size A n c _ rfl (HR.out.alloc (Nat.le_refl _) _) (nums_one _) (by simp only [maxLen]; omega) (by omega) (by simp) ?_
       intro v1 w1 hn1 hg1 hd1
       obtain ⟨A1, k1, rfl⟩ := slice_of_own' hn1
       rw [Nat.zero_add, List.nil_append] at hn1
       have b1 : Below w.heap.size w w1 := ((Below.refl _ _).alloc (Nat.le_refl _) _).grown hg1 (by simp) (fun k hk => by simp [Value.ownBlock] at hk; omega)
       have H1 := Lib.hid (And.intro hn1 b1)
       clear hn1 hg1 hd1 b1
       try simp only [Nat.zero_add]))
  go_loopw [4] (fun iv wr => ∃ (i : Nat) (d : Array Int), iv = .int .i64 i ∧ 1 ≤ i ∧ i ≤ n + 1 ∧ d.size = n ∧ d.toList.Perm l ∧ SoI d (min i n) ∧ wr.ownsRow w.heap.size 3 1 (.slice A1 n k1) n (nums d.toList) ∧ Below w.heap.size w wr) (fun iv _ => n + 1 - (intOf iv).toNat)
  case atStart => exact ⟨1, l.toArray, rfl, Nat.le_refl _, by omega, by simpa using HL.out, by simp, (fun p q h1 h2 => by omega), by simpa using H1.out.1, H1.out.2⟩
  case round =>
    obtain ⟨i, d, rfl, hi1, hin, hds, hdp, hso, ho, hb⟩ := hrel
    have HM := Lib.hid (And.intro hdp (And.intro hso (And.intro ho (And.intro hb hds))))
    clear hdp hso ho hb hds H1
    have hi0 : (0 : Int) ≤ i := by omega
    by_cases hlt : i < n
    · have hi2 : (i : Int) < n := by omega
      have HI := Lib.hid (InI.start (d := d) (i := i) (by have := HM.out.2.1; rw [show min i n = i by omega] at this; exact this))
      go_wp2_with fail
      obtain ⟨wl, hwl⟩ : ∃ x, x = wr := ⟨_, rfl⟩
      subst hwl
      go_loopw [5, 6] (fun kv xv wx => ∃ (k : Nat) (d2 : Array Int), kv = .int .i64 k ∧ k ≤ i ∧ d2.size = n ∧ d2.toList.Perm l ∧ InI d2 i k ∧ wx.ownsRow w.heap.size 3 1 (.slice A1 n k1) n (nums d2.toList) ∧ Below w.heap.size w wx) (fun kv _ _ => (intOf kv).toNat)
      case atStart => exact ⟨i, d, rfl, Nat.le_refl _, HM.out.2.2.2.2, HM.out.1, HI.out, HM.out.2.2.1, HM.out.2.2.2.1⟩
      case round =>
        obtain ⟨k, d2, rfl, hki, hds2, hdp2, hin2, ho2, hb2⟩ := hrel
        have HK := Lib.hid (And.intro hdp2 (And.intro hin2 (And.intro ho2 hb2)))
        obtain ⟨gb, cap, hA, hbb, _⟩ := ho2.form (by omega)
        injection hA with hA h00 hcc
        subst hA
        have hkd : k < d2.size := by omega
        have ck := ho2.cellAt k (by omega)
        rw [show (nums d2.toList)[k]? = some (.int .i64 d2[k]!) by simp [nums, hkd]] at ck
        have fk := ho2.frozenAt k
        have hcap := (Held.of_own ho2).2.1
        have hcap2 := (Held.of_own ho2).2.2.1
        have HDS := Lib.hid hds2
        clear hdp2 hin2 ho2 hb2 HM HI h00 hcc hds2
        have hk0 : (0 : Int) ≤ k := by omega
        have hkn : (k : Int) < n := by omega
        by_cases hkp : 0 < k
        · have hkp' : (0 : Int) < k := by omega
          have hkdd : decide ((0 : Int) < k) = true := decide_eq_true hkp'
          obtain ⟨m, hm⟩ : ∃ m : Nat, (k : Int) - 1 = m := ⟨k - 1, by omega⟩
          have hmw : IntKind.i64.wrap (m : Int) = m := by rw [IntKind.wrap_i64]; omega
          have hm0 : (0 : Int) ≤ m := by omega
          have hmn : (m : Int) < n := by omega
          have hmd : m < d2.size := by omega
          have hmk : m = k - 1 := by omega
          have cm := HK.out.2.2.1.cellAt m (by omega)
          rw [show (nums d2.toList)[m]? = some (.int .i64 d2[m]!) by simp [nums, hmd]] at cm
          have fm := HK.out.2.2.1.frozenAt m
          have HSW := Lib.hid (nums_swp d2 k)
          have HMK := Lib.hid hmk
          have hne : k ≠ m := by omega
          have HIN := Lib.hid (fun h => HK.out.2.1.down (k := k) hki (by rw [HDS.out]; omega) hkp h)
          rw [← hmk] at HSW HIN
          have HST := Lib.hid (fun hl : ¬ d2[k]! < d2[m]! => HK.out.2.1.stop (k := k) hki (.inr (by rw [← hmk]; omega)))
          have HPM := Lib.hid ((swp_perm d2 k m hkd hmd).trans HK.out.1)
          clear hmk hmd hkd
          generalize hx : d2[k]! = x at *
          generalize hy : d2[m]! = y at *
          clear hx hy
          by_cases hlxy : x < y
          · have hlxd : decide (x < y) = true := decide_eq_true hlxy
            go_wp2_with fail
            go_quiet (fail)
            have H2 := Lib.hid (And.intro HK.out.2.2.1 (below_drewN HK.out.2.2.2 nq))
            have ck' : (wr.drewN nq).cell? ⟨gb, k, none⟩ = some (.int .i64 x) := ck
            have cm' : (wr.drewN nq).cell? ⟨gb, m, none⟩ = some (.int .i64 y) := cm
            have fk' : (wr.drewN nq).frozen? ⟨gb, k, none⟩ = false := fk
            have fm' : (wr.drewN nq).frozen? ⟨gb, m, none⟩ = false := fm
            have ho5 : (wr.drewN nq).ownsRow w.heap.size 3 1 (.slice (some ⟨gb, 0, none⟩) n k1) n (nums d2.toList) := HK.out.2.2.1
            have st := ((ho5.stored k (.int .i64 y)).1.stored m (.int .i64 x)).1
            rw [HSW.out] at st
            have hb5 := (H2.out.2.setCell (p := ⟨gb, k, none⟩) hbb (.int .i64 y)).setCell (p := ⟨gb, m, none⟩) hbb (.int .i64 x)
            have H5 := Lib.hid (And.intro st hb5)
            have HDZ := Lib.hid ((size_swp d2 k m).trans HDS.out)
            clear ck cm fk fm st hb5 ho5 H2 hkdd hlxd
            generalize wr.drewN nq = w4 at *
            go_wp2_with fail
            go_roundw
            case rel => exact ⟨m, swp d2 k m, rfl, by omega, HDZ.out, HPM.out, HIN.out hlxy, H5.out⟩
            case measure => simp [intOf]; omega
          · have hlxd : decide (x < y) = false := decide_eq_false hlxy
            have HSO := Lib.hid (HST.out hlxy)
            go_wp2_with fail
            go_quiet (fail)
            go_wp2_with fail
            go_roundw
            case rel => exact ⟨i + 1, d2, by go_num, by omega, by omega, HDS.out, HK.out.1, by rw [show min (i + 1) n = i + 1 by omega]; exact HSO.out, HK.out.2.2.1, below_drewN HK.out.2.2.2 nq⟩
            case measure => simp [intOf]; omega
        · obtain rfl : k = 0 := by omega
          have HSO := Lib.hid (HK.out.2.1.stop (k := 0) hki (.inl rfl))
          clear ck fk hkd
          go_wp2_with fail
          go_quiet (fail)
          go_wp2_with fail
          go_roundw
          case rel => exact ⟨i + 1, d2, by go_num, by omega, by omega, HDS.out, HK.out.1, by rw [show min (i + 1) n = i + 1 by omega]; exact HSO.out, HK.out.2.2.1, below_drewN HK.out.2.2.2 nq⟩
          case measure => simp [intOf]; omega
    · have hin' : (n : Int) ≤ i := by omega
      have hfin : sortI l = d.toList := sortI_is HM.out.1.symm (so_list (by have := HM.out.2.1; rw [show min i n = d.size by rw [HM.out.2.2.2.2]; omega] at this; exact this))
      have hln : (sortI l).length = n := by rw [sortI_length]; exact HL.out
      have HF := Lib.hid (And.intro hfin hln)
      clear hfin hln
      go_wp2_with fail
      go_ret
      exact ⟨A1, k1, by rw [HF.out.2]; rfl, by rw [HF.out.2, HF.out.1]; exact HM.out.2.2.1, HM.out.2.2.2.1⟩
/-- Those of which f is so, their numbers. -/
def pickI (f : Nd → Bool) (l : List Nd) : List Int := (l.filter f).map (·.id)
theorem pick_snoc (f : Nd → Bool) (l : List Nd) (p : Nd) : pickI f (l ++ [p]) = if f p = true then pickI f l ++ [p.id] else pickI f l := by
  unfold pickI
  rw [List.filter_append, List.map_append]
  by_cases h : f p = true <;> simp [h]
theorem pick_le (f : Nd → Bool) (l : List Nd) : (pickI f l).length ≤ l.length := by
  unfold pickI
  rw [List.length_map]
  exact List.length_filter_le _ _
set_option maxHeartbeats 2000000 in
theorem rkids_any (h c : Nat) (B : Option Addr) (l : List Nd) (w : World) (k : Rt w h B c l) (x : Int) :
    Calls Try.prog 30 #[.pointer (some ⟨h, 0, none⟩), .int .i64 x] w (IntsOwn w (kidsL l x)) := by
  obtain ⟨i0, hi0, hz0, hz1, hz2⟩ := info_parts info_INT
  have HK := Lib.hid k
  have hcap := k.capb
  have hfew := k.few
  have c0' := Blk.cell k.blk 0
  simp at c0'
  have hhl := k.lt
  have HF : Hid (∀ l : List Nd, pickI (fun p => decide (p.on = x)) l = (l.filter (fun p => decide (p.on = x))).map (·.id)) := fun _ => rfl
  clear k
  go_enter Try.func30, Try.ntmps30
  go_wp2_with fail
  go_loopw [5, 6] (fun ov iv wr => ∃ (j m c' : Nat) (A : Option Addr), iv = .int .i64 j ∧ j ≤ l.length ∧ ov = .slice A m c' ∧ m = (pickI (fun p => decide (p.on = x)) (l.take j)).length ∧ wr.ownsRow w.heap.size 3 1 (.slice A m c') m (nums (pickI (fun p => decide (p.on = x)) (l.take j))) ∧ Below w.heap.size w wr) (fun _ iv _ => l.length - (intOf iv).toNat)
  case atStart => exact ⟨0, 0, 0, none, rfl, by omega, rfl, rfl, own_nil _ _ _ _, Below.refl _ _⟩
  case round =>
    obtain ⟨j, m, c', A, rfl, hj, rfl, hm, ho, hb⟩ := hrel
    have hmj : m ≤ j := by rw [hm]; exact Nat.le_trans (pick_le _ _) (by rw [List.length_take]; omega)
    have hbs := hb.size
    have c0 : wr.cell? ⟨h, 0, none⟩ = some (.slice B l.length c) := (hb.cell (p := ⟨h, 0, none⟩) hhl).trans c0'
    have HM := Lib.hid (And.intro hm (And.intro ho hb))
    clear hm ho hb
    have hj0 : (0 : Int) ≤ j := by omega
    by_cases hlt : j < l.length
    · have hj1 : (j : Int) < l.length := by omega
      obtain ⟨bq, off, hB, _, x0, x1, _⟩ := (HK.out.below HM.out.2.2).cells j hlt
      have HS : Hid (pickI (fun p => decide (p.on = x)) (l.take (j + 1)) = if l[j].on = x then pickI (fun p => decide (p.on = x)) (l.take j) ++ [l[j].id] else pickI (fun p => decide (p.on = x)) (l.take j)) := by
        show _ = _
        rw [List.take_succ_eq_append_getElem hlt, pick_snoc]
        by_cases h : l[j].on = x <;> simp [h]
      generalize l[j].on = y at *
      generalize l[j].id = z at *
      subst hB
      by_cases he : y = x
      · have HS2 := Lib.hid (show pickI (fun p => decide (p.on = x)) (l.take (j + 1)) = pickI (fun p => decide (p.on = x)) (l.take j) ++ [z] by rw [HS.out, if_pos he])
        have heb : (y == x) = true := by simp [he]
        clear he HS
        go_wp2_with (first
          | (at_builtin
             refine wpList_append_any _ rfl (.tmp 26) (.tmp 35) _ rfl w.heap.size 3 i0 _ 1 8 Try.underlying46 hi0 hz0 hz1 hz2 rfl (by omega) (.slice A m c') m _ rfl (HM.out.2.1.alloc _) (wr.heap.size + 1) (some ⟨wr.heap.size, 0, none⟩) 1 1 [.int .i64 z] rfl (reads_num wr z) (by simp [Value.oneCell']) (by simp only [maxLen]; omega) (by omega) (by simp; omega) ?_
             intro v3 w3 hn3 hg3 hd3
             obtain ⟨A3, c3, rfl⟩ := slice_of_own' hn3
             have b3 : Below w.heap.size w w3 := (HM.out.2.2.alloc hbs _).grown hg3 (by simp; omega) (fun k hk => ownBlock_ge HM.out.2.1 hk)
             have e1 : nums (pickI (fun p => decide (p.on = x)) (l.take j)) ++ [.int .i64 z] = nums (pickI (fun p => decide (p.on = x)) (l.take (j + 1))) := by rw [HS2.out, nums_append]; rfl
             rw [e1] at hn3
             have hm3 : m + 1 = (pickI (fun p => decide (p.on = x)) (l.take (j + 1))).length := by rw [HS2.out, List.length_append, HM.out.1]; rfl
             have H3 := Lib.hid (And.intro hm3 (And.intro hn3 b3))
             clear hn3 hg3 hd3 b3 e1 hm3))
        go_roundw
        case rel => exact ⟨j + 1, m + 1, c3, A3, by go_num, by omega, rfl, H3.out⟩
        case measure => simp [intOf]; omega
      · have HS2 := Lib.hid (show pickI (fun p => decide (p.on = x)) (l.take (j + 1)) = pickI (fun p => decide (p.on = x)) (l.take j) by rw [HS.out, if_neg he])
        have heb : (y == x) = false := by simp [he]
        clear he HS
        go_wp2_with fail
        go_roundw
        case rel => exact ⟨j + 1, m, c', A, by go_num, by omega, rfl, by rw [HS2.out]; exact HM.out.1, by rw [HS2.out]; exact HM.out.2.1, HM.out.2.2⟩
        case measure => simp [intOf]; omega
    · obtain rfl : l.length = j := by omega
      have e0 : l.take l.length = l := List.take_of_length_le (Nat.le_refl _)
      have hm := HM.out.1
      have ho := HM.out.2.1
      rw [e0] at hm ho
      have HS := Lib.hid (rsort_any A m c' _ wr (Held.of_own ho) hm.symm (by omega))
      have hks : sortI (pickI (fun p => decide (p.on = x)) l) = kidsL l x := rfl
      rw [hks] at HS
      clear hm ho e0 hks
      go_wp2_with fail
      refine HS.out.mono ?_
      rintro e w2 ⟨A2, c2, rfl, ho2, b2⟩
      have HZ := Lib.hid (And.intro (own_base ho2 hbs) (HM.out.2.2.trans (b2.mono hbs)))
      clear ho2 b2
      go_wp2_with fail
      go_ret
      exact ⟨A2, c2, rfl, HZ.out⟩
end Go.Proofs.Ytifgbnjpiphidaa
