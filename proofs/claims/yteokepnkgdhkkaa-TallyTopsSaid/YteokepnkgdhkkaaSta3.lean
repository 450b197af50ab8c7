/- The walks of the stable sort: two sorted blocks merged, of which one is a single element. -/
import Derived.Test.YteokepnkgdhkkaaRows
import Derived.WalkKit
import Derived.ProofKit
import Derived.Handy
import Derived.Deep.QuietTactic
import Derived.BigQuiet
import Derived.Deep.RegionWith
import Derived.Deep.RegionHeld3
import Derived.Deep.AppendLies
import Derived.WalkLawsBesides
import Derived.WalkSmall
import Derived.Deep.Cut
import Derived.Shelf.SlSortCmp.QuietGrown
import Derived.Test.YteokepnkgdhkkaaSta2
namespace Go.Proofs.Yteokepnkgdhkkaa
open Go.RowKit Go.Sort Go.Shelf
set_option linter.unusedVariables false
theorem below_grow {B : Nat} {w : World} (n : Nat) (os : Array Obj) (hB : B ≤ w.heap.size) : Below B w (Sort.grow (w.drewN n) os) := by
  refine ⟨rfl, rfl, rfl, ?_, fun k hk => ?_⟩
  · unfold Sort.grow
    simp [World.drewN]
  · unfold Sort.grow
    simp only
    rw [Array.getElem?_append_left (by show k < w.heap.size; omega)]
    rfl
theorem rowIs_grow {base : Nat} {w0 w : World} {g n c : Nat} {d : Array Sm} (h : RowIs base w0 w g n c d) (hb : base ≤ w.heap.size) (q : Nat) (os : Array Obj) : RowIs base w0 (Sort.grow (w.drewN q) os) g n c d :=
  ⟨h.1, own_below h.2.1 (below_grow q os (Nat.le_refl _)) (Nat.le_refl _), h.2.2.trans (below_grow q os hb)⟩
theorem grown_cells {base : Nat} {w0 w : World} {g n c : Nat} {d : Array Sm} (h : RowIs base w0 w g n c d) (i : Nat) (hi : i < d.size) :
    (∀ n' os', (Sort.grow (w.drewN n') os').cell? ⟨g, i * 8, none⟩ = some (.int .i64 d[i]!.st)) ∧ (∀ n' os', (Sort.grow (w.drewN n') os').cell? ⟨g, i * 8 + 1, none⟩ = some (.int .i64 d[i]!.se)) ∧ (∀ n' os', (Sort.grow (w.drewN n') os').cell? ⟨g, i * 8 + 2, none⟩ = some (.int .i64 d[i]!.ca)) ∧ (∀ n' os', (Sort.grow (w.drewN n') os').cell? ⟨g, i * 8 + 3, none⟩ = some (.int .i64 d[i]!.mo)) ∧ (∀ n' os', (Sort.grow (w.drewN n') os').cell? ⟨g, i * 8 + 4, none⟩ = some (.bool d[i]!.ou)) ∧ (∀ n' os', (Sort.grow (w.drewN n') os').cell? ⟨g, i * 8 + 5, none⟩ = some (.bool d[i]!.inn)) ∧ (∀ n' os', (Sort.grow (w.drewN n') os').cell? ⟨g, i * 8 + 6, none⟩ = some (.int .i64 d[i]!.op)) ∧ (∀ n' os', (Sort.grow (w.drewN n') os').cell? ⟨g, i * 8 + 7, none⟩ = some (.int .i64 d[i]!.dn)) := by
  have key : ∀ n' os', (w' : World) → w' = Sort.grow (w.drewN n') os' → (∀ j, j < 8 → w'.cell? ⟨g, i * 8 + j, none⟩ = (sv d[i]!)[j]?) := fun n' os' w' hw j hj => by
    subst hw
    have ho := own_below h.2.1 (below_grow n' os' (Nat.le_refl w.heap.size)) (Nat.le_refl _)
    have e := row_cells ho i (by simpa using hi) (by simpa using h.1)
    have eq : d.toList[i]'(by simpa using hi) = d[i]! := by rw [getElem!_pos d i hi]; simp
    rw [eq] at e
    obtain ⟨⟨e0, e1, e2, e3, e4, e5, e6, e7⟩, _⟩ := e
    match j, hj with
    | 0, _ => exact e0
    | 1, _ => exact e1
    | 2, _ => exact e2
    | 3, _ => exact e3
    | 4, _ => exact e4
    | 5, _ => exact e5
    | 6, _ => exact e6
    | 7, _ => exact e7
  exact ⟨fun n' os' => key n' os' _ rfl 0 (by omega), fun n' os' => key n' os' _ rfl 1 (by omega), fun n' os' => key n' os' _ rfl 2 (by omega), fun n' os' => key n' os' _ rfl 3 (by omega), fun n' os' => key n' os' _ rfl 4 (by omega), fun n' os' => key n' os' _ rfl 5 (by omega), fun n' os' => key n' os' _ rfl 6 (by omega), fun n' os' => key n' os' _ rfl 7 (by omega)⟩
def MergeE (base : Nat) (w : World) (g n c : Nat) (d : Array Sm) (a b : Nat) (e : Ending) (w' : World) : Prop :=
  e = .returned (.tuple #[]) ∧ ∃ d' : Array Sm, PermIn a b d d' ∧ So (ltOf cfT) (at' d') a b ∧ RowIs base w w' g n c d'
set_option maxRecDepth 20000 in
set_option maxHeartbeats 4000000 in
theorem symM_one (base : Nat) (w : World) (g n c : Nat) (d : Array Sm) (a b : Nat) (h : RowIs base w w g n c d) (hb : base ≤ w.heap.size) (hn : n ≤ 100000) (hab : a + 1 < b) (hbn : b ≤ n) (hs : So (ltOf cfT) (at' d) (a + 1) b) :
    Calls Try.prog 37 #[.slice (some ⟨g, 0, none⟩) n c, .int .i64 a, .int .i64 ((a + 1 : Nat) : Int), .int .i64 b, .func (.func 25) #[] #[]] w (MergeE base w g n c d a b) := by
  have H := Lib.hid h
  have HS := Lib.hid hs
  have hc := (Held.of_own h.2.1).2.1
  have hc2 := (Held.of_own h.2.1).2.2.1
  clear h hs
  obtain ⟨m, hm⟩ : ∃ m, m = a + 1 := ⟨_, rfl⟩
  rw [← hm]
  have hm1 : (m : Int) - (a : Int) = 1 := by omega
  have HM := Lib.hid hm
  clear hm
  have mixed : Try.prog.follows .mixedOrders = true := by kernel_rfl
  go_enter Try.func37, Try.ntmps37
  go_wp2_with fail
  go_loopw [10, 11] (fun iv jv wr => ∃ i j : Nat, iv = .int .i64 i ∧ jv = .int .i64 j ∧ m ≤ i ∧ i ≤ j ∧ j ≤ b ∧ (∀ x, m ≤ x → x < i → ltOf cfT (at' d x) (at' d a) = true) ∧ (∀ x, j ≤ x → x < b → ltOf cfT (at' d x) (at' d a) = false) ∧ RowIs base w wr g n c d) (fun iv jv _ => (intOf jv).toNat - (intOf iv).toNat)
  case atStart => exact ⟨m, b, rfl, rfl, Nat.le_refl _, by omega, Nat.le_refl _, (fun x h1 h2 => by omega), (fun x h1 h2 => by omega), H.out⟩
  case round =>
    obtain ⟨i, j, rfl, rfl, hmi, hij, hjb, hlo, hhi, hr⟩ := hrel
    have HL := Lib.hid (And.intro hlo (And.intro hhi hr))
    clear hlo hhi hr
    by_cases hlt : i < j
    · have hijz : (i : Int) < j := by omega
      obtain ⟨sm, hsm⟩ : ∃ sm : Nat, (i : Int) + (j : Int) = (sm : Int) := ⟨i + j, by omega⟩
      have hs2 : IntKind.i64.wrap (sm : Int) = (sm : Int) := by rw [IntKind.wrap_i64]; omega
      obtain ⟨q, hq⟩ : ∃ q : Nat, (sm : Int) / 2 = (q : Int) := ⟨(i + j) / 2, by omega⟩
      have hqij : i ≤ q ∧ q < j := by omega
      obtain ⟨hiq, hqj⟩ := hqij
      have hq0 : (0 : Int) ≤ q := by omega
      have hqn : (q : Int) < n := by omega
      have ha0 : (0 : Int) ≤ a := by omega
      have han : (a : Int) < n := by omega
      have hq1 : IntKind.i64.wrap ((q : Int) + 1) = (q : Int) + 1 := by rw [IntKind.wrap_i64]; omega
      have hds := HL.out.2.2.1
      have r1 := grown_cells HL.out.2.2 q (by omega)
      have r2 := grown_cells HL.out.2.2 a (by omega)
      have hcg := fun n' os' => topC_any d[q]! d[a]! (Sort.grow (wr.drewN n') os')
      have HLT : Hid (cfT d[q]! d[a]! < 0 ↔ ltOf cfT (at' d q) (at' d a) = true) := by
        show _ ↔ decide _ = true
        rw [decide_eq_true_eq]
        rfl
      generalize d[q]! = x at *
      generalize d[a]! = y at *
      generalize cfT x y = cv at *
      obtain ⟨x0, x1, x2, x3, x4, x5, x6, x7⟩ := x
      obtain ⟨y0, y1, y2, y3, y4, y5, y6, y7⟩ := y
      obtain ⟨c0, c1, c2, c3, c4, c5, c6, c7⟩ := r1
      obtain ⟨d0, d1, d2, d3, d4, d5, d6, d7⟩ := r2
      try simp only at c0 c1 c2 c3 c4 c5 c6 c7 d0 d1 d2 d3 d4 d5 d6 d7
      clear hds
      by_cases hlv : cv < 0
      · have HV := Lib.hid (HLT.out.1 hlv)
        go_wp2_with fail
        go_quiet_grown (first | (go_at_call 25; refine Calls.grown_of (hcg _ _)))
        have hr2 := Lib.hid (rowIs_grow HL.out.2.2 (by have := HL.out.2.2.2.2.size; omega) nq osq)
        clear c0 c1 c2 c3 c4 c5 c6 c7 d0 d1 d2 d3 d4 d5 d6 d7 hcg
        generalize Sort.grow (wr.drewN nq) osq = w3 at *
        go_wp2_with fail
        go_roundw
        case rel => exact ⟨q + 1, j, by go_num, rfl, by omega, by omega, hjb, (fun x h1 h2 => lo_step swoT (by rw [HM.out]; exact HS.out) (by omega) HV.out x h1 (by omega)), HL.out.2.1, hr2.out⟩
        case measure => simp [intOf]; omega
      · have HV : Hid (ltOf cfT (at' d q) (at' d a) = false) := by
          cases hh : ltOf cfT (at' d q) (at' d a) with
          | false => rfl
          | true => exact absurd (HLT.out.2 hh) hlv
        have hlv' : 0 ≤ cv := by omega
        go_wp2_with fail
        go_quiet_grown (first | (go_at_call 25; refine Calls.grown_of (hcg _ _)))
        have hr2 := Lib.hid (rowIs_grow HL.out.2.2 (by have := HL.out.2.2.2.2.size; omega) nq osq)
        clear c0 c1 c2 c3 c4 c5 c6 c7 d0 d1 d2 d3 d4 d5 d6 d7 hcg
        generalize Sort.grow (wr.drewN nq) osq = w3 at *
        go_wp2_with fail
        go_roundw
        case rel => exact ⟨i, q, rfl, rfl, hmi, hiq, by omega, HL.out.1, (fun x h1 h2 => hi_step swoT (by rw [HM.out]; exact HS.out) (show m ≤ q by omega) HV.out x h1 h2), hr2.out⟩
        case measure => simp [intOf]; omega
    · obtain rfl : i = j := by omega
      obtain ⟨I1, hI1⟩ : ∃ I1 : Nat, (i : Int) - 1 = I1 := ⟨i - 1, by have := HM.out; omega⟩
      have hI1w : IntKind.i64.wrap (I1 : Int) = I1 := by rw [IntKind.wrap_i64]; omega
      have HI := Lib.hid (show I1 + 1 = i by omega)
      have hIb : I1 < b := by omega
      have hai : a ≤ I1 := by have := HM.out; omega
      go_wp2_with fail
      obtain ⟨wl, hwl⟩ : ∃ x, x = wr := ⟨_, rfl⟩
      subst hwl
      go_loopw [13] (fun kv wr => ∃ (k : Nat) (dk : Array Sm), kv = .int .i64 k ∧ a ≤ k ∧ k ≤ I1 ∧ (∀ x, at' dk x = rotF (at' d) a (a + 1) (k + 1) x) ∧ PermIn a b d dk ∧ RowIs base w wr g n c dk) (fun kv _ => I1 - (intOf kv).toNat)
      case atStart => exact ⟨a, d, rfl, Nat.le_refl _, hai, (fun x => (rot_none2 _ _ _ _).symm), permIn_refl d a b, HL.out.2.2⟩
      case round =>
        obtain ⟨k, dk, rfl, hak, hkI, hf, hp, hr⟩ := hrel
        have HM2 := Lib.hid (And.intro hf (And.intro hp hr))
        have hds := hr.1
        have hbs : base ≤ wr.heap.size := Nat.le_trans hb hr.2.2.size
        clear hf hp hr
        by_cases hk : k < I1
        · have hkz : (k : Int) < I1 := by omega
          obtain ⟨Q, hQ⟩ : ∃ Q : Nat, (k : Int) + 1 = Q := ⟨k + 1, by omega⟩
          have hQw : IntKind.i64.wrap (Q : Int) = Q := by rw [IntKind.wrap_i64]; omega
          have hk0 : (0 : Int) ≤ k := by omega
          have hkn : (k : Int) < n := by omega
          have hQ0 : (0 : Int) ≤ Q := by omega
          have hQn : (Q : Int) < n := by omega
          have hne : k ≠ Q := by omega
          have HQ := Lib.hid (show Q = k + 1 by omega)
          have hPd : k < dk.size := by omega
          have hQd : Q < dk.size := by omega
          have r1 := row_cells HM2.out.2.2.2.1 k (by simpa using hPd) (by simpa using hds)
          have r2 := row_cells HM2.out.2.2.2.1 Q (by simpa using hQd) (by simpa using hds)
          have eP : dk.toList[k]'(by simpa using hPd) = dk[k]! := by rw [getElem!_pos dk k hPd]; simp
          have eQ : dk.toList[Q]'(by simpa using hQd) = dk[Q]! := by rw [getElem!_pos dk Q hQd]; simp
          rw [eP] at r1
          rw [eQ] at r2
          have HSw := Lib.hid (own_swap HM2.out.2.2.2.1 hPd hQd)
          clear eP eQ
          generalize dk[k]! = x at *
          generalize dk[Q]! = y at *
          obtain ⟨x0, x1, x2, x3, x4, x5, x6, x7⟩ := x
          obtain ⟨y0, y1, y2, y3, y4, y5, y6, y7⟩ := y
          obtain ⟨⟨c0, c1, c2, c3, c4, c5, c6, c7⟩, hfz⟩ := r1
          obtain ⟨⟨d0, d1, d2, d3, d4, d5, d6, d7⟩, _⟩ := r2
          have f0 := hfz (k * 8 + 0)
          have g0 := hfz (Q * 8 + 0)
          have f1 := hfz (k * 8 + 1)
          have g1 := hfz (Q * 8 + 1)
          have f2 := hfz (k * 8 + 2)
          have g2 := hfz (Q * 8 + 2)
          have f3 := hfz (k * 8 + 3)
          have g3 := hfz (Q * 8 + 3)
          have f4 := hfz (k * 8 + 4)
          have g4 := hfz (Q * 8 + 4)
          have f5 := hfz (k * 8 + 5)
          have g5 := hfz (Q * 8 + 5)
          have f6 := hfz (k * 8 + 6)
          have g6 := hfz (Q * 8 + 6)
          have f7 := hfz (k * 8 + 7)
          have g7 := hfz (Q * 8 + 7)
          simp only [Nat.add_zero] at f0 g0
          try simp only at c0 c1 c2 c3 c4 c5 c6 c7 d0 d1 d2 d3 d4 d5 d6 d7
          clear hfz
          go_wp2_with fail
          go_region
          all_goals go_wp2_with fail
          all_goals
            have hrow := HSw.out.1.drew
            have hbel := (HM2.out.2.2.2.2.grown HSw.out.2 hbs (fun q hq => by
              injection hq with hq
              subst hq
              exact ownBlock_ge HM2.out.2.2.2.1 rfl)).drew
            have hrot : ∀ x, at' (swp dk k Q) x = rotF (at' d) a (a + 1) (k + 2) x := fun x => by
              rw [HQ.out]
              exact rot_up HM2.out.1 hak (by omega) x
            have hperm := permIn_trans _ _ _ a b HM2.out.2.1 (swp_permIn dk a b k Q (by omega) (by omega) (by omega) (by omega) (by omega))
            have hfin := Lib.hid (And.intro hrot (And.intro hperm (And.intro ((size_swp dk k Q).trans hds) (And.intro hrow hbel))))
            clear hrow hbel hrot hperm
            go_roundw
          case rel => exact ⟨k + 1, swp dk k Q, by go_num, by omega, by omega, hfin.out.1, hfin.out.2.1, hfin.out.2.2⟩
          case measure => simp [intOf]; omega
        · obtain rfl : k = I1 := by omega
          have hso : So (ltOf cfT) (at' dk) a b := by
            have e : at' dk = rotF (at' d) a (a + 1) (k + 1) := funext HM2.out.1
            rw [e]
            have hi := HI.out
            have hm := HM.out
            refine insert_up swoT (by omega) (by omega) HS.out (fun x h1 h2 => HL.out.1 x (by omega) (by omega)) (fun x h1 h2 => HL.out.2.1 x (by omega) h2)
          have HF := Lib.hid hso
          clear hso
          go_wp2_with fail
          go_end0
          exact ⟨rfl, dk, HM2.out.2.1, HF.out, HM2.out.2.2⟩
end Go.Proofs.Yteokepnkgdhkkaa
