/- Proved: TallyTops answers true for every input, and leaves its arguments as they were; no condition. -/
import Derived.Test.YteokepnkgdhkkaaRows
import Derived.Test.YteokepnkgdhkkaaMem
import Derived.Test.YteokepnkgdhkkaaLift
import Derived.Test.YteokepnkgdhkkaaTalE
import Derived.Test.YteokepnkgdhkkaaSta7
import Derived.Test.YteokepnkgdhkkaaTopL
import Derived.Test.YteokepnkgdhkkaaTal14
import Derived.WalkKit
import Derived.ProofKit
import Derived.OpenShut
import Derived.Handy
import Derived.Deep.QuietTactic
import Derived.BigQuiet
import Derived.Deep.RegionWith
import Derived.WalkLawsBesides
import Derived.Deep.RegionHeld3
import Derived.Deep.Cut
import Derived.OwnWalk
namespace Go.Proofs.Yteokepnkgdhkkaa.TallyTops
open Go.ChangeShapes Go.WideShapes Go.ChangeAt Go.RowKit Go.Deep
set_option linter.unusedVariables false

def bools (u : List Bool) : List Value := u.map .bool
theorem info_BOOL : ∃ i, Try.prog.info? 4 = some i ∧ i.zero = some (.bool false) ∧ i.size = 1 ∧ i.bytes = 1 := by refine ⟨_, rfl, ?_, ?_, ?_⟩ <;> kernel_rfl
theorem used_blk {w : World} {base g n : Nat} (h : w.ownsRow base 4 1 (.slice (some ⟨g, 0, none⟩) n n) n (madeCells (Value.bool false).cells (n * 1)).toList) : Blk w g 4 (bools (List.replicate n false)).toArray := by
  rcases h.2 with ⟨hv, _⟩ | ⟨g', cap, cur, hv, hg, hh, _, _, hsz, ht⟩
  · cases hv
  · injection hv with h1 h2 h3
    injection h1 with h1
    injection h1 with h1
    subst h1 h3
    have hl : cur.toList = (madeCells (Value.bool false).cells (n * 1)).toList := by
      rw [← ht, List.take_of_length_le (by simp; omega)]
    rw [show (Value.bool false).cells = #[Value.bool false] from rfl, toList_madeCells_one] at hl
    have e : cur = (bools (List.replicate n false)).toArray := by
      apply Array.toList_inj.1
      rw [hl]
      simp [bools]
    rw [e] at hh
    exact hh
theorem bools_at (u : List Bool) (i : Nat) : (bools u).toArray[i]? = u[i]?.map Value.bool := by simp [bools]
theorem bools_set (u : List Bool) (i : Nat) (v : Bool) : ((bools u).toArray.setIfInBounds i (.bool v)) = (bools (u.set i v)).toArray := by
  apply Array.toList_inj.1
  simp [bools, List.map_set]
def KeepT (wx w1 w2 : World) (l : List Sm) (u : List Bool) (sel : List Sm) (Aw : Option Addr) (cw : Nat) : Prop :=
  (Blk wx w1.heap.size 4 (bools u).toArray ∧ wx.ownsRow w2.heap.size 3 1 (.slice Aw sel.length cw) sel.length (nums (sel.map (·.st))) ∧ Below w1.heap.size w1 wx) ∧ w2.heap.size ≤ wx.heap.size
theorem KeepT.drewN {wx w1 w2 : World} {l : List Sm} {u : List Bool} {sel : List Sm} {Aw : Option Addr} {cw : Nat} (h : KeepT wx w1 w2 l u sel Aw cw) (q : Nat) : KeepT (wx.drewN q) w1 w2 l u sel Aw cw := ⟨⟨h.1.1, h.1.2.1, below_drewN h.1.2.2 q⟩, h.2⟩
set_option maxRecDepth 100000 in
set_option maxHeartbeats 16000000 in
theorem walk (w : World) (v0 : Value) (n0 : Nat) (C : Nat → List Value) (h0 : RowsAt w v0 n0 8 SmOk C) (N : Int) (w1 : (Lit.int .i64 N).wf = true) :
    Calls Try.prog 4 #[v0, .int .i64 N] w fun e w' => e = .returned (.bool true) ∧ Below w.heap.size w w' := by
  obtain ⟨A, c, La, rfl, ha, hia⟩ := sms_of_rows h0
  obtain ⟨i0, hi0, hz0, hz1, hz2⟩ := info_BOOL
  obtain ⟨j0, hj0, hy0, hy1, hy2⟩ := info_parts info_INT
  have HA := Lib.hid (And.intro ha hia)
  obtain ⟨hN1, hN2⟩ := wf_i64_bd w1
  clear h0 ha hia w1
  go_enter Try.func4, Try.ntmps4
  go_wp2_with fail
  refine (few_any w.heap.size n0 c A La w HA.out.1 (Nat.le_refl _) HA.out.2).mono ?_
  rintro e w1 ⟨A1, c1, rfl, h1, b1⟩
  have H1 := Lib.hid (And.intro h1 b1)
  have HL1 := Lib.hid (And.intro (fewL_bd La) (fewL_wf La HA.out.2))
  have hl60 := fewL_length La
  have hs1 := b1.size
  clear h1 b1 HA
  generalize fewL La = l at *
  have HST := Lib.hid (stable_for l.length hl60)
  go_wp2_with (first
    | (at_make
       refine wpList_make_full _ rfl (.tmp 13) (.tmp 13) 31 rfl w1.heap.size 4 i0 _ 1 Try.underlying31 hi0 hz0 hz1 .i64 .i64 _ _ l.length rfl rfl rfl rfl ?c1 ?c2 ?c3 ?_
       case c1 => rw [hz2]; omega
       case c2 => simp only [maxLen]; omega
       case c3 => omega
       intro w2 hn2 hg2))
  have hub := used_blk hn2
  have hn2s := hub.lt
  have b2 : Below w1.heap.size w1 w2 := (Below.refl _ _).grown hg2 (Nat.le_refl _) (by simp)
  have H2 := Lib.hid (And.intro hub (And.intro b2 hn2s))
  clear hub hn2 hg2 hn2s
  have hs2 := b2.size
  clear b2
  go_loopw [5, 7] (fun wv kv wr => ∃ (cw : Nat) (Aw : Option Addr) (u : List Bool) (sel : List Sm), wv = .slice Aw sel.length cw ∧ kv = .int .i64 sel.length ∧ sel.length ≤ l.length ∧ (sel.length : Int) ≤ max 0 N ∧ Pick l u sel ∧ Blk wr w1.heap.size 4 (bools u).toArray ∧ wr.ownsRow w2.heap.size 3 1 (.slice Aw sel.length cw) sel.length (nums (sel.map (·.st))) ∧ Below w1.heap.size w1 wr ∧ w2.heap.size ≤ wr.heap.size) (fun _ kv _ => l.length - (intOf kv).toNat)
  case atStart => exact ⟨0, none, List.replicate l.length false, [], rfl, rfl, by simp, by simp; omega, Pick.start l, H2.out.1, own_nil _ _ _ _, H2.out.2.1, Nat.le_refl _⟩
  case round =>
    obtain ⟨cw, Aw, u, sel, rfl, rfl, hk1, hk2, hp, hu, ho, hb, hs3⟩ := hrel
    have HM := Lib.hid (And.intro hp (And.intro hu (And.intro ho hb)))
    have hul := hp.len
    obtain ⟨kk, hkk⟩ : ∃ kk, kk = sel.length := ⟨_, rfl⟩
    rw [← hkk] at hk1 hk2 ⊢
    have HKK := Lib.hid hkk
    clear hp hu ho hb hkk
    have hk0 : (0 : Int) ≤ kk := by omega
    by_cases hgo : (kk : Int) < N ∧ kk < l.length
    · obtain ⟨g1, g2⟩ := hgo
      have g2z : (kk : Int) < l.length := by omega
      have HUL := Lib.hid hul
      clear hul
      go_wp2_with fail
      have HP := Lib.hid HM.out.1
      have HM1 := Lib.hid (And.intro HM.out.2 hs3)
      clear HM hs3
      go_loopw [8, 9] (fun bv iv wx => ∃ (i : Nat) (b : Int), bv = .int .i64 b ∧ iv = .int .i64 i ∧ i ≤ l.length ∧ BestI l u i b ∧ KeepT wx w1 w2 l u sel Aw cw) (fun _ iv _ => l.length - (intOf iv).toNat)
      case atStart => exact ⟨0, -1, rfl, rfl, by omega, BestI.start l u, HM1.out⟩
      case round =>
        obtain ⟨i, bb, rfl, rfl, hi, hbi, hkeep⟩ := hrel
        have HB := Lib.hid hbi
        have HM := Lib.hid hkeep
        clear hbi hkeep HM1
        have hi0 : (0 : Int) ≤ i := by omega
        have HS := Lib.hid (H1.out.1.below HM.out.1.2.2)
        by_cases hlt : i < l.length
        · have hi1 : (i : Int) < l.length := by omega
          have hiu : i < u.length := by rw [HUL.out]; exact hlt
          have cu := Blk.cell HM.out.1.1 i
          rw [bools_at, List.getElem?_eq_getElem hiu] at cu
          simp only [Option.map_some] at cu
          have hx := List.getElem?_eq_getElem hlt
          have hui : u[i]? = some u[i] := List.getElem?_eq_getElem hiu
          generalize u[i] = ui at *
          cases ui with
          | true =>
            have HF := Lib.hid (HB.out.skip (i := i) (by rw [hui]; simp))
            clear hx hui
            go_wp2_with fail
            go_roundw
            case rel => exact ⟨i + 1, bb, rfl, by go_num, by omega, HF.out, HM.out⟩
            case measure => simp [intOf]; omega
          | false =>
            by_cases hbn : bb < 0
            · have hb1 : bb = -1 := by
                rcases HB.out with ⟨h, _⟩ | ⟨k, x, h, _⟩ <;> omega
              subst hb1
              have HF := Lib.hid (HB.out.first hui hx)
              clear hx hui hbn
              go_wp2_with fail
              try simp only [List.append]
              go_quiet (fail)
              go_wp2_with fail
              go_roundw
              case rel => exact ⟨i + 1, i, rfl, by go_num, by omega, HF.out, HM.out.drewN nq⟩
              case measure => simp [intOf]; omega
            · obtain ⟨k, rfl⟩ : ∃ k : Nat, bb = k := ⟨bb.toNat, by omega⟩
              obtain ⟨hki, hku, z, hz⟩ := HB.out.at_
              have hkl : k < l.length := by omega
              have ez : l[k] = z := by
                have := List.getElem?_eq_getElem hkl
                rw [hz] at this
                injection this with this
                exact this.symm
              obtain ⟨bq, off, hA1, hbq, x0, x1, x2, -⟩ := HS.out.at_ i hlt
              obtain ⟨bq', off', hA1', _, y0, y1, y2, -⟩ := HS.out.at_ k hkl
              rw [hA1] at hA1'
              injection hA1' with hA1'
              injection hA1' with e1 e2
              subst e1 e2 hA1
              have hbx := HL1.out.1 l[i] (List.getElem_mem hlt)
              have hbz := HL1.out.1 l[k] (List.getElem_mem hkl)
              have hxx : l[i]? = some l[i] := hx
              rw [ez] at y0 y1 y2 hbz
              generalize l[i] = x at *
              have hbigx : big x = x.se + x.ca := by
                unfold big
                have := hbx.1; have := hbx.2.1
                exact IntWalk.wrap64_in _ (by omega)
              have hbigz : big z = z.se + z.ca := by
                unfold big
                have := hbz.1; have := hbz.2.1
                exact IntWalk.wrap64_in _ (by omega)
              have hsx : IntKind.i64.wrap (x.se + x.ca) = x.se + x.ca := by rw [IntKind.wrap_i64]; have := hbx.1; have := hbx.2.1; omega
              have hsz : IntKind.i64.wrap (z.se + z.ca) = z.se + z.ca := by rw [IntKind.wrap_i64]; have := hbz.1; have := hbz.2.1; omega
              have HBG := Lib.hid (And.intro hbigx hbigz)
              have HQ := Lib.hid (And.intro hui (And.intro hz hxx))
              obtain ⟨⟨r1, r2⟩, ⟨r3, r4⟩, -⟩ := hbx
              obtain ⟨⟨t1, t2⟩, ⟨t3, t4⟩, -⟩ := hbz
              clear hx hui hz hxx hbigx hbigz ez hku
              have hk0' : (0 : Int) ≤ k := by omega
              have hkd : decide ((k : Int) < 0) = false := decide_eq_false (by omega)
              have hk1' : (k : Int) < l.length := by omega
              by_cases hgt : z.se + z.ca < x.se + x.ca
              · have HF := Lib.hid (HB.out.better HQ.out.2.1 HQ.out.1 HQ.out.2.2 ((ltT x z).2 (.inl (by rw [HBG.out.1, HBG.out.2]; exact hgt))))
                have hgd : decide (z.se + z.ca < x.se + x.ca) = true := decide_eq_true hgt
                go_wp2_with fail
                try simp only [List.append]
                go_quiet (fail)
                go_wp2_with fail
                go_roundw
                case rel => exact ⟨i + 1, i, rfl, by go_num, by omega, HF.out, HM.out.drewN nq⟩
                case measure => simp [intOf]; omega
              · have hgd : decide (z.se + z.ca < x.se + x.ca) = false := decide_eq_false hgt
                by_cases heq : x.se + x.ca = z.se + z.ca ∧ x.st < z.st
                · have HF := Lib.hid (HB.out.better HQ.out.2.1 HQ.out.1 HQ.out.2.2 ((ltT x z).2 (.inr (by rw [HBG.out.1, HBG.out.2]; exact ⟨heq.1.symm, heq.2⟩))))
                  obtain ⟨q1, q2⟩ := heq
                  have hsd : decide (x.st < z.st) = true := decide_eq_true q2
                  have hbq1 : (x.se + x.ca == z.se + z.ca) = true := by simp [q1]
                  clear q1
                  go_wp2_with fail
                  try simp only [List.append]
                  go_quiet (fail)
                  go_wp2_with fail
                  go_roundw
                  case rel => exact ⟨i + 1, i, rfl, by go_num, by omega, HF.out, HM.out.drewN nq⟩
                  case measure => simp [intOf]; omega
                · have HF := Lib.hid (HB.out.keep HQ.out.2.1 HQ.out.2.2 ((ltT_no x z).2 (by rw [HBG.out.1, HBG.out.2]; rintro (h | h); exact hgt h; exact heq ⟨h.1.symm, h.2⟩)))
                  by_cases q1 : x.se + x.ca = z.se + z.ca
                  · have q2 : ¬ x.st < z.st := fun h => heq ⟨q1, h⟩
                    have q3 : z.st ≤ x.st := by omega
                    have hsd : decide (x.st < z.st) = false := decide_eq_false q2
                    have hbq1 : (x.se + x.ca == z.se + z.ca) = true := by simp [q1]
                    clear q1 heq
                    go_wp2_with fail
                    try simp only [List.append]
                    go_quiet (fail)
                    go_wp2_with fail
                    go_roundw
                    case rel => exact ⟨i + 1, k, rfl, by go_num, by omega, HF.out, HM.out.drewN nq⟩
                    case measure => simp [intOf]; omega
                  · have hbq1 : (x.se + x.ca == z.se + z.ca) = false := by simp [q1]
                    clear q1 heq
                    go_wp2_with fail
                    try simp only [List.append]
                    go_quiet (fail)
                    go_wp2_with fail
                    go_roundw
                    case rel => exact ⟨i + 1, k, rfl, by go_num, by omega, HF.out, HM.out.drewN nq⟩
                    case measure => simp [intOf]; omega
        · obtain rfl : l.length = i := by omega
          obtain ⟨k, hkl, rfl, hp2⟩ := HP.out.more HB.out (by rw [← HKK.out]; exact g2)
          have hk0' : (0 : Int) ≤ k := by omega
          have hk1' : (k : Int) < l.length := by omega
          have hku : k < u.length := by rw [HUL.out]; exact hkl
          have cu := Blk.cell HM.out.1.1 k
          rw [bools_at, List.getElem?_eq_getElem hku] at cu
          simp only [Option.map_some] at cu
          have fu := Blk.frozen HM.out.1.1 k
          obtain ⟨bq, off, hA1, hbq, x0, -⟩ := HS.out.at_ k hkl
          subst hA1
          have B3 := Blk.set_ HM.out.1.1 k (.bool true)
          rw [bools_set] at B3
          have hgu : w1.heap.size < w2.heap.size := H2.out.2.2
          have O3 : Only [w1.heap.size] wr (wr.setCell ⟨w1.heap.size, k, none⟩ (.bool true)) := (Only.refl _ _).setCell (by simp) _
          have ho3 := own_only HM.out.1.2.1 O3 (fun q hq => by have := ownBlock_ge HM.out.1.2.1 hq; simp; omega)
          have b3 := HM.out.1.2.2.setCell (p := ⟨w1.heap.size, k, none⟩) (Nat.le_refl _) (.bool true)
          have H3 := Lib.hid (And.intro B3 (And.intro ho3 (And.intro b3 (show w2.heap.size ≤ (wr.setCell ⟨w1.heap.size, k, none⟩ (.bool true)).heap.size by simpa [World.setCell] using HM.out.2))))
          have HP2 := Lib.hid hp2
          have HX : Hid (nums ((sel ++ [l[k]]).map (·.st)) = nums (sel.map (·.st)) ++ [.int .i64 l[k].st]) := by
            show _ = _
            rw [List.map_append, nums_append]
            rfl
          have HXL : Hid ((sel ++ [l[k]]).length = kk + 1) := by
            show _ = _
            rw [List.length_append, HKK.out]
            rfl
          clear B3 ho3 b3 O3 hp2
          generalize sel ++ [l[k]] = sel2 at *
          generalize l[k] = x at *
          obtain ⟨y, hy⟩ : ∃ y, y = x.st := ⟨_, rfl⟩
          rw [← hy] at x0 HX
          clear hy
          go_upto_region 15 with fail
          have x0' : (wr.setCell ⟨w1.heap.size, k, none⟩ (.bool true)).cell? ⟨bq, off + k * 8, none⟩ = some (.int .i64 y) := by
            exact (World.cell?_setCell_other wr ⟨w1.heap.size, k, none⟩ ⟨bq, off + k * 8, none⟩ (.bool true) (by intro e; injection e with e; omega)).trans x0
          clear x0 cu fu HM HS HB
          generalize wr.setCell ⟨w1.heap.size, k, none⟩ (.bool true) = w3 at *
          have hs3 := H3.out.2.2.2
          have ho3 := H3.out.2.1
          rw [← HKK.out] at ho3
          have HO3 := Lib.hid ho3
          clear ho3
          go_wp2_with (first
            | (at_builtin
               refine wpList_append_any _ rfl (.tmp 105) (.tmp 111) _ rfl w2.heap.size 3 j0 _ 1 8 Try.underlying30 hj0 hy0 hy1 hy2 rfl (by omega) (.slice Aw kk cw) kk _ rfl (HO3.out.alloc _) (w3.heap.size + 1) (some ⟨w3.heap.size, 0, none⟩) 1 1 [.int .i64 y] rfl (reads_num w3 y) (by simp [Value.oneCell']) (by simp only [maxLen]; omega) (by omega) (by simp; omega) ?_
               intro v4 w4 hn4 hg4 hd4
               obtain ⟨A4, c4, rfl⟩ := slice_of_own' hn4
               have b4 : Below w1.heap.size w1 w4 := (H3.out.2.2.1.alloc (by omega) _).grown hg4 (by simp; omega) (fun q hq => by have := ownBlock_ge HO3.out hq; omega)
               have B4 := (H3.out.1.alloc (.cells #[.int .i64 y] 3)).grown hg4 (fun e => by have := ownBlock_ge HO3.out e.symm; omega)
               rw [← HX.out, ← HXL.out] at hn4
               have hs4 : w2.heap.size ≤ w4.heap.size := by have := hg4.size; simp at this; omega
               have H4 := Lib.hid (And.intro B4 (And.intro hn4 (And.intro b4 hs4)))
               clear hn4 hg4 hd4 b4 B4 hs4))
          go_roundw
          case rel => exact ⟨c4, A4, u.set k true, sel2, by rw [HXL.out], by rw [HXL.out]; go_num, by rw [HXL.out]; omega, by rw [HXL.out]; omega, HP2.out, H4.out⟩
          case measure => simp [intOf]; omega
    · have hsel : Hid (kk = sel.length) := HKK
      have HS := Lib.hid (H1.out.1.below HM.out.2.2.2)
      have hc1 := HS.out.cap_ge
      have hc2 := HS.out.cap_le
      have HG : Hid ((N : Int) ≤ kk ∨ l.length ≤ kk) := by
        show N ≤ kk ∨ l.length ≤ kk
        omega
      have hwx : w1.heap.size ≤ wr.heap.size := HM.out.2.2.2.size
      have HTOP := Lib.hid (fun (W : World) (b : Below wr.heap.size wr W) => top_any w1.heap.size l.length c1 A1 l N W (HS.out.below (b.mono hwx)) (Nat.le_trans hwx b.size) (by omega) HST.out)
      by_cases hg1 : (kk : Int) < N
      · have hg2 : ¬ kk < l.length := fun h => hgo ⟨hg1, h⟩
        have hg3 : (l.length : Int) ≤ kk := by omega
        clear hgo hg2
        go_wp2_with fail
        refine (awake_any _).mono ?_
        rintro e w3 ⟨rfl, b3⟩
        have H3 := Lib.hid b3
        clear b3
        go_wp2_with fail
        refine (HTOP.out w3 H3.out).mono ?_
        rintro e w4 ⟨t, hpm, hps, A4, c4, rfl, h4, b4⟩
        have htl := hpm.length_eq
        have hto := tops_one hpm hps HM.out.1.perm HM.out.1.sorted HM.out.1.low
        have htk : (t.take N.toNat).map (·.st) = sel.map (·.st) := by
          rw [← hto]
          congr 1
          have e1 := HKK.out
          rcases HG.out with h | h
          · rcases Int.lt_or_le N 0 with h0 | h0
            · have e2 : N.toNat = 0 := by omega
              have e3 : sel.length = 0 := by omega
              rw [e2, e3]
            · have e2 : N.toNat = sel.length := by omega
              rw [e2]
          · have e3 : sel.length = l.length := by omega
            rw [e3, List.take_of_length_le (by omega)]
            refine (List.take_of_length_le ?_).symm
            omega
        have HZ := Lib.hid htk
        have b5 : Below wr.heap.size wr w4 := H3.out.trans (b4.mono H3.out.size)
        have hw5 := Held.of_own (own_below HM.out.2.2.1 b5 (Nat.le_refl _))
        have hsl : (sel.map (·.st)).length = kk := by rw [List.length_map, ← HKK.out]
        rw [htk] at h4 ⊢
        rw [hsl] at h4 ⊢
        rw [← HKK.out] at hw5
        have HI := Lib.hid (ints_eq A4 Aw kk kk c4 cw (sel.map (·.st)) w4 hsl.symm hsl.symm h4 hw5 (by rw [hsl]; omega))
        have HF : Hid (Below w.heap.size w w4) := H1.out.2.trans ((HM.out.2.2.2.trans (b5.mono hwx)).mono hs1)
        clear htl hto htk b5 hw5 hsl h4 b4 hpm hps
        go_wp2_with fail
        refine HI.out.mono ?_
        rintro e w5 ⟨rfl, q, rfl⟩
        have HF2 := Lib.hid (below_drewN HF.out q)
        go_wp2_with fail
        go_ret
        exact ⟨rfl, HF2.out⟩
      · clear hgo
        go_wp2_with fail
        refine (awake_any _).mono ?_
        rintro e w3 ⟨rfl, b3⟩
        have H3 := Lib.hid b3
        clear b3
        go_wp2_with fail
        refine (HTOP.out w3 H3.out).mono ?_
        rintro e w4 ⟨t, hpm, hps, A4, c4, rfl, h4, b4⟩
        have htl := hpm.length_eq
        have hto := tops_one hpm hps HM.out.1.perm HM.out.1.sorted HM.out.1.low
        have htk : (t.take N.toNat).map (·.st) = sel.map (·.st) := by
          rw [← hto]
          congr 1
          have e1 := HKK.out
          rcases HG.out with h | h
          · rcases Int.lt_or_le N 0 with h0 | h0
            · have e2 : N.toNat = 0 := by omega
              have e3 : sel.length = 0 := by omega
              rw [e2, e3]
            · have e2 : N.toNat = sel.length := by omega
              rw [e2]
          · have e3 : sel.length = l.length := by omega
            rw [e3, List.take_of_length_le (by omega)]
            refine (List.take_of_length_le ?_).symm
            omega
        have HZ := Lib.hid htk
        have b5 : Below wr.heap.size wr w4 := H3.out.trans (b4.mono H3.out.size)
        have hw5 := Held.of_own (own_below HM.out.2.2.1 b5 (Nat.le_refl _))
        have hsl : (sel.map (·.st)).length = kk := by rw [List.length_map, ← HKK.out]
        rw [htk] at h4 ⊢
        rw [hsl] at h4 ⊢
        rw [← HKK.out] at hw5
        have HI := Lib.hid (ints_eq A4 Aw kk kk c4 cw (sel.map (·.st)) w4 hsl.symm hsl.symm h4 hw5 (by rw [hsl]; omega))
        have HF : Hid (Below w.heap.size w w4) := H1.out.2.trans ((HM.out.2.2.2.trans (b5.mono hwx)).mono hs1)
        clear htl hto htk b5 hw5 hsl h4 b4 hpm hps
        go_wp2_with fail
        refine HI.out.mono ?_
        rintro e w5 ⟨rfl, q, rfl⟩
        have HF2 := Lib.hid (below_drewN HF.out q)
        go_wp2_with fail
        go_ret
        exact ⟨rfl, HF2.out⟩

theorem own : ownKnob Try.prog.godebug = none := by kernel_rfl

set_option maxRecDepth 100000 in
theorem lifted (os : Os) (started : os.Started) (H : Type) (enc : TypeId × Value → H) :
    ReturnsInHanded {} Try.checked os 4 .any (Rows.tallyTopsSpec.pre6 enc Try.prog Try.f4 Rows.tallyTopsRow.domain false) (Rows.tallyTopsSpec.post enc Try.prog Try.f4 false true false false) := by
  refine returnsInHanded_of_change (C := Try.checked) own started (by kernel_rfl) Try.func4
    (ChangeSpec.witness6 (enc := enc) (C := Try.checked) false ⟨#[], #[.slice none 0 0, .int .i64 0], []⟩ 8 (by kernel_rfl) (by kernel_rfl) (by kernel_rfl) (by kernel_rfl)) ?_
  intro W base args ds gs before hval0 hW hcnd _
  have hval : ∀ (j : Nat) t v, Try.f4.params[j]? = some t → args[j]? = some v → Value.okWide Try.prog W .any base t v := hval0
  have hW' := hW
  obtain ⟨p, q, hA0, hV, rfl, hfz, hnd⟩ := hW
  have hA : DataW.TrodAll enc Try.prog W 0 (fun _ => true) true Try.f4.params.toList args.toList ds p := hA0
  rw [Try.params4] at hA hval
  obtain ⟨v0, vs0, d0, ds0, p0, q0, hargs, rfl, rfl, h0, r0⟩ := trodAll_cons hA
  obtain ⟨v1, vs1, d1, ds1, p1, q1, rfl, rfl, rfl, h1, r1⟩ := trodAll_cons r0
  obtain ⟨rfl, rfl, rfl⟩ := trodAll_nil r1
  obtain rfl : args = #[v0, v1] := by cases args; simp_all
  obtain ⟨rfl, rfl⟩ := trodVars_none hV
  have g0 := h0
  have g1 := h1
  obtain ⟨n0, C0, k0⟩ := open_rows Try.underlying26 (by kernel_rfl) (by decide) (sm_of Try.underlying33 Try.underlying3 Try.underlying4 (by kernel_rfl) (by kernel_rfl) rfl rfl rfl rfl rfl rfl rfl rfl rfl rfl rfl rfl rfl rfl rfl rfl) (hval 0 26 v0 rfl rfl) h0
  obtain ⟨a1, rfl, _, _, w1⟩ := open_int Try.underlying3 (hval 1 3 v1 rfl rfl) h1
  clear hA0 hval0
  have hlt : ∀ x ∈ (p0 ++ (p1 ++ [])), x.block < W.heap.size := fun x hx => hW'.lt x (by simpa using hx)
  refine (walk W v0 n0 C0 k0 a1 w1).mono fun e W' ⟨he, hb⟩ => ?_
  subst he
  refine ⟨_, rfl, post_of_below (pa := (p0 ++ (p1 ++ []))) (pv := []) hW' (fun _ _ _ => (trodAll_cons_mk (shut_bool Try.underlying4 _) trodAll_mk0)) (fun sp hsp => ?_) (fun _ _ => rfl) (by simp) hb (ok_one (by kernel_rfl) rfl (okWide_bool_mk Try.underlying4 _))⟩
  exact trodAll_cons_mk (below_trod sp (by kernel_rfl) (by kernel_rfl) (of_decide_eq_true (by kernel_rfl)) g0 hb (fun x hx => hlt x (by simp [hx])) (fun x hx => hsp x (by simp [hx])))
    (trodAll_cons_mk (below_trod sp (by kernel_rfl) (by kernel_rfl) (of_decide_eq_true (by kernel_rfl)) g1 hb (fun x hx => hlt x (by simp [hx])) (fun x hx => hsp x (by simp [hx])))
    (trodAll_mk0))

theorem over : Rows.tallyTopsRow.holds Try.pinned (OpenSpec.ofChange Rows.tallyTopsSpec) :=
  OpenClaim.holds_of_wide 4 Try.f4 rfl rfl rfl rfl rfl rfl rfl ⟨rfl, rfl, rfl, rfl, rfl⟩ rfl rfl rfl rfl rfl (by kernel_rfl) Try.func4 (by kernel_rfl)
    (of_decide_eq_true (by kernel_rfl)) (by unfold Func.isWrapper; rw [if_neg (by decide +kernel)]; exact ⟨rfl, rfl⟩)
    (fun os started H enc _ => lifted os started H enc)

theorem proved : Rows.TallyTopsSaid := over
#print axioms proved
end Go.Proofs.Yteokepnkgdhkkaa.TallyTops
