/- The walks of package table, a call of both. -/
import Derived.Test.YtfdfcegomiehbaaRows
import Derived.WalkKit
import Derived.ProofKit
import Derived.Handy
import Derived.Test.YtfdfcegomiehbaaMem
import Derived.Test.YtfdfcegomiehbaaLift
import Derived.Test.YtfdfcegomiehbaaApp
import Derived.Test.YtfdfcegomiehbaaReads
import Derived.Test.YtfdfcegomiehbaaOrd
import Derived.Test.YtfdfcegomiehbaaRow
import Derived.Test.YtfdfcegomiehbaaIns
import Derived.Test.YtfdfcegomiehbaaTable
import Derived.Test.YtfdfcegomiehbaaTable2
import Derived.Test.YtfdfcegomiehbaaInts
import Derived.Test.YtfdfcegomiehbaaTable3
import Derived.Test.YtfdfcegomiehbaaTable4
import Derived.Deep.QuietTactic
import Derived.BigQuiet
import Derived.Deep.RegionWith
import Derived.Deep.RegionHeld3
import Derived.Deep.AppendLies
import Derived.WalkLawsBesides
import Derived.WalkSmall
namespace Go.Proofs.Ytfdfcegomiehbaa
open Go.RowKit
set_option linter.unusedVariables false

theorem TabTurn.below {base : Nat} {w w' : World} {g cap : Nat} {most : Int} {A : Option Addr} {l l' : List (Int × Int)} (k : TabAt base w g most A cap l) (t : TabTurn base w g most (.slice A l.length cap) l' w') : Below base w w' :=
  t.2.below (Nat.le_trans k.bas (Nat.le_of_lt k.lt)) (fun i hi => by
    rcases List.mem_cons.1 hi with rfl | hi
    · exact k.bas
    · exact ownBlock_ge k.own (mem_blks.1 hi))
theorem TabAt.down {base : Nat} {w : World} {g cap : Nat} {most : Int} {A : Option Addr} {l : List (Int × Int)} (k : TabAt base w g most A cap l) : base ≤ w.heap.size := Nat.le_trans k.bas (Nat.le_of_lt k.lt)
/-- A block of another type is as it was behind a table's turn. -/
theorem turn_blk {base : Nat} {w w' : World} {g cap b : Nat} {most : Int} {A : Option Addr} {l l' : List (Int × Int)} {t : TypeId} {cs : Array Value} (k : TabAt base w g most A cap l) (tt : TabTurn base w g most (.slice A l.length cap) l' w') (h : Blk w b t cs) (h1 : 54 ≠ t) (h2 : 58 ≠ t) : Blk w' b t cs :=
  h.only tt.2 (fun hi => by
    rcases List.mem_cons.1 hi with rfl | hi
    · exact Blk.ne_ k.blk h h1 rfl
    · exact own_blk_ne k.own h h2 (mem_blks.1 hi))
/-- A cell of a block of another type has turned. -/
theorem TabAt.only1 {base : Nat} {w : World} {g cap b o : Nat} {most : Int} {A : Option Addr} {l : List (Int × Int)} {t : TypeId} {cs : Array Value} (k : TabAt base w g most A cap l) (h : Blk w b t cs) (h1 : 54 ≠ t) (h2 : 58 ≠ t) (u : Value) : TabAt base (w.setCell ⟨b, o, none⟩ u) g most A cap l := by
  have on : Only [b] w (w.setCell ⟨b, o, none⟩ u) := (Only.refl [b] w).setCell (.inl (by simp)) _
  exact ⟨k.blk.only on (by simpa using fun e => Blk.ne_ k.blk h h1 e), own_only k.own on (fun z hz => by simp; rintro rfl; exact own_blk_ne k.own h h2 hz), k.srt, k.few, k.bas⟩
theorem own_of_blk2 {w : World} {g : Nat} {x y : Value} (h : Blk w g 3 #[x, y]) : w.ownsRow 0 3 1 (.slice (some ⟨g, 0, none⟩) 2 2) 2 [x, y] :=
  ⟨rfl, .inr ⟨g, 2, #[x, y], rfl, Nat.zero_le _, h, Nat.le_refl _, by unfold maxLen; omega, rfl, rfl⟩⟩
set_option maxHeartbeats 1000000 in
theorem awake_any (w : World) : Calls Try.prog 7 #[] w fun e w' => e = .returned (.bool true) ∧ Below w.heap.size w w' := by
  go_enter Try.func7, Try.ntmps7
  go_wp2_with fail
  refine (new_ok 3 w (by omega) (by omega)).mono ?_
  rintro e w1 ⟨rfl, k1, b1⟩
  have K1 := k1 w.heap.size (Nat.le_refl _)
  have H1 := Lib.hid (And.intro K1 b1)
  clear k1 b1 K1
  go_wp2_with fail
  refine (put_any w.heap.size w.heap.size 0 3 5 50 none [] w1 H1.out.1 (by omega)).mono ?_
  rintro e w2 ⟨c, l', rfl, t2, hcase⟩
  obtain ⟨rfl, rfl⟩ : c = 0 ∧ l' = [(5, 50)] := by
    rcases hcase with ⟨_, _, k, hk, _⟩ | ⟨_, ⟨_, _, h⟩ | ⟨rfl, _, k, hp, rfl⟩⟩
    · simp at hk
    · simp at h
    · exact ⟨rfl, by have := hp.1; simp at this; subst this; rfl⟩
  have B2 := H1.out.2.trans (t2.below H1.out.1)
  obtain ⟨⟨A2, c2, k2, _⟩, _⟩ := t2
  have H2 := Lib.hid (And.intro k2 B2)
  clear k2 B2 hcase
  go_wp2_with fail
  refine (put_any w.heap.size w.heap.size c2 3 2 20 A2 [(5, 50)] w2 H2.out.1 (by omega)).mono ?_
  rintro e w3 ⟨c, l', rfl, t3, hcase⟩
  obtain ⟨rfl, rfl⟩ : c = 0 ∧ l' = [(2, 20), (5, 50)] := by
    rcases hcase with ⟨_, _, k, hk, hx⟩ | ⟨_, ⟨_, _, h⟩ | ⟨rfl, _, k, hp, rfl⟩⟩
    · simp at hk; subst hk; simp at hx
    · simp at h
    · refine ⟨rfl, ?_⟩
      obtain ⟨h1, h2, h3⟩ := hp
      rcases Nat.eq_zero_or_pos k with h | h
      · subst h; rfl
      · have := h2 0 (by simp) h
        simp at this
  have B3 := H2.out.2.trans (t3.below H2.out.1)
  obtain ⟨⟨A3, c3, k3, _⟩, _⟩ := t3
  have H3 := Lib.hid (And.intro k3 B3)
  clear k3 B3 hcase
  go_wp2_with fail
  refine (get_any w.heap.size w.heap.size c3 3 5 A3 [(2, 20), (5, 50)] w3 H3.out.1).mono ?_
  rintro e w4 ⟨v, b, rfl, hcase, b4⟩
  obtain ⟨rfl, rfl⟩ : v = 50 ∧ b = true := by
    rcases hcase with ⟨rfl, k, hk, hx, hy⟩ | ⟨_, _, hno⟩
    · refine ⟨?_, rfl⟩
      match k, hk with
      | 0, _ => simp at hx
      | 1, _ => simpa using hy.symm
    · exact absurd rfl (hno 1 (by simp))
  have H4 := Lib.hid (And.intro (H3.out.1.below b4) (H3.out.2.trans (b4.mono H3.out.1.down)))
  clear b4 hcase
  go_wp2_with fail
  refine (ids_any w.heap.size w.heap.size c3 3 A3 [(2, 20), (5, 50)] w4 H4.out.1).mono ?_
  rintro e w5 ⟨A5, c5, rfl, h5, b5⟩
  have H5 := Lib.hid (And.intro h5 (H4.out.2.trans (b5.mono H4.out.1.down)))
  have hs5 := H5.out.2.size
  clear h5 b5
  go_wp2_with fail
  refine (ints_eq A5 (some ⟨w5.heap.size, 0, none⟩) 2 2 c5 2 [2, 5] _ rfl rfl (by exact H5.out.1.alloc _) (by
    exact Held.of_own (base := 0) (own_of_blk2 (Blk.new w5 3 #[.int .i64 2, .int .i64 5]))) (by simp)).mono ?_
  rintro e w6 ⟨rfl, q, rfl⟩
  go_wp2_with fail
  go_ret
  exact ⟨rfl, below_drewN (H5.out.2.alloc hs5 _) q⟩

/-- Blocks of other types stand as they stood. -/
def Still (w w' : World) : Prop := ∀ (b : Nat) (t : TypeId) (cs : Array Value), Blk w b t cs → 54 ≠ t → 58 ≠ t → Blk w' b t cs
theorem Still.of_below {w w' : World} (b : Below w.heap.size w w') : Still w w' := fun x t cs h _ _ => Blk.below h b (Blk.lt h)
theorem Still.trans {a b c : World} (h : Still a b) (k : Still b c) : Still a c := fun x t cs hx h1 h2 => k x t cs (h x t cs hx h1 h2) h1 h2
theorem Still.turn {base : Nat} {w w' : World} {g cap : Nat} {most : Int} {A : Option Addr} {l l' : List (Int × Int)} (k : TabAt base w g most A cap l) (tt : TabTurn base w g most (.slice A l.length cap) l' w') : Still w w' := fun x t cs h h1 h2 => turn_blk k tt h h1 h2
theorem Still.set_ {w w' : World} {b o : Nat} {u : Value} (h : Still w w') (hb : w.heap.size ≤ b) : Still w (w'.setCell ⟨b, o, none⟩ u) := fun x t cs hx h1 h2 => (h x t cs hx h1 h2).far (p := ⟨b, o, none⟩) (by have := Blk.lt hx; simp; omega) u
def Did (base g : Nat) (most : Int) (w : World) (e : Ending) (w' : World) : Prop :=
  ∃ l' A' cap' B' c', e = .returned (.tuple #[.agg #[.slice B' l'.length c'], .bool true]) ∧ TabAt base w' g most A' cap' l' ∧ Held w' 47 2 B' l'.length c' (prs l') ∧ Below base w w' ∧ Still w w'
theorem ret_cell1_tmp {P : Program} {fn : Func} {R : Ending → World → Prop} {a : Act} {W : World} {p u : Tmp} {ty t : TypeId} {g : Nat} {x : Value} (h : fn.results = #[.cell p ty, .tmp u]) (hd : a.defers = [])
    (hp : a.tmps.getD p undef = .pointer (some ⟨g, 0, none⟩)) (hB : Blk W g t #[x])
    (hl : ∀ W' : World, W'.cell? ⟨g, 0, none⟩ = some x → (loadVar ty ⟨g, 0, none⟩).run P W' = .ok (.agg #[x]) W')
    (hR : R (.returned (.tuple #[.agg #[x], a.tmps.getD u undef])) W) : bodyPost P fn R .ret a W := by
  refine bodyPost_ret (v := .tuple #[.agg #[x], a.tmps.getD u undef]) ?_ hd hR
  rw [results_cell_tmp h, hp]
  show ((loadVar ty ⟨g, 0, none⟩).run P W).andThen _ = _
  rw [hl W (Blk.cell hB 0)]
  rfl

set_option maxRecDepth 20000 in
set_option maxHeartbeats 4000000 in
theorem do_put (base g cap c : Nat) (most : Int) (A B : Option Addr) (l : List (Int × Int)) (kd x y : Int) (w : World) (k : TabAt base w g most A cap l) (hI : Held w 47 2 B l.length c (prs l)) (hm : most ≤ 1024) (hk : kd = 0 ∨ kd = 1 ∨ kd = 2) :
    Calls Try.prog 8 #[.pointer (some ⟨g, 0, none⟩), .agg #[.slice B l.length c], .int .i64 most, .agg #[.int .i64 kd, .int .i64 x, .int .i64 y]] w (Did base g most w) := by
  have hcI := hI.2.1
  have hfew := k.few
  have b5 := (Blk.alloc (Blk.alloc (Blk.new w 30 #[.slice B l.length c]) (.cells #[.int .i64 kd, .int .i64 x, .int .i64 y] 34)) (.cells #[.slice none 0 0] 30))
  have b7 := Blk.alloc (Blk.new (w.alloc (.cells #[.slice B l.length c] 30)) 34 #[.int .i64 kd, .int .i64 x, .int .i64 y]) (.cells #[.slice none 0 0] 30)
  have b8 := Blk.new ((w.alloc (.cells #[.slice B l.length c] 30)).alloc (.cells #[.int .i64 kd, .int .i64 x, .int .i64 y] 34)) 30 #[.slice none 0 0]
  have BW : Below w.heap.size w (((w.alloc (.cells #[.slice B l.length c] 30)).alloc (.cells #[.int .i64 kd, .int .i64 x, .int .i64 y] 34)).alloc (.cells #[.slice none 0 0] 30)) := (((Below.refl _ _).alloc (Nat.le_refl _) _).alloc (by simp) _).alloc (by simp; omega) _
  simp only [World.size_alloc] at b7 b8
  have HW := Lib.hid (And.intro (k.below BW) (And.intro (hI.below BW) (And.intro b5 (And.intro b7 (And.intro b8 (BW.mono k.down))))))
  have hs0 := k.lt
  have HBW := Lib.hid (Still.of_below BW)
  have HK := Lib.hid k
  clear b5 b7 b8 BW k hI
  go_enter Try.func8, Try.ntmps8
  go_wp2_with fail
  generalize ((w.alloc (.cells #[.slice B l.length c] 30)).alloc (.cells #[.int .i64 kd, .int .i64 x, .int .i64 y] 34)).alloc (.cells #[.slice none 0 0] 30) = W at *
  have HF0 : Hid (Still w W) := HBW.out
  generalize hs00 : w.heap.size = s0 at *
  have HS0 := Lib.hid hs00
  clear hs00
  have hs8 := Blk.lt HW.out.2.2.2.2.1
  refine (rfind_any B l.length c l x W rfl HW.out.2.1).mono ?_
  rintro e w1 ⟨r, rfl, hr, b1⟩
  have HR := Lib.hid hr
  have H1 := Lib.hid (And.intro (HW.out.1.below b1) (And.intro (HW.out.2.1.below b1) (And.intro (Blk.below HW.out.2.2.1 b1 (Blk.lt HW.out.2.2.1)) (And.intro (Blk.below HW.out.2.2.2.1 b1 (Blk.lt HW.out.2.2.2.1)) (And.intro (Blk.below HW.out.2.2.2.2.1 b1 (Blk.lt HW.out.2.2.2.2.1)) (HW.out.2.2.2.2.2.trans (b1.mono HW.out.1.down)))))))
  have hs1 := b1.size
  have HF1 := Lib.hid (HF0.out.trans (Still.of_below b1))
  clear b1 hr
  have c5 := Blk.cell H1.out.2.2.1 0
  have c70 := Blk.cell H1.out.2.2.2.1 0
  have c71 := Blk.cell H1.out.2.2.2.1 1
  have c72 := Blk.cell H1.out.2.2.2.1 2
  simp at c5 c70 c71 c72
  have HP := Lib.hid (put_any base g cap most x y A l w1 H1.out.1 hm)
  rcases hk with rfl | rfl | rfl
  all_goals
    (go_wp2_with fail
     refine HP.out.mono ?_
     rintro e w2 ⟨cc, l', rfl, t2, hcase⟩
     have HC := Lib.hid hcase
     have d5 := turn_blk H1.out.1 t2 H1.out.2.2.1 (by decide) (by decide)
     have d7 := turn_blk H1.out.1 t2 H1.out.2.2.2.1 (by decide) (by decide)
     have d8 := turn_blk H1.out.1 t2 H1.out.2.2.2.2.1 (by decide) (by decide)
     have dI := H1.out.1.held t2.2 H1.out.2.1 (by decide) (by decide)
     have B2 := H1.out.2.2.2.2.2.trans (t2.below H1.out.1)
     have H2 := Lib.hid (And.intro t2.1 (And.intro dI (And.intro d5 (And.intro d7 (And.intro d8 B2)))))
     have hs2 := t2.2.size
     have HF2 := Lib.hid (HF1.out.trans (Still.turn H1.out.1 t2))
     clear t2 hcase d5 d7 d8 dI B2 c5 c70 c71 c72
     have c5 := Blk.cell H2.out.2.2.1 0
     have c71 := Blk.cell H2.out.2.2.2.1 1
     have c72 := Blk.cell H2.out.2.2.2.1 2
     have c8 := Blk.cell H2.out.2.2.2.2.1 0
     have f8 := Blk.frozen H2.out.2.2.2.2.1 0
     simp at c5 c71 c72 c8
     rcases HR.out with ⟨kr, hkr, hxr, rfl⟩ | ⟨rfl, hno⟩
     · obtain ⟨rfl, rfl⟩ : cc = 8 ∧ l = l' := by
         rcases HC.out with ⟨h1, h2, _⟩ | ⟨h1, _⟩
         · exact ⟨h1, h2.symm⟩
         · exact absurd hxr (h1 kr hkr)
       have hr0 : (0 : Int) ≤ kr := by omega
       clear hxr
       go_wp2_with fail
       obtain ⟨⟨A2, cap2, k2, _⟩, dI, _, _, d8, B2⟩ := H2.out
       have BR := Blk.set_ d8 0 (.slice B l.length c)
       simp at BR
       refine ret_cell1_tmp (g := s0 + 1 + 1) rfl rfl rfl BR (fun W' q0 => by simp [go_sem, q0]) ⟨l, A2, cap2, B, c, rfl, ?_, ?_, ?_⟩
       · exact k2.only1 d8 (by decide) (by decide) _
       · exact dI.setCell (p := ⟨s0 + 1 + 1, 0, none⟩) (by exact d8) (by decide) _
       · exact ⟨B2.setCell (by have := HK.out.bas; simp; omega) _, HF2.out.set_ (by have := HS0.out; omega)⟩
     · have hneg : ¬ (0 : Int) ≤ -1 := by omega
       have HNO := Lib.hid hno
       clear hno
       rcases HC.out with ⟨_, _, kk, hkk, hxx⟩ | ⟨_, ⟨rfl, hll, hfull⟩ | ⟨rfl, hroom, kk, hpl, rfl⟩⟩
       · exact absurd hxx (HNO.out kk hkk)
       · obtain rfl : l = l' := hll.symm
         go_wp2_with fail
         obtain ⟨⟨A2, cap2, k2, _⟩, dI, _, _, d8, B2⟩ := H2.out
         have BR := Blk.set_ d8 0 (.slice B l.length c)
         simp at BR
         refine ret_cell1_tmp (g := s0 + 1 + 1) rfl rfl rfl BR (fun W' q0 => by simp [go_sem, q0]) ⟨l, A2, cap2, B, c, rfl, ?_, ?_, ?_⟩
         · exact k2.only1 d8 (by decide) (by decide) _
         · exact dI.setCell (p := ⟨s0 + 1 + 1, 0, none⟩) (by exact d8) (by decide) _
         · exact ⟨B2.setCell (by have := HK.out.bas; simp; omega) _, HF2.out.set_ (by have := HS0.out; omega)⟩
       · have HPL := Lib.hid hpl
         have hroom2 : ¬ most ≤ (l.length : Int) := by omega
         clear hpl
         go_wp2_with fail
         refine (rput_any B l.length c l x y w2 rfl (by omega) H2.out.2.1).mono ?_
         rintro e w3 ⟨k3, ha, A3, c3, rfl, h3, b3⟩
         obtain rfl : kk = k3 := place_one HPL.out (ha.place HK.out.srt)
         obtain ⟨⟨A2, cap2, k2, _⟩, _, _, _, d8, B2⟩ := H2.out
         have H3 := Lib.hid (And.intro (k2.below b3) (And.intro h3 (And.intro (Blk.below d8 b3 (Blk.lt d8)) (B2.trans (b3.mono k2.down)))))
         have HF3 := Lib.hid (HF2.out.trans (Still.of_below b3))
         clear ha h3 b3 c8 f8 k2 d8 B2
         have c8 := Blk.cell H3.out.2.2.1 0
         have f8 := Blk.frozen H3.out.2.2.1 0
         simp at c8
         go_wp2_with fail
         have BR := Blk.set_ H3.out.2.2.1 0 (.slice A3 (ins l kk (x, y)).length c3)
         simp at BR
         have O3 : Below s0 w3 (w3.setCell ⟨s0 + 1 + 1, 0, none⟩ (.slice A3 (ins l kk (x, y)).length c3)) := (Below.refl _ _).setCell (by simp; omega) _
         refine ret_cell1_tmp (g := s0 + 1 + 1) rfl rfl rfl BR (fun W' q0 => by simp [go_sem, q0]) ⟨ins l kk (x, y), A2, cap2, A3, c3, rfl, ?_, ?_, ?_⟩
         · exact H3.out.1.only1 H3.out.2.2.1 (by decide) (by decide) _
         · exact H3.out.2.1.setCell (p := ⟨s0 + 1 + 1, 0, none⟩) (by exact H3.out.2.2.1) (by decide) _
         · exact ⟨H3.out.2.2.2.trans (O3.mono (by have := HK.out.bas; omega)), HF3.out.set_ (by have := HS0.out; omega)⟩)
end Go.Proofs.Ytfdfcegomiehbaa
