/- Proved: ShareAlike answers true for every input, and leaves its arguments as they were; no condition. -/
import Derived.Test.YtodkifkphhfnpaaRows
import Derived.Test.YtodkifkphhfnpaaMem
import Derived.Test.YtodkifkphhfnpaaLift
import Derived.Test.YtodkifkphhfnpaaShareAw
import Derived.WalkKit
import Derived.ProofKit
import Derived.OpenShut
import Derived.Handy
import Derived.Deep.QuietTactic
import Derived.BigQuiet
import Derived.Deep.RegionWith
import Derived.WalkLawsBesides
import Derived.Test.YtodkifkphhfnpaaShare7
namespace Go.Proofs.Ytodkifkphhfnpaa.ShareAlike
open Go.ChangeShapes Go.WideShapes Go.ChangeAt Go.RowKit Go.Deep
set_option linter.unusedVariables false

theorem info_C : (Try.prog.info? 32).map (fun i => (i.zero, i.size, i.bytes)) = some (some (.agg #[.int .i64 0, .int .i64 0]), 2, 16) := by kernel_rfl
def cls (x : Int) (m : Nat) : List Value := (List.range m).flatMap fun _ => [Value.int .i64 2147483647, Value.int .i64 x]
theorem cls_succ (x : Int) (m : Nat) : cls x (m + 1) = cls x m ++ [.int .i64 2147483647, .int .i64 x] := by simp [cls, List.range_succ, List.flatMap_append]
theorem cls_get (x : Int) : ∀ (m i : Nat), i < m → (cls x m)[i * 2]? = some (.int .i64 2147483647) ∧ (cls x m)[i * 2 + 1]? = some (.int .i64 x) := by
  intro m
  have hl : ∀ m, (cls x m).length = m * 2 := by
    intro m
    induction m with
    | zero => rfl
    | succ m ih => rw [cls_succ, List.length_append, ih]; simp; omega
  induction m with
  | zero => intro i hi; omega
  | succ m ih =>
    intro i hi
    rw [cls_succ]
    by_cases h : i < m
    · obtain ⟨h1, h2⟩ := ih i h
      rw [List.getElem?_append_left (by rw [hl]; omega), List.getElem?_append_left (by rw [hl]; omega)]
      exact ⟨h1, h2⟩
    · have : i = m := by omega
      subst this
      rw [List.getElem?_append_right (by rw [hl]; omega), List.getElem?_append_right (by rw [hl]; omega), hl]
      rw [show i * 2 - i * 2 = 0 by omega, show i * 2 + 1 - i * 2 = 1 by omega]
      exact ⟨rfl, rfl⟩
theorem claims_own {w : World} {B n cap : Nat} {A : Option Addr} {x : Int} (o : w.ownsRow B 32 2 (.slice A n cap) n (cls x n)) (hx : -9223372036854775808 ≤ x ∧ x ≤ 9223372036854775807) (hn : n ≤ 256) : Claims w (.slice A n cap) n (fun _ => 2147483647) (fun _ => x) := by
  rcases o.2 with ⟨hv, h0⟩ | ⟨g, cap', cur, hv, _, hh, h, hm, hs, ht⟩
  · injection hv with h1 h2 h3
    subst h1 h0 h3
    exact ⟨⟨_, _, rfl, by omega, by omega, fun _ => rfl, fun i hi => absurd hi (by omega)⟩, fun i _ => by omega, fun i _ => hx⟩
  · injection hv with h1 h2 h3
    subst h1 h3
    refine ⟨⟨_, _, rfl, h, by unfold maxLen at hm; omega, fun h => (by cases h), fun i hi => ⟨g, 0, rfl, lt_of_blk hh, ?_, ?_⟩⟩, fun i _ => by omega, fun i _ => hx⟩
    · rw [cell_of_row w g _ cur 32 (0, 0) hh]
      have := (cls_get x n i hi).1
      rw [← ht, List.getElem?_take] at this
      split at this
      · rw [← Array.getElem?_toList, Nat.zero_add]; exact this
      · cases this
    · rw [cell_of_row w g _ cur 32 (0, 0) hh]
      have := (cls_get x n i hi).2
      rw [← ht, List.getElem?_take] at this
      split at this
      · rw [← Array.getElem?_toList, Nat.zero_add]; exact this
      · cases this

def lowF (h : Nat → Int) : Nat → Int
  | 0 => h 0
  | m + 1 => min (lowF h m) (h m)
def highF (h : Nat → Int) : Nat → Int
  | 0 => h 0
  | m + 1 => max (highF h m) (h m)
theorem lowF_mem (h : Nat → Int) : ∀ m, ∃ i, (i = 0 ∨ i < m) ∧ lowF h m = h i
  | 0 => ⟨0, .inl rfl, rfl⟩
  | m + 1 => by
    obtain ⟨i, hi, he⟩ := lowF_mem h m
    rcases Int.le_total (lowF h m) (h m) with hh | hh
    · exact ⟨i, by omega, by simp only [lowF]; omega⟩
    · exact ⟨m, by omega, by simp only [lowF]; omega⟩
theorem highF_mem (h : Nat → Int) : ∀ m, ∃ i, (i = 0 ∨ i < m) ∧ highF h m = h i
  | 0 => ⟨0, .inl rfl, rfl⟩
  | m + 1 => by
    obtain ⟨i, hi, he⟩ := highF_mem h m
    rcases Int.le_total (h m) (highF h m) with hh | hh
    · exact ⟨i, by omega, by simp only [highF]; omega⟩
    · exact ⟨m, by omega, by simp only [highF]; omega⟩

set_option maxRecDepth 100000 in
set_option maxHeartbeats 8000000 in
theorem walk (w : World) (a0 : Int) (w0 : (Lit.int .u32 a0).wf = true) (a1 : Int) (w1 : (Lit.int .u8 a1).wf = true) (a2 : Int) (w2 : (Lit.int .i64 a2).wf = true) :
    Calls Try.prog 4 #[.int .u32 a0, .int .u8 a1, .int .i64 a2] w fun e w' => e = .returned (.bool true) ∧ Below w.heap.size w w' := by
  obtain ⟨b1, b2⟩ := bounds_u32 w0
  obtain ⟨b3, b4⟩ := bounds_u8 w1
  obtain ⟨b5, b6⟩ := bounds_i64 w2
  obtain ⟨i0, hi0, hz0, hz1, hz2⟩ := info_parts info_C
  clear w0 w1 w2
  have hm0 : 0 ≤ a0 % 2147483648 := by omega
  have hm1 : a0 % 2147483648 ≤ 2147483647 := by omega
  obtain ⟨k, hk, hk1, hk2⟩ : ∃ k : Nat, (k : Int) = a1 % 40 + 2 ∧ 2 ≤ k ∧ k ≤ 41 := ⟨(a1 % 40 + 2).toNat, by omega, by omega, by omega⟩
  go_enter Try.func4, Try.ntmps4
  go_wp2_with fail
  go_loopw [8, 9] (fun lv iv wr => ∃ (m : Nat) (A : Option Addr) (c : Nat), m ≤ k ∧ iv = .int .i64 m ∧ lv = .slice A m c ∧ wr.ownsRow w.heap.size 32 2 (.slice A m c) m (cls a2 m) ∧ Below w.heap.size w wr) (fun _ i _ => k - (intOf i).toNat)
  case atStart => exact ⟨0, none, 0, by omega, rfl, rfl, own_nil _ _ _ _, Below.refl _ _⟩
  case round =>
    obtain ⟨m, A, c, hm, rfl, rfl, own, rb⟩ := hrel
    have hwr := rb.size
    have OW := Lib.hid own
    have RB := Lib.hid rb
    clear own rb
    by_cases hlt : m < k
    · have hlt' : (m : Int) < a1 % 40 + 2 := by omega
      go_wp2_with (first
          | (at_builtin
             refine wpList_append_s _ rfl (.tmp 26) (.tmp 29) _ rfl w.heap.size 32 i0 _ 2 16 Try.underlying23 hi0 hz0 hz1 hz2 rfl (by omega) (.slice A m c) m _ rfl (OW.out.alloc _) ⟨wr.heap.size, 0, none⟩ 1 1 [.int .i64 2147483647, .int .i64 a2] rfl rfl ?c1 ?c2 ?c3 ?c4 ?c5 ?_
             case c1 => exact fun j u hu => World.news_of_block (cs := #[.int .i64 2147483647, .int .i64 a2]) (t := 32) (fr := (0, 0)) (heap_alloc_new wr _) j u hu
             case c2 => intro u hu; simp at hu; rcases hu with rfl | rfl <;> rfl
             case c3 => simp only [maxLen]; omega
             case c4 => omega
             case c5 => simp; omega
             intro A1 k1 w1 hn1 hg1))
      go_roundw
      case rel =>
        have OWx := OW.out.alloc (.cells #[.int .i64 2147483647, .int .i64 a2] 32)
        refine ⟨m + 1, A1, k1, by omega, by go_num, rfl, by rw [cls_succ]; exact hn1, ?_⟩
        exact (RB.out.alloc hwr _).grown hg1 (by simp; omega) (fun k hk => ownBlock_ge OWx hk)
      case measure => simp [intOf]; omega
    · obtain rfl : k = m := by omega
      have hlt' : ¬ (k : Int) < a1 % 40 + 2 := by omega
      have hcl := claims_own OW.out ⟨b5, b6⟩ (by omega)
      generalize hK : a0 % 2147483648 = K at *
      have HS := Lib.hid (share_ok K _ k _ _ wr hcl (by omega) hm0 hm1)
      clear hcl
      go_wp2_with fail
      refine HS.out.mono ?_
      rintro e w2 ⟨A1, c1, h, rfl, hr1, hE, bb1⟩
      have HR1 := Lib.hid hr1
      have HE := Lib.hid hE
      have HB1 := Lib.hid (RB.out.trans (bb1.mono hwr))
      clear hr1 hE bb1
      go_wp2_with fail
      refine (awake_any _).mono ?_
      rintro e w3 ⟨rfl, bb3⟩
      have HR3 := Lib.hid (HR1.out.below bb3)
      have HB3 := Lib.hid (HB1.out.trans (bb3.mono HB1.out.size))
      clear bb3
      have F := fits_of K k (fun _ => 2147483647) (fun _ => a2) hm0 hm1
      have AL := HE.out.alike F.ok 2147483647 (fun j _ => by simp only [dealOf, wantOf]; omega) (wtOf a2) (fun j _ => rfl)
      have I := HE.out.inv F.ok
      have hbd : ∀ j, j < k → 0 ≤ h j ∧ h j ≤ 2147483647 := fun j hj => ⟨I.lo j hj, by
        have h1 := I.hi j hj
        have h2 := F.want1 j hj
        omega⟩
      have HAL := Lib.hid AL
      have HBD := Lib.hid hbd
      obtain ⟨g, rfl, i⟩ := HR3.out.2 (by omega)
      have y0 := i.cell (i := 0) (by omega)
      have hb0 := hbd 0 (by omega)
      have HI := Lib.hid i
      clear F AL I hbd i
      go_wp2_with fail
      go_quiet (fail)
      go_wp2_with fail
      go_loopw [12, 13, 14] (fun lv hv iv wr => ∃ m q : Nat, m ≤ k ∧ iv = .int .i64 m ∧ lv = .int .i64 (lowF h m) ∧ hv = .int .i64 (highF h m) ∧ wr = w3.drewN q) (fun _ _ i _ => k - (intOf i).toNat)
      case atStart => exact ⟨0, _, by omega, rfl, rfl, rfl, rfl⟩
      case round =>
        obtain ⟨m, q, hm, rfl, rfl, rfl, rfl⟩ := hrel
        by_cases hlt : m < k
        · have y := HI.out.cell hlt
          have hb := HBD.out m hlt
          go_wp2_with fail
          go_roundw
          case rel =>
            refine ⟨m + 1, q, by omega, by go_num, ?_, ?_, rfl⟩
            · congr 1; simp only [lowF]; split <;> omega
            · congr 1; simp only [highF]; split <;> omega
          case measure => simp [intOf]; omega
        · obtain rfl : k = m := by omega
          obtain ⟨i, hi, e1⟩ := lowF_mem h k
          obtain ⟨j, hj, e2⟩ := highF_mem h k
          have ha := HAL.out i j (show i < k by omega) (show j < k by omega)
          have hi' := HBD.out i (by omega)
          have hj' := HBD.out j (by omega)
          rw [e1, e2]
          have hle : h j - h i ≤ 1 := by omega
          clear e1 e2
          go_wp2_with fail
          go_ret
          exact ⟨rfl, below_drewN HB3.out q⟩

theorem own : ownKnob Try.prog.godebug = none := by kernel_rfl

set_option maxRecDepth 100000 in
theorem lifted (os : Os) (started : os.Started) (H : Type) (enc : TypeId × Value → H) :
    ReturnsInHanded {} Try.checked os 4 .any (Rows.shareAlikeSpec.pre6 enc Try.prog Try.f4 Rows.shareAlikeRow.domain false) (Rows.shareAlikeSpec.post enc Try.prog Try.f4 false true false false) := by
  refine returnsInHanded_of_change (C := Try.checked) own started (by kernel_rfl) Try.func4
    (ChangeSpec.witness6 (enc := enc) (C := Try.checked) false ⟨#[], #[.int .u32 0, .int .u8 0, .int .i64 0], []⟩ 8 (by kernel_rfl) (by kernel_rfl) (by kernel_rfl) (by kernel_rfl)) ?_
  intro W base args ds gs before hval0 hW hcnd _
  have hval : ∀ (j : Nat) t v, Try.f4.params[j]? = some t → args[j]? = some v → Value.okWide Try.prog W .any base t v := hval0
  have hW' := hW
  obtain ⟨p, q, hA0, hV, rfl, hfz, hnd⟩ := hW
  have hA : DataW.TrodAll enc Try.prog W 0 (fun _ => true) true Try.f4.params.toList args.toList ds p := hA0
  rw [Try.params4] at hA hval
  obtain ⟨v0, vs0, d0, ds0, p0, q0, hargs, rfl, rfl, h0, r0⟩ := trodAll_cons hA
  obtain ⟨v1, vs1, d1, ds1, p1, q1, rfl, rfl, rfl, h1, r1⟩ := trodAll_cons r0
  obtain ⟨v2, vs2, d2, ds2, p2, q2, rfl, rfl, rfl, h2, r2⟩ := trodAll_cons r1
  obtain ⟨rfl, rfl, rfl⟩ := trodAll_nil r2
  obtain rfl : args = #[v0, v1, v2] := by cases args; simp_all
  obtain ⟨rfl, rfl⟩ := trodVars_none hV
  have g0 := h0
  have g1 := h1
  have g2 := h2
  obtain ⟨a0, rfl, _, _, w0⟩ := open_int Try.underlying22 (hval 0 22 v0 rfl rfl) h0
  obtain ⟨a1, rfl, _, _, w1⟩ := open_int Try.underlying5 (hval 1 5 v1 rfl rfl) h1
  obtain ⟨a2, rfl, _, _, w2⟩ := open_int Try.underlying3 (hval 2 3 v2 rfl rfl) h2
  clear hA0 hval0
  have hlt : ∀ x ∈ (p0 ++ (p1 ++ (p2 ++ []))), x.block < W.heap.size := fun x hx => hW'.lt x (by simpa using hx)
  refine (walk W a0 w0 a1 w1 a2 w2).mono fun e W' ⟨he, hb⟩ => ?_
  subst he
  refine ⟨_, rfl, post_of_below (pa := (p0 ++ (p1 ++ (p2 ++ [])))) (pv := []) hW' (fun _ _ _ => (trodAll_cons_mk (shut_bool Try.underlying4 _) trodAll_mk0)) (fun sp hsp => ?_) (fun _ _ => rfl) (by simp) hb (ok_one (by kernel_rfl) rfl (okWide_bool_mk Try.underlying4 _))⟩
  exact trodAll_cons_mk (below_trod sp (by kernel_rfl) (by kernel_rfl) (of_decide_eq_true (by kernel_rfl)) g0 hb (fun x hx => hlt x (by simp [hx])) (fun x hx => hsp x (by simp [hx])))
    (trodAll_cons_mk (below_trod sp (by kernel_rfl) (by kernel_rfl) (of_decide_eq_true (by kernel_rfl)) g1 hb (fun x hx => hlt x (by simp [hx])) (fun x hx => hsp x (by simp [hx])))
    (trodAll_cons_mk (below_trod sp (by kernel_rfl) (by kernel_rfl) (of_decide_eq_true (by kernel_rfl)) g2 hb (fun x hx => hlt x (by simp [hx])) (fun x hx => hsp x (by simp [hx])))
    (trodAll_mk0)))

theorem over : Rows.shareAlikeRow.holds Try.pinned (OpenSpec.ofChange Rows.shareAlikeSpec) :=
  OpenClaim.holds_of_wide 4 Try.f4 rfl rfl rfl rfl rfl rfl rfl ⟨rfl, rfl, rfl, rfl, rfl⟩ rfl rfl rfl rfl rfl (by kernel_rfl) Try.func4 (by kernel_rfl)
    (of_decide_eq_true (by kernel_rfl)) (by unfold Func.isWrapper; rw [if_neg (by decide +kernel)]; exact ⟨rfl, rfl⟩)
    (fun os started H enc _ => lifted os started H enc)

theorem proved : Rows.ShareAlikeSaid := over
#print axioms proved
end Go.Proofs.Ytodkifkphhfnpaa.ShareAlike
