/- Proved: RingStream answers true for every input, and leaves its arguments as they were; no condition. -/
import Derived.Test.YtejbpjfigopplaaRows
import Derived.Test.YtejbpjfigopplaaMem
import Derived.Test.YtejbpjfigopplaaLift
import Derived.Test.YtejbpjfigopplaaRingL
import Derived.WalkKit
import Derived.ProofKit
import Derived.OpenShut
import Derived.Handy
import Derived.Deep.QuietTactic
import Derived.BigQuiet
import Derived.Deep.RegionWith
import Derived.WalkLawsBesides
import Derived.ChangeMaps5
namespace Go.Proofs.Ytejbpjfigopplaa.RingStream
open Go.ChangeShapes Go.WideShapes Go.ChangeAt Go.RowKit Go.Deep
set_option linter.unusedVariables false

theorem toList_inj {a b : ByteArray} (h : a.data.toList = b.data.toList) : a = b := by
  obtain ⟨⟨x⟩⟩ := a
  obtain ⟨⟨y⟩⟩ := b
  simp only at h
  rw [h]
theorem app_toList' (s t : ByteArray) : (s ++ t).data.toList = s.data.toList ++ t.data.toList := by simp
/-- A round of the loop: what is written goes in, what is read comes out. -/
theorem stream_round {out rest S : ByteArray} {l : List UInt8} {n d : Nat} (h : out.data.toList ++ l ++ rest.data.toList = S.data.toList) (hn : n ≤ rest.size) :
    (out ++ ⟨((l ++ rest.data.toList.take n).take d).toArray⟩).data.toList ++ (l ++ rest.data.toList.take n).drop d ++ (rest.extract n rest.size).data.toList = S.data.toList := by
  rw [app_toList', extd rest n hn]
  simp only [List.append_assoc]
  rw [← List.append_assoc (List.take d _), List.take_append_drop, ← h]
  simp only [List.append_assoc, List.take_append_drop]

set_option maxRecDepth 100000 in
set_option maxHeartbeats 8000000 in
theorem core (w : World) (a0 : Int) (b1 : 0 ≤ a0) (b2 : a0 ≤ 255) (S : ByteArray) (hS : S.size ≤ 3000) (S0 : ByteArray) (A : Option Addr) (n cap : Nat) (hnc : n ≤ cap) (hcap : cap ≤ 9223372036854775807)
    (hcells : ∀ i, i < n → ∃ b off x, A = some ⟨b, off, none⟩ ∧ b < w.heap.size ∧ w.cell? ⟨b, off + i, none⟩ = some (.int .u8 x) ∧ 0 ≤ x ∧ x ≤ 255)
    (hcase : (3000 < S0.size ∧ S = S0.extract 0 3000) ∨ (S0.size ≤ 3000 ∧ S = S0)) (h63 : S0.size ≤ 9223372036854775807) :
    Calls Try.prog 3 #[.int .u8 a0, .string S0, .slice A n cap] w fun e w' => e = .returned (.bool true) ∧ Below w.heap.size w w' := by
  have HC := Lib.hid hcells
  obtain ⟨c, hc⟩ : ∃ c : Nat, (c : Int) = a0 + 1 := ⟨(a0 + 1).toNat, by omega⟩
  have hc1 : 1 ≤ c := by omega
  have hc2 : c ≤ 256 := by omega
  have HN := Lib.hid (fun W => by have := new_ok c W (by omega); rw [hc] at this; exact this)
  clear hcells hc
  have hcase2 : (3000 < S0.size ∧ S0.extract 0 3000 = S) ∨ (S0.size ≤ 3000 ∧ S = S0) := by
    rcases hcase with ⟨h1, h2⟩ | ⟨h1, h2⟩
    · exact .inl ⟨h1, h2.symm⟩
    · exact .inr ⟨h1, h2⟩
  clear hcase
  rcases hcase2 with ⟨hb, hSe⟩ | ⟨hb, rfl⟩
  all_goals
    (go_enter Try.func3, Try.ntmps3
     go_wp2_with fail
     refine (HN.out _).mono ?_
     rintro e w1 ⟨g, gb, rfl, hg, hgb, k1, bb1⟩
     have H1 := Lib.hid (And.intro k1 bb1)
     clear k1 bb1
     go_wp2_with fail
     refine (awake_any _).mono ?_
     rintro e w2 ⟨rfl, bb2⟩
     have H2 := Lib.hid (And.intro (H1.out.1.below bb2) (H1.out.2.trans (bb2.mono H1.out.2.size)))
     clear bb2
     go_wp2_with fail
     go_loopw [10, 11, 12] (fun ov rv iv wr => ∃ (m : Nat) (out rest : ByteArray) (l : List UInt8) (f : Nat), m ≤ out.size ∧ iv = .int .i64 m ∧ ov = .string out ∧ rv = .string rest ∧ out.data.toList ++ l ++ rest.data.toList = S.data.toList ∧ RingAt wr g gb c l f ∧ Below w.heap.size w wr) (fun _ _ i _ => 3001 - (intOf i).toNat)
     case atStart => exact ⟨0, ByteArray.empty, S, [], 0, by omega, rfl, rfl, rfl, rfl, H2.out.1, H2.out.2⟩
     case round =>
       obtain ⟨m, out, rest, l, f, hm, rfl, rfl, rfl, heq, k, rb⟩ := hrel
       have HK := Lib.hid (And.intro k (And.intro rb heq))
       have hlen := congrArg List.length heq
       simp only [List.length_append] at hlen
       rw [← Go.Lib.size_eq, ← Go.Lib.size_eq, ← Go.Lib.size_eq] at hlen
       have hlc := k.len
       have HLN := Lib.hid (len_any g gb c f l wr k)
       have hmS : m ≤ 3000 := by omega
       have hmS' : (m : Int) < 2 * ((S).size : Int) + 2 := by omega
       clear k rb heq
       obtain ⟨n1, hn1⟩ : ∃ n1 : Nat, n1 = min rest.size (c - l.length) := ⟨_, rfl⟩
       have HW := Lib.hid (write_any g gb c f l rest n1 wr HK.out.1 hn1 (by omega))
       have hn2 : n1 ≤ rest.size := by omega
       have hn2' : (n1 : Int) ≤ rest.size := by omega
       have hlt' : (List.take n1 rest.data.toList).length = n1 := by rw [List.length_take, ← Go.Lib.size_eq]; omega
       by_cases hr : rest.size = 0
       · have hre : rest = ByteArray.empty := toList_inj (List.eq_nil_of_length_eq_zero (by rw [← Go.Lib.size_eq]; exact hr))
         by_cases hl0 : l.length = 0
         · have hout : out = S := toList_inj (by
             have h := HK.out.2.2
             rw [hre, List.eq_nil_of_length_eq_zero hl0] at h
             simpa using h)
           subst hre hout
           clear HW hn1 hn2 hn2' hlt' hlen
           go_wp2_with fail
           refine HLN.out.mono ?_
           rintro e w3 ⟨rfl, rfl⟩
           rw [hl0]
           go_wp2_with fail
           go_ret
           exact ⟨rfl, HK.out.2.1⟩
         · have hl1 : (0 : Int) < l.length := by omega
           have hll : 1 ≤ (l ++ rest.data.toList.take n1).length := by rw [List.length_append]; omega
           clear hn1
           subst hre

           go_wp2_with fail
           refine HLN.out.mono ?_
           rintro e w3 ⟨rfl, rfl⟩
           go_wp2_with fail
           refine HW.out.mono ?_
           rintro e w3 ⟨rfl, ⟨f3, k3⟩, o3⟩
           have B3 : Below w.heap.size w w3 := bonly HK.out.2.1 o3 (by simp; omega)
           have H3 := Lib.hid (And.intro k3 B3)
           clear k3 B3 o3
           by_cases hp : m < n
           · obtain ⟨bq, off, x, rfl, hbl, cx, hx0, hx1⟩ := HC.out m hp
             rw [← H3.out.2.cell (p := ⟨bq, off + m, none⟩) hbl] at cx
             obtain ⟨d, hd⟩ : ∃ d : Nat, (d : Int) = max (min (x % 9 + 1) ((l ++ (ByteArray.empty).data.toList.take n1).length : Int)) 0 := ⟨(max (min (x % 9 + 1) ((l ++ (ByteArray.empty).data.toList.take n1).length : Int)) 0).toNat, by omega⟩
             have HRd := Lib.hid (read_any g gb c f3 (l ++ (ByteArray.empty).data.toList.take n1) (x % 9 + 1) d w3 H3.out.1 hd)
             have hd1 : 1 ≤ d := by omega
             have hd2 : d ≤ (l ++ (ByteArray.empty).data.toList.take n1).length := by omega
             have hbs : (⟨((l ++ (ByteArray.empty).data.toList.take n1).take d).toArray⟩ : ByteArray).size = d := by rw [size_mk, List.length_take]; omega
             have hadd : ¬ 9223372036854775807 < out.size + d := by omega
             generalize hB : (⟨((l ++ (ByteArray.empty).data.toList.take n1).take d).toArray⟩ : ByteArray) = B at *
             have HB := Lib.hid hB
             have HI := Lib.hid (And.intro hll (And.intro hd hd2))
             clear hB hd hd2 hll
             go_wp2_with fail
             refine HRd.out.mono ?_
             rintro e w4 ⟨rfl, ⟨f4, k4⟩, o4⟩
             rw [HB.out]
             have B4 : Below w.heap.size w w4 := bonly H3.out.2 o4 (by simp; omega)
             have H4 := Lib.hid (And.intro k4 B4)
             clear k4 B4 o4
             go_wp2_with fail
             go_roundw
             case rel =>
               refine ⟨m + 1, out ++ B, (ByteArray.empty).extract n1 (ByteArray.empty).size, _, f4, by rw [ByteArray.size_append, hbs]; omega, by go_num, rfl, rfl, ?_, H4.out.1, H4.out.2⟩
               rw [← HB.out]
               exact stream_round HK.out.2.2 hn2
             case measure => simp [intOf]; omega
           · obtain ⟨d, hd⟩ : ∃ d : Nat, (d : Int) = max (min 1 ((l ++ (ByteArray.empty).data.toList.take n1).length : Int)) 0 := ⟨(max (min 1 ((l ++ (ByteArray.empty).data.toList.take n1).length : Int)) 0).toNat, by omega⟩
             have HRd := Lib.hid (read_any g gb c f3 (l ++ (ByteArray.empty).data.toList.take n1) 1 d w3 H3.out.1 hd)
             have hd1 : 1 ≤ d := by omega
             have hd2 : d ≤ (l ++ (ByteArray.empty).data.toList.take n1).length := by omega
             have hbs : (⟨((l ++ (ByteArray.empty).data.toList.take n1).take d).toArray⟩ : ByteArray).size = d := by rw [size_mk, List.length_take]; omega
             have hadd : ¬ 9223372036854775807 < out.size + d := by omega
             generalize hB : (⟨((l ++ (ByteArray.empty).data.toList.take n1).take d).toArray⟩ : ByteArray) = B at *
             have HB := Lib.hid hB
             have HI := Lib.hid (And.intro hll (And.intro hd hd2))
             clear hB hd hd2 hll
             go_wp2_with fail
             refine HRd.out.mono ?_
             rintro e w4 ⟨rfl, ⟨f4, k4⟩, o4⟩
             rw [HB.out]
             have B4 : Below w.heap.size w w4 := bonly H3.out.2 o4 (by simp; omega)
             have H4 := Lib.hid (And.intro k4 B4)
             clear k4 B4 o4
             go_wp2_with fail
             go_roundw
             case rel =>
               refine ⟨m + 1, out ++ B, (ByteArray.empty).extract n1 (ByteArray.empty).size, _, f4, by rw [ByteArray.size_append, hbs]; omega, by go_num, rfl, rfl, ?_, H4.out.1, H4.out.2⟩
               rw [← HB.out]
               exact stream_round HK.out.2.2 hn2
             case measure => simp [intOf]; omega
       · have hrp : 0 < rest.size := by omega
         have hll : 1 ≤ (l ++ rest.data.toList.take n1).length := by rw [List.length_append, hlt']; omega
         have eR : (rest.toList == []) = false := by
           rw [ByteArray.toList_eq]
           cases h : rest.data.toList with
           | nil => rw [Go.Lib.size_eq, h] at hrp; simp at hrp
           | cons a b => rfl
         clear hn1
         go_wp2_with fail
         refine HW.out.mono ?_
         rintro e w3 ⟨rfl, ⟨f3, k3⟩, o3⟩
         have B3 : Below w.heap.size w w3 := bonly HK.out.2.1 o3 (by simp; omega)
         have H3 := Lib.hid (And.intro k3 B3)
         clear k3 B3 o3
         by_cases hp : m < n
         · obtain ⟨bq, off, x, rfl, hbl, cx, hx0, hx1⟩ := HC.out m hp
           rw [← H3.out.2.cell (p := ⟨bq, off + m, none⟩) hbl] at cx
           obtain ⟨d, hd⟩ : ∃ d : Nat, (d : Int) = max (min (x % 9 + 1) ((l ++ rest.data.toList.take n1).length : Int)) 0 := ⟨(max (min (x % 9 + 1) ((l ++ rest.data.toList.take n1).length : Int)) 0).toNat, by omega⟩
           have HRd := Lib.hid (read_any g gb c f3 (l ++ rest.data.toList.take n1) (x % 9 + 1) d w3 H3.out.1 hd)
           have hd1 : 1 ≤ d := by omega
           have hd2 : d ≤ (l ++ rest.data.toList.take n1).length := by omega
           have hbs : (⟨((l ++ rest.data.toList.take n1).take d).toArray⟩ : ByteArray).size = d := by rw [size_mk, List.length_take]; omega
           have hadd : ¬ 9223372036854775807 < out.size + d := by omega
           generalize hB : (⟨((l ++ rest.data.toList.take n1).take d).toArray⟩ : ByteArray) = B at *
           have HB := Lib.hid hB
           have HI := Lib.hid (And.intro hll (And.intro hd hd2))
           clear hB hd hd2 hll
           go_wp2_with fail
           refine HRd.out.mono ?_
           rintro e w4 ⟨rfl, ⟨f4, k4⟩, o4⟩
           rw [HB.out]
           have B4 : Below w.heap.size w w4 := bonly H3.out.2 o4 (by simp; omega)
           have H4 := Lib.hid (And.intro k4 B4)
           clear k4 B4 o4
           go_wp2_with fail
           go_roundw
           case rel =>
             refine ⟨m + 1, out ++ B, rest.extract n1 rest.size, _, f4, by rw [ByteArray.size_append, hbs]; omega, by go_num, rfl, rfl, ?_, H4.out.1, H4.out.2⟩
             rw [← HB.out]
             exact stream_round HK.out.2.2 hn2
           case measure => simp [intOf]; omega
         · obtain ⟨d, hd⟩ : ∃ d : Nat, (d : Int) = max (min 1 ((l ++ rest.data.toList.take n1).length : Int)) 0 := ⟨(max (min 1 ((l ++ rest.data.toList.take n1).length : Int)) 0).toNat, by omega⟩
           have HRd := Lib.hid (read_any g gb c f3 (l ++ rest.data.toList.take n1) 1 d w3 H3.out.1 hd)
           have hd1 : 1 ≤ d := by omega
           have hd2 : d ≤ (l ++ rest.data.toList.take n1).length := by omega
           have hbs : (⟨((l ++ rest.data.toList.take n1).take d).toArray⟩ : ByteArray).size = d := by rw [size_mk, List.length_take]; omega
           have hadd : ¬ 9223372036854775807 < out.size + d := by omega
           generalize hB : (⟨((l ++ rest.data.toList.take n1).take d).toArray⟩ : ByteArray) = B at *
           have HB := Lib.hid hB
           have HI := Lib.hid (And.intro hll (And.intro hd hd2))
           clear hB hd hd2 hll
           go_wp2_with fail
           refine HRd.out.mono ?_
           rintro e w4 ⟨rfl, ⟨f4, k4⟩, o4⟩
           rw [HB.out]
           have B4 : Below w.heap.size w w4 := bonly H3.out.2 o4 (by simp; omega)
           have H4 := Lib.hid (And.intro k4 B4)
           clear k4 B4 o4
           go_wp2_with fail
           go_roundw
           case rel =>
             refine ⟨m + 1, out ++ B, rest.extract n1 rest.size, _, f4, by rw [ByteArray.size_append, hbs]; omega, by go_num, rfl, rfl, ?_, H4.out.1, H4.out.2⟩
             rw [← HB.out]
             exact stream_round HK.out.2.2 hn2
           case measure => simp [intOf]; omega)

theorem walk (w : World) (a0 : Int) (w0 : (Lit.int .u8 a0).wf = true) (s : ByteArray) (ws : s.size ≤ maxLen) (v2 : Value) (n : Nat) (C : Nat → List Value) (h2 : RowsAt w v2 n 1 (OneNum .u8) C) :
    Calls Try.prog 3 #[.int .u8 a0, .string s, v2] w fun e w' => e = .returned (.bool true) ∧ Below w.heap.size w w' := by
  obtain ⟨A, cap, rfl, hnc, hcap, hcells⟩ := h2
  obtain ⟨b1, b2⟩ := bounds_u8 w0
  have hcc : ∀ i, i < n → ∃ b off x, A = some ⟨b, off, none⟩ ∧ b < w.heap.size ∧ w.cell? ⟨b, off + i, none⟩ = some (.int .u8 x) ∧ 0 ≤ x ∧ x ≤ 255 := by
    intro i hi
    obtain ⟨⟨x, hx, hw⟩, _, b, off, hA, hb, hcell⟩ := hcells i hi
    obtain ⟨x1, x2⟩ := bounds_u8 hw
    have := hcell 0 _ (by rw [hx]; rfl)
    rw [Nat.mul_one, Nat.add_zero] at this
    exact ⟨b, off, x, hA, hb, this, x1, x2⟩
  have h63 : s.size ≤ 9223372036854775807 := by unfold maxLen at ws; omega
  by_cases hb : 3000 < s.size
  · exact core w a0 b1 b2 (s.extract 0 3000) (by rw [ByteArray.size_extract]; omega) s A n cap hnc hcap hcc (.inl ⟨hb, rfl⟩) h63
  · exact core w a0 b1 b2 s (by omega) s A n cap hnc hcap hcc (.inr ⟨by omega, rfl⟩) h63

theorem own : ownKnob Try.prog.godebug = none := by kernel_rfl

set_option maxRecDepth 100000 in
theorem lifted (os : Os) (started : os.Started) (H : Type) (enc : TypeId × Value → H) :
    ReturnsInHanded {} Try.checked os 3 .any (Rows.ringStreamSpec.pre6 enc Try.prog Try.f3 Rows.ringStreamRow.domain false) (Rows.ringStreamSpec.post enc Try.prog Try.f3 false true false false) := by
  refine returnsInHanded_of_change (C := Try.checked) own started (by kernel_rfl) Try.func3
    (ChangeSpec.witness6 (enc := enc) (C := Try.checked) false ⟨#[], #[.int .u8 0, .string ByteArray.empty, .slice none 0 0], []⟩ 8 (by kernel_rfl) (by kernel_rfl) (by kernel_rfl) (by kernel_rfl)) ?_
  intro W base args ds gs before hval0 hW hcnd _
  have hval : ∀ (j : Nat) t v, Try.f3.params[j]? = some t → args[j]? = some v → Value.okWide Try.prog W .any base t v := hval0
  have hW' := hW
  obtain ⟨p, q, hA0, hV, rfl, hfz, hnd⟩ := hW
  have hA : DataW.TrodAll enc Try.prog W 0 (fun _ => true) true Try.f3.params.toList args.toList ds p := hA0
  rw [Try.params3] at hA hval
  obtain ⟨v0, vs0, d0, ds0, p0, q0, hargs, rfl, rfl, h0, r0⟩ := trodAll_cons hA
  obtain ⟨v1, vs1, d1, ds1, p1, q1, rfl, rfl, rfl, h1, r1⟩ := trodAll_cons r0
  obtain ⟨v2, vs2, d2, ds2, p2, q2, rfl, rfl, rfl, h2, r2⟩ := trodAll_cons r1
  obtain ⟨rfl, rfl, rfl⟩ := trodAll_nil r2
  obtain rfl : args = #[v0, v1, v2] := by cases args; simp_all
  obtain ⟨rfl, rfl⟩ := trodVars_none hV
  have g0 := h0
  have g1 := h1
  have g2 := h2
  obtain ⟨a0, rfl, _, _, w0⟩ := open_int Try.underlying5 (hval 0 5 v0 rfl rfl) h0
  obtain ⟨a1, rfl, _, _, w1⟩ := Go.ChangeMaps.open_string Try.underlying9 (hval 1 9 v1 rfl rfl) h1
  obtain ⟨n2, C2, k2⟩ := open_rows Try.underlying22 (by kernel_rfl) (by decide) (one_of Try.underlying5) (hval 2 22 v2 rfl rfl) h2
  clear hA0 hval0
  have hlt : ∀ x ∈ (p0 ++ (p1 ++ (p2 ++ []))), x.block < W.heap.size := fun x hx => hW'.lt x (by simpa using hx)
  refine (walk W a0 w0 a1 w1 v2 n2 C2 k2).mono fun e W' ⟨he, hb⟩ => ?_
  subst he
  refine ⟨_, rfl, post_of_below (pa := (p0 ++ (p1 ++ (p2 ++ [])))) (pv := []) hW' (fun _ _ _ => (trodAll_cons_mk (shut_bool Try.underlying4 _) trodAll_mk0)) (fun sp hsp => ?_) (fun _ _ => rfl) (by simp) hb (ok_one (by kernel_rfl) rfl (okWide_bool_mk Try.underlying4 _))⟩
  exact trodAll_cons_mk (below_trod sp (by kernel_rfl) (by kernel_rfl) (of_decide_eq_true (by kernel_rfl)) g0 hb (fun x hx => hlt x (by simp [hx])) (fun x hx => hsp x (by simp [hx])))
    (trodAll_cons_mk (below_trod sp (by kernel_rfl) (by kernel_rfl) (of_decide_eq_true (by kernel_rfl)) g1 hb (fun x hx => hlt x (by simp [hx])) (fun x hx => hsp x (by simp [hx])))
    (trodAll_cons_mk (below_trod sp (by kernel_rfl) (by kernel_rfl) (of_decide_eq_true (by kernel_rfl)) g2 hb (fun x hx => hlt x (by simp [hx])) (fun x hx => hsp x (by simp [hx])))
    (trodAll_mk0)))

theorem over : Rows.ringStreamRow.holds Try.pinned (OpenSpec.ofChange Rows.ringStreamSpec) :=
  OpenClaim.holds_of_wide 3 Try.f3 rfl rfl rfl rfl rfl rfl rfl ⟨rfl, rfl, rfl, rfl, rfl⟩ rfl rfl rfl rfl rfl (by kernel_rfl) Try.func3 (by kernel_rfl)
    (of_decide_eq_true (by kernel_rfl)) (by unfold Func.isWrapper; rw [if_neg (by decide +kernel)]; exact ⟨rfl, rfl⟩)
    (fun os started H enc _ => lifted os started H enc)

theorem proved : Rows.RingStreamSaid := over
#print axioms proved
end Go.Proofs.Ytejbpjfigopplaa.RingStream
