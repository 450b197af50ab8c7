/- The walk of the answer's Plus, where the stream is there; Plus whole. -/
import Derived.Test.YteokepnkgdhkkaaRows
import Derived.WalkKit
import Derived.ProofKit
import Derived.Handy
import Derived.Deep.QuietTactic
import Derived.BigQuiet
import Derived.Deep.RegionWith
import Derived.Deep.RegionHeld3
import Derived.Deep.AppendLies
import Derived.WalkLawsBesides
import Derived.WalkSmall
import Derived.Deep.DeepCutAuto
import Derived.Test.YteokepnkgdhkkaaTal4
namespace Go.Proofs.Yteokepnkgdhkkaa
open Go.RowKit
set_option linter.unusedVariables false
def put8 (w : World) (g o : Nat) (x : Sm) : World :=
  (((((((w.setCell ⟨g, o, none⟩ (.int .i64 x.st)).setCell ⟨g, o + 1, none⟩ (.int .i64 x.se)).setCell ⟨g, o + 2, none⟩ (.int .i64 x.ca)).setCell ⟨g, o + 3, none⟩ (.int .i64 x.mo)).setCell ⟨g, o + 4, none⟩ (.bool x.ou)).setCell ⟨g, o + 5, none⟩ (.bool x.inn)).setCell ⟨g, o + 6, none⟩ (.int .i64 x.op)).setCell ⟨g, o + 7, none⟩ (.int .i64 x.dn)
def set8L (xs : List Value) (o : Nat) (x : Sm) : List Value :=
  (((((((xs.set o (.int .i64 x.st)).set (o + 1) (.int .i64 x.se)).set (o + 2) (.int .i64 x.ca)).set (o + 3) (.int .i64 x.mo)).set (o + 4) (.bool x.ou)).set (o + 5) (.bool x.inn)).set (o + 6) (.int .i64 x.op)).set (o + 7) (.int .i64 x.dn)
theorem svs_set (l : List Sm) (k : Nat) (hk : k < l.length) (x : Sm) : set8L (svs l) (k * 8) x = svs (l.set k x) := by
  induction l generalizing k with
  | nil => simp at hk
  | cons y r ih =>
    cases k with
    | zero => simp [set8L, svs_cons, sv]
    | succ k =>
      rw [List.set_cons_succ, svs_cons, svs_cons, ← ih k (by simpa using hk)]
      unfold set8L
      have e : ∀ (j : Nat) (xs : List Value) (u : Value), (sv y ++ xs).set ((k + 1) * 8 + j) u = sv y ++ xs.set (k * 8 + j) u := fun j xs u => by
        rw [List.set_append_right _ _ (by simp [sv]; omega)]
        congr 2
        simp [sv]; omega
      have e0 := fun xs u => e 0 xs u
      simp only [Nat.add_zero] at e0
      rw [e0, e, e, e, e, e, e, e]
theorem own_put8 {w : World} {base g n cap : Nat} {l : List Sm} (h : w.ownsRow base 33 8 (.slice (some ⟨g, 0, none⟩) n cap) n (svs l)) {k : Nat} (hk : k < l.length) (x : Sm) :
    (put8 w g (k * 8) x).ownsRow base 33 8 (.slice (some ⟨g, 0, none⟩) n cap) n (svs (l.set k x)) ∧ w.grownBy (put8 w g (k * 8) x) (some g) := by
  rw [← svs_set l k hk x]
  have h1 := h.stored (k * 8) (.int .i64 x.st)
  have h2 := h1.1.stored (k * 8 + 1) (.int .i64 x.se)
  have h3 := h2.1.stored (k * 8 + 2) (.int .i64 x.ca)
  have h4 := h3.1.stored (k * 8 + 3) (.int .i64 x.mo)
  have h5 := h4.1.stored (k * 8 + 4) (.bool x.ou)
  have h6 := h5.1.stored (k * 8 + 5) (.bool x.inn)
  have h7 := h6.1.stored (k * 8 + 6) (.int .i64 x.op)
  have h8 := h7.1.stored (k * 8 + 7) (.int .i64 x.dn)
  exact ⟨h8.1, ((((((h1.2.trans h2.2).trans h3.2).trans h4.2).trans h5.2).trans h6.2).trans h7.2).trans h8.2⟩
set_option maxRecDepth 20000 in
set_option maxHeartbeats 4000000 in
theorem plus_old (B n c : Nat) (A : Option Addr) (l : List Sm) (x : Sm) (w : World) (h : Sms w B A n c l) (hB : B ≤ w.heap.size) (hnb : n ≤ 5000) (hs : SS l) (hx : x.bd 576460752303423488) (hl : ∀ a ∈ l, a.bd 576460752303423488) (hex : ∃ (k : Nat) (hk : k < l.length), l[k].st = x.st) :
    Calls Try.prog 22 #[.slice A n c, .agg (sa x)] w (SumsAre w (plusL l x)) := by
  obtain ⟨i0, hi0, hz0, hz1, hz2⟩ := info_parts info_S
  have bx := Blk.new w 33 (sa x)
  have B0 : Below w.heap.size w (w.alloc (.cells (sa x) 33)) := (Below.refl _ _).alloc (Nat.le_refl _) _
  have h0 := h.alloc hB (.cells (sa x) 33)
  have HF := Lib.hid (find_any B n c A l x.st _ h0)
  have H0 := Lib.hid (And.intro bx (And.intro B0 h0))
  have hc := h.cap_ge
  have hc2 := h.cap_le
  have HN := Lib.hid h.len
  have HE := Lib.hid hex
  have HP : Hid (∀ (k : Nat) (hk : k < l.length), l[k].st = x.st → plusL l x = l.set k (Sm.add x l[k])) := fun k hk he => plus_on hs hk he
  have HB := Lib.hid (And.intro hx hl)
  clear h bx B0 h0 hex hs hx hl
  obtain ⟨st, a1, a2, a3, p, q, a4, a5⟩ := x
  have l0 : (w.alloc (.cells (sa ⟨st, a1, a2, a3, p, q, a4, a5⟩) 33)).cell? ⟨w.heap.size, 0, none⟩ = some (.int .i64 st) := Blk.cell H0.out.1 0
  go_enter Try.func22, Try.ntmps22
  go_wp2_with fail
  refine HF.out.mono ?_
  rintro e w1 ⟨r, rfl, hr, rfl⟩
  obtain ⟨k, hk, he, rfl, _⟩ : ∃ (k : Nat) (hk : k < l.length), l[k].st = st ∧ r = (k : Int) ∧ True := by
    rcases hr with ⟨k, hk, he, h1, _⟩ | ⟨_, h⟩
    · exact ⟨k, hk, he, h1, trivial⟩
    · obtain ⟨k, hk, he⟩ := HE.out
      exact absurd he (h k hk)
  clear hr HF
  have hWs : w.heap.size < (w.alloc (.cells (sa ⟨st, a1, a2, a3, p, q, a4, a5⟩) 33)).heap.size := by simp
  have hBs : B ≤ (w.alloc (.cells (sa ⟨st, a1, a2, a3, p, q, a4, a5⟩) 33)).heap.size := by simp; omega
  generalize w.alloc (.cells (sa ⟨st, a1, a2, a3, p, q, a4, a5⟩) 33) = W at *
  have HQ := Lib.hid (HP.out k hk he)
  have hkn : (k : Int) < n := by have := HN.out; omega
  have hk0 : (0 : Int) ≤ k := by omega
  have hy := HB.out.2 l[k] (List.getElem_mem hk)
  have hx := HB.out.1
  obtain ⟨b, off, rfl, hb, _⟩ := H0.out.2.2.at_ k hk
  have HC : Hid (∀ w6, Below W.heap.size W w6 → w6.cell? ⟨b, off + k * 8, none⟩ = some (.int .i64 l[k].st) ∧ w6.cell? ⟨b, off + k * 8 + 1, none⟩ = some (.int .i64 l[k].se) ∧ w6.cell? ⟨b, off + k * 8 + 2, none⟩ = some (.int .i64 l[k].ca) ∧ w6.cell? ⟨b, off + k * 8 + 3, none⟩ = some (.int .i64 l[k].mo) ∧
      w6.cell? ⟨b, off + k * 8 + 4, none⟩ = some (.bool l[k].ou) ∧ w6.cell? ⟨b, off + k * 8 + 5, none⟩ = some (.bool l[k].inn) ∧ w6.cell? ⟨b, off + k * 8 + 6, none⟩ = some (.int .i64 l[k].op) ∧ w6.cell? ⟨b, off + k * 8 + 7, none⟩ = some (.int .i64 l[k].dn)) := fun w6 hb6 => by
    obtain ⟨_, _, e, _, c⟩ := (H0.out.2.2.below (hb6.mono hBs)).at_ k hk
    injection e with e
    injection e with e1 e2
    subst e1 e2
    exact c
  have HR : Hid (∀ (w6 : World) (g k6 : Nat), w6.ownsRow W.heap.size 33 8 (.slice (some ⟨g, 0, none⟩) n k6) n (svs l) → (w6.cell? ⟨g, k * 8, none⟩ = some (.int .i64 l[k].st) ∧ w6.cell? ⟨g, k * 8 + 1, none⟩ = some (.int .i64 l[k].se) ∧ w6.cell? ⟨g, k * 8 + 2, none⟩ = some (.int .i64 l[k].ca) ∧ w6.cell? ⟨g, k * 8 + 3, none⟩ = some (.int .i64 l[k].mo) ∧
      w6.cell? ⟨g, k * 8 + 4, none⟩ = some (.bool l[k].ou) ∧ w6.cell? ⟨g, k * 8 + 5, none⟩ = some (.bool l[k].inn) ∧ w6.cell? ⟨g, k * 8 + 6, none⟩ = some (.int .i64 l[k].op) ∧ w6.cell? ⟨g, k * 8 + 7, none⟩ = some (.int .i64 l[k].dn)) ∧ ∀ j, w6.frozen? ⟨g, j, none⟩ = false) := fun w6 g k6 ho => by
    have hh := HN.out
    have e : ∀ j, j < 8 → w6.cell? ⟨g, k * 8 + j, none⟩ = (sv l[k])[j]? := fun j hj => (ho.cellAt (k * 8 + j) (by omega)).trans (svs_at l k hk j hj)
    exact ⟨⟨e 0 (by omega), e 1 (by omega), e 2 (by omega), e 3 (by omega), e 4 (by omega), e 5 (by omega), e 6 (by omega), e 7 (by omega)⟩, ho.frozenAt⟩
  have HO : Hid (∀ (w6 : World) (g k6 : Nat) (X : Sm), w6.ownsRow W.heap.size 33 8 (.slice (some ⟨g, 0, none⟩) n k6) n (svs l) → (put8 w6 g (k * 8) X).ownsRow W.heap.size 33 8 (.slice (some ⟨g, 0, none⟩) n k6) n (svs (l.set k X)) ∧ w6.grownBy (put8 w6 g (k * 8) X) (some g)) := fun w6 g k6 X ho => own_put8 ho hk X
  have hlen : (l.set k (Sm.add ⟨st, a1, a2, a3, p, q, a4, a5⟩ l[k])).length = n := by rw [List.length_set]; exact HN.out
  have HL := Lib.hid hlen
  generalize l[k] = y at *
  obtain ⟨ys, b1, b2, b3, p', q', b4, b5⟩ := y
  simp only at he
  subst he
  unfold Sm.bd at hx hy
  simp only at hx hy
  have w1 : IntKind.i64.wrap (a1 + b1) = a1 + b1 := by rw [IntKind.wrap_i64]; omega
  have w2 : IntKind.i64.wrap (a2 + b2) = a2 + b2 := by rw [IntKind.wrap_i64]; omega
  have w3 : IntKind.i64.wrap (a3 + b3) = a3 + b3 := by rw [IntKind.wrap_i64]; omega
  have w4 : IntKind.i64.wrap (a4 + b4) = a4 + b4 := by rw [IntKind.wrap_i64]; omega
  have w5 : IntKind.i64.wrap (a5 + b5) = a5 + b5 := by rw [IntKind.wrap_i64]; omega
  clear hx hy hlen
  have hws := H0.out.2.1.size
  have hxl := H0.out.1.lt
  clear HP
  go_wp2_with (first
    | (at_builtin
       refine wpList_append_any _ rfl (.tmp 46) (.tmp 47) _ rfl W.heap.size 33 i0 _ 8 56 Try.underlying26 hi0 hz0 hz1 hz2 rfl (by omega) (.slice (some ⟨W.heap.size, 0, none⟩) 0 0) 0 [] rfl (own_empty (Blk.new W 33 #[]) (Nat.le_refl _)) B (some ⟨b, off, none⟩) n c _ rfl (H0.out.2.2.alloc hBs _).reads svs_one (by simp only [maxLen]; omega) (by omega) (by simp) ?_
       intro v1 w6 hn1 hg1 hd1
       obtain ⟨A6, k6, rfl⟩ := slice_of_own' hn1
       rw [Nat.zero_add, List.nil_append] at hn1
       have b1 : Below W.heap.size W w6 := ((Below.refl _ _).alloc (Nat.le_refl _) _).grown hg1 (by simp) (fun k hk => by simp [Value.ownBlock] at hk; omega)
       obtain ⟨g, cap6, hA6, hg6, hgl⟩ := hn1.form (by omega)
       injection hA6 with hA6 _ hcap
       subst hA6 hcap
       have H6 := Lib.hid (And.intro hn1 b1)
       have hs6 := b1.size
       have bx6 := H0.out.1.below b1 hxl
       have x0 := Blk.cell bx6 0
       have x1 := Blk.cell bx6 1
       have x2 := Blk.cell bx6 2
       have x3 := Blk.cell bx6 3
       have x4 := Blk.cell bx6 4
       have x5 := Blk.cell bx6 5
       have x6 := Blk.cell bx6 6
       have x7 := Blk.cell bx6 7
       simp [sa] at x0 x1 x2 x3 x4 x5 x6 x7
       obtain ⟨c0, c1, c2, c3, c4, c5, c6, c7⟩ := HC.out w6 b1
       obtain ⟨⟨r0, r1, r2, r3, r4, r5, r6, r7⟩, hf⟩ := HR.out w6 g _ hn1
       have f0 := hf (k * 8)
       have f1 := hf (k * 8 + 1)
       have f2 := hf (k * 8 + 2)
       have f3 := hf (k * 8 + 3)
       have f4 := hf (k * 8 + 4)
       have f5 := hf (k * 8 + 5)
       have f6 := hf (k * 8 + 6)
       have f7 := hf (k * 8 + 7)
       try simp only at c0 c1 c2 c3 c4 c5 c6 c7 r0 r1 r2 r3 r4 r5 r6 r7
       have hx6 : w.heap.size < w6.heap.size := by omega
       have hbl : b < w6.heap.size := by omega
       clear hn1 hg1 hd1 b1 bx6 hf
       cases p <;> cases q))
  · have hp := HO.out _ g _ (Sm.add ⟨ys, a1, a2, a3, false, false, a4, a5⟩ ⟨ys, b1, b2, b3, p', q', b4, b5⟩) H6.out.1
    have hb1 := (H0.out.2.1.trans (H6.out.2.mono hws)).grown hp.2 (by omega) (fun k hk => by injection hk with hk; omega)
    have hb2 := hb1.alloc hb1.size (.cells #[.int .i64 ys, .int .i64 b1, .int .i64 b2, .int .i64 b3, .bool p', .bool q', .int .i64 b4, .int .i64 b5] 33)
    have hr := hp.1.alloc (.cells #[.int .i64 ys, .int .i64 b1, .int .i64 b2, .int .i64 b3, .bool p', .bool q', .int .i64 b4, .int .i64 b5] 33)
    rw [← HQ.out] at hr
    have he := HL.out
    rw [← HQ.out] at he
    clear HO HR HC H0 HQ HL H6 HB HE HN hp hb1
    generalize plusL l ⟨ys, a1, a2, a3, false, false, a4, a5⟩ = L at *
    go_ret
    refine ⟨some ⟨g, 0, none⟩, _, by rw [he]; rfl, ?_, hb2⟩
    rw [he]
    exact Sms.of_own hr
  · have hp := HO.out _ g _ (Sm.add ⟨ys, a1, a2, a3, false, true, a4, a5⟩ ⟨ys, b1, b2, b3, p', q', b4, b5⟩) H6.out.1
    have hb1 := (H0.out.2.1.trans (H6.out.2.mono hws)).grown hp.2 (by omega) (fun k hk => by injection hk with hk; omega)
    have hb2 := hb1.alloc hb1.size (.cells #[.int .i64 ys, .int .i64 b1, .int .i64 b2, .int .i64 b3, .bool p', .bool q', .int .i64 b4, .int .i64 b5] 33)
    have hr := hp.1.alloc (.cells #[.int .i64 ys, .int .i64 b1, .int .i64 b2, .int .i64 b3, .bool p', .bool q', .int .i64 b4, .int .i64 b5] 33)
    rw [← HQ.out] at hr
    have he := HL.out
    rw [← HQ.out] at he
    clear HO HR HC H0 HQ HL H6 HB HE HN hp hb1
    generalize plusL l ⟨ys, a1, a2, a3, false, true, a4, a5⟩ = L at *
    go_ret
    refine ⟨some ⟨g, 0, none⟩, _, by rw [he]; rfl, ?_, hb2⟩
    rw [he]
    exact Sms.of_own hr
  · have hp := HO.out _ g _ (Sm.add ⟨ys, a1, a2, a3, true, false, a4, a5⟩ ⟨ys, b1, b2, b3, p', q', b4, b5⟩) H6.out.1
    have hb1 := (H0.out.2.1.trans (H6.out.2.mono hws)).grown hp.2 (by omega) (fun k hk => by injection hk with hk; omega)
    have hb2 := hb1.alloc hb1.size (.cells #[.int .i64 ys, .int .i64 b1, .int .i64 b2, .int .i64 b3, .bool p', .bool q', .int .i64 b4, .int .i64 b5] 33)
    have hr := hp.1.alloc (.cells #[.int .i64 ys, .int .i64 b1, .int .i64 b2, .int .i64 b3, .bool p', .bool q', .int .i64 b4, .int .i64 b5] 33)
    rw [← HQ.out] at hr
    have he := HL.out
    rw [← HQ.out] at he
    clear HO HR HC H0 HQ HL H6 HB HE HN hp hb1
    generalize plusL l ⟨ys, a1, a2, a3, true, false, a4, a5⟩ = L at *
    go_ret
    refine ⟨some ⟨g, 0, none⟩, _, by rw [he]; rfl, ?_, hb2⟩
    rw [he]
    exact Sms.of_own hr
  · have hp := HO.out _ g _ (Sm.add ⟨ys, a1, a2, a3, true, true, a4, a5⟩ ⟨ys, b1, b2, b3, p', q', b4, b5⟩) H6.out.1
    have hb1 := (H0.out.2.1.trans (H6.out.2.mono hws)).grown hp.2 (by omega) (fun k hk => by injection hk with hk; omega)
    have hb2 := hb1.alloc hb1.size (.cells #[.int .i64 ys, .int .i64 b1, .int .i64 b2, .int .i64 b3, .bool p', .bool q', .int .i64 b4, .int .i64 b5] 33)
    have hr := hp.1.alloc (.cells #[.int .i64 ys, .int .i64 b1, .int .i64 b2, .int .i64 b3, .bool p', .bool q', .int .i64 b4, .int .i64 b5] 33)
    rw [← HQ.out] at hr
    have he := HL.out
    rw [← HQ.out] at he
    clear HO HR HC H0 HQ HL H6 HB HE HN hp hb1
    generalize plusL l ⟨ys, a1, a2, a3, true, true, a4, a5⟩ = L at *
    go_ret
    refine ⟨some ⟨g, 0, none⟩, _, by rw [he]; rfl, ?_, hb2⟩
    rw [he]
    exact Sms.of_own hr
theorem rplus_any (B n c : Nat) (A : Option Addr) (l : List Sm) (x : Sm) (w : World) (h : Sms w B A n c l) (hB : B ≤ w.heap.size) (hnb : n ≤ 5000) (hs : SS l) (hx : x.bd 576460752303423488) (hl : ∀ a ∈ l, a.bd 576460752303423488) :
    Calls Try.prog 22 #[.slice A n c, .agg (sa x)] w (SumsAre w (plusL l x)) := by
  by_cases hex : ∃ (k : Nat) (hk : k < l.length), l[k].st = x.st
  · exact plus_old B n c A l x w h hB hnb hs hx hl hex
  · exact plus_new B n c A l x w h hB hnb fun j hj he => hex ⟨j, hj, he⟩
end Go.Proofs.Yteokepnkgdhkkaa
