/- The walks of tally's Add, All, Find. -/
import Derived.Test.YteokepnkgdhkkaaRows
import Derived.WalkKit
import Derived.ProofKit
import Derived.Handy
import Derived.Deep.QuietTactic
import Derived.BigQuiet
import Derived.Deep.RegionWith
import Derived.Deep.RegionHeld3
import Derived.Deep.AppendLies
import Derived.WalkLawsBesides
import Derived.WalkSmall
import Derived.Deep.Cut
import Derived.Test.YteokepnkgdhkkaaTal10
namespace Go.Proofs.Yteokepnkgdhkkaa
open Go.RowKit
set_option linter.unusedVariables false
section
variable {P : Program} (w : World)
theorem run_append_empty (t ty e : TypeId) (i : TypeInfo) (ht : P.underlying t = some (.slice e)) (hi : P.info? e = some i) (A : Option Addr) (n c : Nat) (hn : n ≤ c) (hA : A = none → n = 0 ∧ c = 0) (A' : Option Addr) (c' : Nat) :
    (Builtin.append_ #[t, t] ty #[.slice A n c, .slice A' 0 c']).run P w = .ok (.slice A n c) w := by
  cases A with
  | none =>
    obtain ⟨rfl, rfl⟩ := hA rfl
    cases A' <;> simp [Builtin.append_, run_underlying ht, sizeOf, typeInfo, hi, Builtin.lenOf, Builtin.firstCells, loadCells, loadCellsFrom]
  | some a => cases A' <;> simp [Builtin.append_, run_underlying ht, sizeOf, typeInfo, hi, Builtin.lenOf, Builtin.firstCells, loadCells, loadCellsFrom, storeCells, hn]
theorem wpList_append_empty {ops : Array Oper} {rest : List Oper} {o : Oper} {a : Act} {Q : Exit → Act → World → Prop} (hgd : o.guard = none) (s x : Operand) (t : TypeId)
    (ho : o.op = .call { callee := .builtin .append, args := #[s, x], argTypes := #[t, t] })
    (e : TypeId) (i : TypeInfo) (ht : P.underlying t = some (.slice e)) (hi : P.info? e = some i) (A : Option Addr) (n c : Nat) (hn : n ≤ c) (hA : A = none → n = 0 ∧ c = 0) (A' : Option Addr) (c' : Nat)
    (hs : a.eval s = .slice A n c) (hx : a.eval x = .slice A' 0 c') (h : wpList P ops Q rest (a.put o.dst (.slice A n c)) w) : wpList P ops Q (o :: rest) a w :=
  wpList_plain hgd fun K hK => by
    have hr := run_append_empty (P := P) w t o.type e i ht hi A n c hn hA A' c'
    unfold Oper.wp execOp
    simp only [ho, resolve, invoke, builtin, Sem.run_bind, Sem.run_pure, Result.andThen_ok, List.map_toArray, List.map_cons, List.map_nil, hs, hx, hr]
    exact hK _ _ h
end
theorem ret_cell8_tmp {P : Program} {fn : Func} {R : Ending → World → Prop} {a : Act} {W : World} {p u : Tmp} {ty t : TypeId} {g : Nat} {x : Sm} (h : fn.results = #[.cell p ty, .tmp u]) (hd : a.defers = [])
    (hp : a.tmps.getD p undef = .pointer (some ⟨g, 0, none⟩)) (hB : Blk W g t (sa x))
    (hl : ∀ W' : World, Blk W' g t (sa x) → (loadVar ty ⟨g, 0, none⟩).run P W' = .ok (.agg (sa x)) W')
    (hR : R (.returned (.tuple #[.agg (sa x), a.tmps.getD u undef])) W) : bodyPost P fn R .ret a W := by
  refine bodyPost_ret (v := .tuple #[.agg (sa x), a.tmps.getD u undef]) ?_ hd hR
  rw [results_cell_tmp h, hp]
  show ((loadVar ty ⟨g, 0, none⟩).run P W).andThen _ = _
  rw [hl W hB]
  rfl
set_option maxHeartbeats 2000000 in
theorem add_sums (B n c B' n' c' : Nat) (A A' : Option Addr) (l l' : List Sm) (w : World) (h : Sms w B A n c l) (hB : B ≤ w.heap.size) (h' : Sms w B' A' n' c' l') (hB' : B' ≤ w.heap.size) (hnb : n ≤ 2000) (hnb' : n' ≤ 2000) (K : Int) (hK0 : 0 ≤ K) (hK : ((n + n' : Nat) : Int) * K ≤ 576460752303423488) (hb : ∀ a ∈ l, a.bd K) (hb' : ∀ a ∈ l', a.bd K) (hk : ∀ a ∈ l, (Lit.int .i64 a.st).wf = true) (hk' : ∀ a ∈ l', (Lit.int .i64 a.st).wf = true) :
    Calls Try.prog 16 #[.slice A n c, .slice A' n' c'] w (SumsAre w (gatherL (l ++ l'))) := by
  obtain ⟨i0, hi0, hz0, hz1, hz2⟩ := info_parts info_S
  have hc := h.cap_ge
  have hc2 := h.cap_le
  have hH : ∀ W : World, Below w.heap.size w W → ∀ (A2 : Option Addr) (d : Nat), Sms W W.heap.size A2 (n + n') d (l ++ l') → Calls Try.prog 21 #[.slice A2 (n + n') d] W (SumsAre W (gatherL (l ++ l'))) := fun W hW A2 d hs =>
    gather_any W.heap.size (n + n') d A2 (l ++ l') W hs (Nat.le_refl _) (by omega) K hK0 hK (fun a ha => by
      rcases List.mem_append.1 ha with ha | ha
      · exact hb a ha
      · exact hb' a ha) (fun a ha => by
      rcases List.mem_append.1 ha with ha | ha
      · exact hk a ha
      · exact hk' a ha)
  have HG := Lib.hid hH
  have HK := Lib.hid h
  have HK' := Lib.hid h'
  rcases Nat.eq_zero_or_pos n' with h0 | h0
  · subst h0
    have e0 : l' = [] := List.eq_nil_of_length_eq_zero h'.len
    subst e0
    by_cases hA : A = none
    · subst hA
      have hn0 : n = 0 := by
        rcases Nat.eq_zero_or_pos n with h | h1
        · exact h
        · obtain ⟨ad, e, _⟩ := h.reads.2 h1
          cases e
      subst hn0
      have e1 : l = [] := List.eq_nil_of_length_eq_zero h.len
      subst e1
      clear h h' hb hb' hk hk' hK0 hK hH
      go_enter Try.func16, Try.ntmps16
      go_wp2_with (first
        | (at_builtin
           refine wpList_append_empty _ rfl (.tmp 10) (.tmp 11) _ rfl 33 i0 Try.underlying26 hi0 none 0 0 (by omega) (fun _ => ⟨rfl, rfl⟩) A' c' rfl rfl ?_))
      refine (HG.out w (Below.refl _ _) none 0 (Sms.nil_ _ _)).mono ?_
      rintro e w2 ⟨A2, c2, rfl, h2⟩
      have H2 := Lib.hid h2
      clear h2
      go_wp2_with fail
      go_ret
      exact ⟨A2, c2, rfl, H2.out⟩
    · obtain ⟨ad, rfl⟩ : ∃ ad, A = some ad := by
        cases A with
        | none => exact absurd rfl hA
        | some ad => exact ⟨ad, rfl⟩
      have hs : Sms w w.heap.size (some ad) (n + 0) n (l ++ []) := by
        have := (h.cut (Nat.le_refl n) (Nat.le_refl n) (by omega)).more hB
        rw [List.take_of_length_le (by rw [h.len]; exact Nat.le_refl _)] at this
        simpa using this
      have hg := HG.out w (Below.refl _ _) (some ad) n hs
      rw [List.append_nil] at hg ⊢
      have HS := Lib.hid hg
      clear h h' hb hb' hk hk' hK0 hK hH hs hg
      go_enter Try.func16, Try.ntmps16
      go_wp2_with (first
        | (at_builtin
           refine wpList_append_empty _ rfl (.tmp 10) (.tmp 11) _ rfl 33 i0 Try.underlying26 hi0 (some ad) n n (by omega) (fun h => (by cases h)) A' c' rfl rfl ?_))
      refine HS.out.mono ?_
      rintro e w2 ⟨A2, c2, rfl, h2⟩
      have H2 := Lib.hid h2
      clear h2
      go_wp2_with fail
      go_ret
      exact ⟨A2, c2, rfl, H2.out⟩
  · have hA0 : A = none → n = 0 ∧ n = 0 := fun e => by
      rcases Nat.eq_zero_or_pos n with h1 | h1
      · exact ⟨h1, h1⟩
      · obtain ⟨ad, e1, _⟩ := h.reads.2 h1
        rw [e] at e1
        cases e1
    obtain ⟨ad', rfl, hb1, hcell'⟩ := h'.reads.2 h0
    have hcell : ∀ b, A = some b → ∀ j u, (svs l)[j]? = some u → w.cell? (b.add j) = some u := fun b e j u hu => by
      have hn : 0 < n := by
        rcases Nat.eq_zero_or_pos n with h1 | h1
        · have : l = [] := List.eq_nil_of_length_eq_zero (by rw [h.len, h1])
          subst this
          simp [svs] at hu
        · exact h1
      obtain ⟨ad, e1, _, hc1⟩ := h.reads.2 hn
      rw [e] at e1
      injection e1 with e1
      subst e1
      exact hc1 j u hu
    have HC := Lib.hid (And.intro hA0 (And.intro hcell' (And.intro hcell (And.intro (by rw [svs_length, h.len] : (svs l).length = n * 8) (by rw [svs_length, h'.len] : (svs l').length = n' * 8)))))
    clear h h' hb hb' hk hk' hK0 hK hH hA0 hcell hcell'
    go_enter Try.func16, Try.ntmps16
    go_wp2_with (first
      | (at_builtin
         refine wpList_append_fresh _ rfl (.tmp 10) (.tmp 11) _ rfl 33 i0 _ 8 56 Try.underlying26 hi0 hz0 hz1 hz2 rfl (by omega) A n n (svs l) rfl HC.out.2.2.2.1 HC.out.1 HC.out.2.2.1 ad' n' c' (svs l') rfl HC.out.2.2.2.2 HC.out.2.1 (by omega) h0 (by simp only [maxLen]; omega) (by omega) ?_
         intro k1 w1 ho1 hg1
         have b1 : Below w.heap.size w w1 := (Below.refl _ _).grown hg1 (Nat.le_refl _) (fun k hk => by cases hk)
         rw [← svs_append] at ho1
         have HS := Lib.hid (HG.out w1 b1 _ k1 (Sms.of_own ho1))
         have HB := Lib.hid b1
         clear ho1 hg1 b1))
    refine HS.out.mono ?_
    rintro e w2 ⟨A2, c2, rfl, h2, b2⟩
    have H2 : Hid (Sms w2 w2.heap.size A2 (gatherL (l ++ l')).length c2 (gatherL (l ++ l')) ∧ Below w.heap.size w w2) := ⟨h2, HB.out.trans (b2.mono HB.out.size)⟩
    clear h2 b2
    go_wp2_with fail
    go_ret
    exact ⟨A2, c2, rfl, H2.out⟩
end Go.Proofs.Yteokepnkgdhkkaa
