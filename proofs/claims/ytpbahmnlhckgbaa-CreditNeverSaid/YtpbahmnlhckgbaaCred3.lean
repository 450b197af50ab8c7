/- The walks of package credit: what a change leaves; what only reads. -/
import Derived.Test.YtpbahmnlhckgbaaCred2
import Derived.Test.YtpbahmnlhckgbaaInts
import Derived.Deep.QuietTactic
import Derived.BigQuiet
import Derived.Deep.RegionWith
import Derived.Deep.RegionHeld3
import Derived.WalkLawsBesides
import Derived.WalkSmall
namespace Go.Proofs.Ytpbahmnlhckgbaa
open Go.RowKit
set_option linter.unusedVariables false
/-- Blocks that are none of a ledger's stand as they were. -/
def Still (w w' : World) : Prop := ∀ (b : Nat) (o : Obj), w.heap[b]? = some o → (∀ cs t fr, o = .cells cs t fr → t ≠ 54 ∧ t ≠ 60 ∧ t ≠ 71) → w'.heap[b]? = some o
theorem Still.of_below {w w' : World} (b : Below w.heap.size w w') : Still w w' := fun x o h _ => (b.block x (Array.getElem?_eq_some_iff.1 h).1).trans h
theorem Still.trans {a b c : World} (h : Still a b) (k : Still b c) : Still a c := fun x o hx ho => k x o (h x o hx ho) ho
theorem Still.of_only {S : List Nat} {w w' : World} (h : Only S w w') (hS : ∀ i ∈ S, i < w.heap.size → ∃ cs t fr, w.heap[i]? = some (.cells cs t fr) ∧ (t = 54 ∨ t = 60 ∨ t = 71)) : Still w w' := fun x o hx ho => by
  have hlt := (Array.getElem?_eq_some_iff.1 hx).1
  refine (h.block x hlt (fun hm => ?_)).trans hx
  obtain ⟨cs, t, fr, h1, h2⟩ := hS x hm hlt
  rw [hx] at h1
  injection h1 with h1
  obtain ⟨h3, h4, h5⟩ := ho _ _ _ h1
  rcases h2 with h2 | h2 | h2
  · exact h3 h2
  · exact h4 h2
  · exact h5 h2
theorem Still.blk {w w' : World} {b : Nat} {t : TypeId} {cs : Array Value} (h : Still w w') (hb : Blk w b t cs) (h1 : t ≠ 54) (h2 : t ≠ 60) (h3 : t ≠ 71) : Blk w' b t cs :=
  h b _ hb (fun cs' t' fr' e => by injection e with _ e _; subst e; exact ⟨h1, h2, h3⟩)
theorem Still.held {w w' : World} {e : TypeId} {sz n c : Nat} {A : Option Addr} {xs : List Value} (h : Still w w') (hh : Held w e sz A n c xs) (h1 : e ≠ 54) (h2 : e ≠ 60) (h3 : e ≠ 71) : Held w' e sz A n c xs :=
  hh.keep fun b cur hc => (h b _ hc (fun cs' t' fr' e => by injection e with _ e _; subst e; exact ⟨h1, h2, h3⟩)).trans hc.symm
theorem Still.setCell {w w' : World} {b o : Nat} {u : Value} {t : TypeId} {cs : Array Value} (h : Still w w') (hb : Blk w' b t cs) (ht : t = 54 ∨ t = 60 ∨ t = 71) : Still w (w'.setCell ⟨b, o, none⟩ u) :=
  h.trans (Still.of_only (S := [b]) ((Only.refl [b] w').setCell (.inl (by simp)) u) (fun i hi hlt => by simp at hi; subst hi; exact ⟨_, _, _, hb, ht⟩))

/-- Element i with another n, another sum. -/
def chg (l : List Ln) (i : Nat) (n s : Int) : List Ln := l.modify i fun x => ⟨x.id, x.w, n, s⟩
section
variable {l : List Ln} {i : Nat} {n s : Int}
theorem chg_length : (chg l i n s).length = l.length := by simp [chg]
theorem chg_get (j : Nat) (hj : j < (chg l i n s).length) (hj' : j < l.length) : (chg l i n s)[j] = if i = j then ⟨l[j].id, l[j].w, n, s⟩ else l[j] := by
  simp only [chg, List.getElem_modify]
theorem chg_w : (chg l i n s).map (·.w) = l.map (·.w) := by
  apply List.ext_getElem (by simp [chg])
  intro j h1 h2
  simp only [List.getElem_map]
  rw [chg_get j (by simpa using h1) (by simpa using h2)]
  split <;> rfl
theorem chg_id : (chg l i n s).map (·.id) = l.map (·.id) := by
  apply List.ext_getElem (by simp [chg])
  intro j h1 h2
  simp only [List.getElem_map]
  rw [chg_get j (by simpa using h1) (by simpa using h2)]
  split <;> rfl
theorem chg_srt (h : Srt l) : Srt (chg l i n s) := by
  intro a b ha hb hab
  have ha' : a < l.length := by simpa [chg] using ha
  have hb' : b < l.length := by simpa [chg] using hb
  rw [chg_get a ha ha', chg_get b hb hb']
  have := h a b ha' hb' hab
  split <;> split <;> exact this
theorem chg_chg (n' s' : Int) : chg (chg l i n s) i n' s' = chg l i n' s' := by
  apply List.ext_getElem (by simp [chg])
  intro j h1 h2
  have hj : j < l.length := by simpa [chg] using h2
  rw [chg_get j h1 (by rw [chg_length]; exact hj), chg_get j h2 hj, chg_get j _ hj]
  split <;> rfl
theorem mem_chg {x : Ln} (h : x ∈ chg l i n s) : x ∈ l ∨ ∃ hi : i < l.length, x = ⟨l[i].id, l[i].w, n, s⟩ := by
  obtain ⟨j, hj, rfl⟩ := List.mem_iff_getElem.1 h
  have hj' : j < l.length := by simpa [chg] using hj
  rw [chg_get j hj hj']
  split
  · next e => subst e; exact .inr ⟨hj', rfl⟩
  · exact .inl (List.getElem_mem _)
theorem chg_self (hi : i < l.length) : (chg l i n s)[i]'(by rw [chg_length]; exact hi) = ⟨l[i].id, l[i].w, n, s⟩ := by
  rw [chg_get i _ hi, if_pos rfl]
theorem prl_chg : ∀ (l : List Ln) (i : Nat), i < l.length → prl (chg l i n s) = (prl l).set (i * 3 + 2) (.int .i64 s)
  | [], i, h => absurd h (by simp)
  | x :: r, 0, _ => rfl
  | x :: r, i + 1, h => by
    have ih := prl_chg r i (by simpa using h)
    have e : (i + 1) * 3 + 2 = (i * 3 + 2) + 3 := by omega
    rw [e]
    show cell3 x ++ prl (chg r i n s) = (cell3 x ++ prl r).set _ _
    rw [ih]
    rfl
theorem prl_chg_n : ∀ (l : List Ln) (i : Nat) (h : i < l.length), prl (chg l i n l[i].sp) = prl l
  | [], i, h => absurd h (by simp)
  | x :: r, 0, _ => rfl
  | x :: r, i + 1, h => by
    have ih := prl_chg_n r i (by simpa using h)
    show cell3 x ++ prl (chg r i n (r[i]'(by simpa using h)).sp) = cell3 x ++ prl r
    rw [ih]
end
section
variable {base : Nat} {w w' : World} {g cw cap : Nat} {cn sp M : Int} {A : Option Addr} {l : List Ln}
theorem win_ne {a : Nat} {n : Int} {t : TypeId} {cs : Array Value} {b : Nat} (h : Win w a n) (k : Blk w b t cs) (ht : t ≠ 71) : b ≠ a := by
  rintro rfl
  unfold Win Blk at h
  unfold Blk at k
  rw [h] at k
  injection k with k
  injection k with _ k
  exact ht k.symm
theorem Led.mono (k : Led base w g cw cn sp A cap l M) {M' : Int} (h : M ≤ M') (h2 : M' ≤ 1000000000000000000) : Led base w g cw cn sp A cap l M' :=
  ⟨k.blk, k.own, k.con, k.wins, fun x hx => by have := k.bds x hx; omega, k.dis, k.srt, k.few, k.cnb, by have := k.spb; omega, h2, k.bas⟩
theorem nodup_ne {l : List Ln} (h : (l.map (·.w)).Nodup) {i j : Nat} (hi : i < l.length) (hj : j < l.length) (hij : i ≠ j) : l[i].w ≠ l[j].w := by
  have h2 := List.pairwise_iff_getElem.1 h
  intro e
  rcases Nat.lt_or_ge i j with hlt | hge
  · exact h2 i j (by simpa using hi) (by simpa using hj) hlt (by simpa using e)
  · exact h2 j i (by simpa using hj) (by simpa using hi) (by omega) (by simpa using e.symm)
/-- A stream's window is another one. -/
theorem Led.win_set (k : Led base w g cw cn sp A cap l M) {i : Nat} (hi : i < l.length) {n : Int} (hw : Win w' l[i].w n) (o : Only [l[i].w] w w') (h1 : -2147483647 ≤ n) (h2 : n ≤ 2147483647) : Led base w' g cw cn sp A cap (chg l i n l[i].sp) M := by
  have hx := k.wins l[i] (List.getElem_mem _)
  have hb := k.bds l[i] (List.getElem_mem _)
  refine ⟨?_, ?_, ?_, fun x hm => ?_, fun x hm => ?_, by rw [chg_w]; exact k.dis, chg_srt k.srt, by rw [chg_length]; exact k.few, k.cnb, k.spb, k.mb, k.bas⟩
  · rw [chg_length]
    exact Blk.only k.blk o (by simpa using win_ne hx.1 k.blk (by decide))
  · rw [chg_length, prl_chg_n l i hi]
    exact own_only k.own o (fun z hz => by simp; rintro rfl; exact own_blk_ne k.own hx.1 (by decide) hz)
  · exact Blk.only k.con o (by simpa using fun e => hx.2.2 e.symm)
  · obtain ⟨j, hj, rfl⟩ := List.mem_iff_getElem.1 hm
    have hj' : j < l.length := by simpa [chg] using hj
    rw [chg_get j hj hj']
    split
    · next e => subst e; exact ⟨hw, hx.2⟩
    · next e =>
      have hy := k.wins l[j] (List.getElem_mem _)
      exact ⟨Blk.only hy.1 o (by simpa using nodup_ne k.dis hj' hi (fun h => e h.symm)), hy.2⟩
  · rcases mem_chg hm with hm | ⟨_, rfl⟩
    · exact k.bds x hm
    · exact ⟨h1, h2, hb.2.2⟩
theorem Led.con_set (k : Led base w g cw cn sp A cap l M) {n : Int} (hw : Win w' cw n) (o : Only [cw] w w') (h1 : -2147483647 ≤ n) (h2 : n ≤ 2147483647) : Led base w' g cw n sp A cap l M :=
  ⟨Blk.only k.blk o (by simpa using win_ne k.con k.blk (by decide)), own_only k.own o (fun z hz => by simp; rintro rfl; exact own_blk_ne k.own k.con (by decide) hz), hw,
    fun x hx => ⟨Blk.only (k.wins x hx).1 o (by simpa using (k.wins x hx).2.2), (k.wins x hx).2⟩, k.bds, k.dis, k.srt, k.few, ⟨h1, h2⟩, k.spb, k.mb, k.bas⟩
theorem Led.row (k : Led base w g cw cn sp A cap l M) {gb : Nat} (hA : A = some ⟨gb, 0, none⟩) : ∃ cur, w.heap[gb]? = some (.cells cur 60 (0, 0)) := by
  rcases k.own.2 with ⟨hh, _⟩ | ⟨gb', c, cur, hh, _, hc, _⟩
  · rw [hA] at hh; cases hh
  · rw [hA] at hh
    injection hh with hh
    injection hh with hh
    injection hh with hh
    subst hh
    exact ⟨cur, hc⟩
theorem Led.sp_set (k : Led base w g cw cn sp A cap l M) {i gb : Nat} (hi : i < l.length) (hA : A = some ⟨gb, 0, none⟩) {s M' : Int} (h0 : 0 ≤ s) (h1 : s ≤ M') (hM : M ≤ M') (hM' : M' ≤ 1000000000000000000) : Led base (w.setCell ⟨gb, i * 3 + 2, none⟩ (.int .i64 s)) g cw cn sp A cap (chg l i l[i].n s) M' := by
  have hb := k.bds l[i] (List.getElem_mem _)
  have hx := k.wins l[i] (List.getElem_mem _)
  obtain ⟨cur, hc⟩ := k.row hA
  have ne : ∀ {b : Nat} {t : TypeId} {cs : Array Value}, Blk w b t cs → t ≠ 60 → b ≠ gb := by
    rintro b t cs h ht rfl
    unfold Blk at h
    rw [hc] at h
    injection h with h
    injection h with _ h
    exact ht h.symm
  refine ⟨?_, ?_, k.con.far (p := ⟨gb, _, none⟩) (ne k.con (by decide)) _, fun x hm => ?_, fun x hm => ?_, by rw [chg_w]; exact k.dis, chg_srt k.srt, by rw [chg_length]; exact k.few, k.cnb, by have := k.spb; omega, hM', k.bas⟩
  · rw [chg_length]
    exact k.blk.far (p := ⟨gb, _, none⟩) (ne k.blk (by decide)) _
  · rw [chg_length, prl_chg l i hi]
    have ho := k.own
    subst hA
    exact (ho.stored (i * 3 + 2) (.int .i64 s)).1
  · rcases mem_chg hm with hm | ⟨_, rfl⟩
    · exact ⟨(k.wins x hm).1.far (p := ⟨gb, _, none⟩) (ne (k.wins x hm).1 (by decide)) _, (k.wins x hm).2⟩
    · exact ⟨hx.1.far (p := ⟨gb, _, none⟩) (ne hx.1 (by decide)) _, hx.2⟩
  · rcases mem_chg hm with hm | ⟨_, rfl⟩
    · have := k.bds x hm; omega
    · exact ⟨hb.1, hb.2.1, h0, h1, hb.2.2.2.2⟩
theorem Led.spent_set (k : Led base w g cw cn sp A cap l M) {s M' : Int} (h0 : 0 ≤ s) (h1 : s ≤ M') (hM : M ≤ M') (hM' : M' ≤ 1000000000000000000) : Led base (w.setCell ⟨g, 1, none⟩ (.int .i64 s)) g cw cn s A cap l M' := by
  have ne : ∀ {a : Nat} {n : Int}, Win w a n → a ≠ g := fun h => (win_ne h k.blk (by decide)).symm
  refine ⟨?_, own_only k.own ((Only.refl [g] w).setCell (.inl (by simp)) _) (fun z hz => by simp; rintro rfl; exact k.ne hz), k.con.far (p := ⟨g, 1, none⟩) (ne k.con) _, fun x hx => ⟨(k.wins x hx).1.far (p := ⟨g, 1, none⟩) (ne (k.wins x hx).1) _, (k.wins x hx).2⟩, fun x hx => by have := k.bds x hx; omega, k.dis, k.srt, k.few, k.cnb, ⟨h0, h1⟩, hM', k.bas⟩
  have e := Blk.set_ k.blk 1 (.int .i64 s)
  simpa using e
end
end Go.Proofs.Ytpbahmnlhckgbaa
