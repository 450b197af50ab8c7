/- What was given, what was spent: maps beside a ledger. -/
import Derived.Test.YtpbahmnlhckgbaaCredAw2
import Derived.Test.YtpbahmnlhckgbaaMaps
import Derived.Deep.QuietTactic
import Derived.BigQuiet
import Derived.Deep.RegionWith
import Derived.Deep.RegionHeld3
import Derived.Deep.DeepCutAuto
import Derived.WalkLawsBesides
import Derived.WalkSmall
namespace Go.Proofs.Ytpbahmnlhckgbaa
open Go.RowKit
set_option linter.unusedVariables false
theorem zeroI (w : World) : (zeroValue 3).run Try.prog w = .ok (.int .i64 0) w := by kernel_rfl
def MapI (w : World) (b : Nat) (G : Int → Option Int) (cnt : Nat) : Prop := MapV Try.prog 3 w b (fun k => (G k).map (Value.int .i64)) cnt
theorem MapI.made (w : World) : MapI (w.alloc (.map #[] 0)) w.heap.size (fun _ => none) 0 := MapV.made w Try.prog 3
theorem MapI.look {w : World} {b cnt : Nat} {G : Int → Option Int} (h : MapI w b G cnt) {x : Int} (hw : (Lit.int .i64 x).wf = true) :
    (Instr.lookup 29 (.map (some b)) (.int .i64 x) false).run Try.prog w = .ok (.int .i64 ((G x).getD 0)) w := by
  have e := MapV.look Try.underlying3 Try.underlying29 h (zeroI w) hw
  rw [e]
  cases G x <;> rfl
theorem upd_map {α : Type} (G : Int → Option α) (enc : α → Value) (x : Int) (v : α) (y : Int) : upd (fun k => (G k).map enc) x (some (enc v)) y = (upd G x (some v) y).map enc := by
  unfold upd; split <;> rfl
theorem MapI.of_put {w : World} {b cnt : Nat} {G : Int → Option Int} {x v : Int} (h : MapV Try.prog 3 w b (upd (fun k => (G k).map (Value.int .i64)) x (some (.int .i64 v))) cnt) : MapI w b (upd G x (some v)) cnt :=
  MapV.ext h fun y => upd_map G (Value.int .i64) x v y
def at0 (G : Int → Option Int) (x : Int) : Int := (G x).getD 0
theorem at0_same (G : Int → Option Int) (x v : Int) : at0 (upd G x (some v)) x = v := by unfold at0; rw [upd_same]; rfl
theorem at0_other (G : Int → Option Int) {x y : Int} (v : Int) (h : y ≠ x) : at0 (upd G x (some v)) y = at0 G y := by unfold at0; rw [upd_other G _ h]
/-- Each open stream's window is what was given less what was spent; the connection's too. -/
structure Fair (G S : Int → Option Int) (l : List Ln) (cn sp : Int) : Prop where
  one : ∀ x ∈ l, at0 G x.id = at0 S x.id + x.n ∧ at0 S x.id = x.sp
  all : at0 G 0 = at0 S 0 + cn ∧ at0 S 0 = sp
theorem growC_ok {n b : Int} (h : (growC n b).2 = 0) : (growC n b).1 = n + b ∧ 1 ≤ b ∧ b ≤ 2147483647 := by
  unfold growC at h ⊢
  split at h
  · cases h
  · split at h
    · cases h
    · next h1 h2 => rw [if_neg h1, if_neg h2]; exact ⟨rfl, by omega, by omega⟩
theorem growC_no {n b : Int} (h : (growC n b).2 ≠ 0) : (growC n b).1 = n := by
  unfold growC at h ⊢
  split at h
  · next h1 => rw [if_pos h1]
  · split at h
    · next h1 h2 => rw [if_neg h1, if_pos h2]
    · exact absurd rfl h
theorem Fair.open_ {G S : Int → Option Int} {l : List Ln} {cn sp x n : Int} {i wb : Nat} (h : Fair G S l cn sp) (hno : ∀ (j : Nat) (hj : j < l.length), l[j].id ≠ x) (hx : x ≠ 0) : Fair (upd G x (some n)) (upd S x (some 0)) (ins l i ⟨x, wb, n, 0⟩) cn sp := by
  refine ⟨fun y hy => ?_, ?_⟩
  · rcases mem_ins hy with rfl | hy
    · show at0 (upd G x (some n)) x = at0 (upd S x (some 0)) x + n ∧ at0 (upd S x (some 0)) x = 0
      rw [at0_same, at0_same]
      omega
    · have hne : y.id ≠ x := by
        obtain ⟨j, hj, rfl⟩ := List.mem_iff_getElem.1 hy
        exact hno j hj
      rw [at0_other G n hne, at0_other S 0 hne]
      exact h.one y hy
  · rw [at0_other G n (Ne.symm hx), at0_other S 0 (Ne.symm hx)]
    exact h.all
theorem Fair.sub {G S : Int → Option Int} {l l' : List Ln} {cn sp : Int} (h : Fair G S l cn sp) (hs : ∀ x ∈ l', x ∈ l) : Fair G S l' cn sp := ⟨fun x hx => h.one x (hs x hx), h.all⟩
theorem chg_id_ne {l : List Ln} {i : Nat} {n s : Int} (hs : Srt l) (hi : i < l.length) {y : Ln} (hy : y ∈ chg l i n s) : (y = ⟨l[i].id, l[i].w, n, s⟩) ∨ (y ∈ l ∧ y.id ≠ l[i].id) := by
  obtain ⟨j, hj, rfl⟩ := List.mem_iff_getElem.1 hy
  have hj' : j < l.length := by simpa [chg] using hj
  rw [chg_get j hj hj']
  by_cases hij : i = j
  · subst hij
    rw [if_pos rfl]
    exact .inl rfl
  · rw [if_neg hij]
    exact .inr ⟨List.getElem_mem _, fun e => hij (srt_one hs hi hj' e.symm)⟩
theorem Fair.grow_ {G S : Int → Option Int} {l : List Ln} {cn sp b : Int} {i : Nat} (h : Fair G S l cn sp) (hs : Srt l) (hi : i < l.length) (hx : l[i].id ≠ 0) : Fair (upd G l[i].id (some (at0 G l[i].id + b))) S (chg l i (l[i].n + b) l[i].sp) cn sp := by
  have h0 := h.one l[i] (List.getElem_mem _)
  refine ⟨fun y hy => ?_, ?_⟩
  · rcases chg_id_ne hs hi hy with rfl | ⟨hy, hne⟩
    · show at0 (upd G l[i].id _) l[i].id = at0 S l[i].id + (l[i].n + b) ∧ at0 S l[i].id = l[i].sp
      rw [at0_same]
      omega
    · rw [at0_other G _ hne]
      exact h.one y hy
  · rw [at0_other G _ (Ne.symm hx)]
    exact h.all
theorem Fair.conn_ {G S : Int → Option Int} {l : List Ln} {cn sp b : Int} (h : Fair G S l cn sp) (hl : ∀ x ∈ l, x.id ≠ 0) : Fair (upd G 0 (some (at0 G 0 + b))) S l (cn + b) sp := by
  refine ⟨fun y hy => ?_, ?_⟩
  · rw [at0_other G _ (hl y hy)]
    exact h.one y hy
  · rw [at0_same]
    have := h.all
    omega
theorem chg_noop {l : List Ln} {i : Nat} (hi : i < l.length) : chg l i l[i].n l[i].sp = l := by
  apply List.ext_getElem (by simp [chg])
  intro j h1 h2
  rw [chg_get j h1 h2]
  split
  · next e => subst e; rfl
  · rfl
theorem Fair.spend_ {G S : Int → Option Int} {l : List Ln} {cn sp b : Int} {i : Nat} (h : Fair G S l cn sp) (hs : Srt l) (hi : i < l.length) (hl : ∀ x ∈ l, x.id ≠ 0) :
    Fair G (upd (upd S l[i].id (some (at0 S l[i].id + b))) 0 (some (at0 S 0 + b))) (chg l i (l[i].n - b) (l[i].sp + b)) (cn - b) (sp + b) := by
  have h0 := h.one l[i] (List.getElem_mem _)
  have hx := hl l[i] (List.getElem_mem _)
  refine ⟨fun y hy => ?_, ?_⟩
  · rcases chg_id_ne hs hi hy with rfl | ⟨hy, hne⟩
    · simp only
      rw [at0_other _ _ hx, at0_same]; omega
    · rw [at0_other _ _ (hl y hy), at0_other _ _ hne]
      exact h.one y hy
  · rw [at0_same]
    have := h.all
    omega
def addAll (G : Int → Option Int) (d : Int) (L : List Int) : Int → Option Int := L.foldl (fun G x => upd G x (some (at0 G x + d))) G
theorem addAll_snoc (G : Int → Option Int) (d : Int) (L : List Int) (x : Int) : addAll G d (L ++ [x]) = upd (addAll G d L) x (some (at0 (addAll G d L) x + d)) := by simp [addAll]
theorem addAll_at (d : Int) (y : Int) : ∀ (L : List Int) (G : Int → Option Int), L.Nodup → at0 (addAll G d L) y = at0 G y + (if y ∈ L then d else 0)
  | [], G, _ => by simp [addAll]
  | x :: r, G, h => by
    have hn := List.nodup_cons.1 h
    show at0 (addAll (upd G x (some (at0 G x + d))) d r) y = _
    rw [addAll_at d y r _ hn.2]
    by_cases hyx : y = x
    · subst hyx
      rw [at0_same, if_neg hn.1, if_pos (by simp)]
      omega
    · rw [at0_other G _ hyx]
      by_cases hyr : y ∈ r
      · rw [if_pos hyr, if_pos (by simp [hyr])]
      · rw [if_neg hyr, if_neg (by simp [hyx, hyr])]
theorem Fair.resize_ {G S : Int → Option Int} {l : List Ln} {cn sp d : Int} (h : Fair G S l cn sp) (hs : Srt l) (hl : ∀ x ∈ l, x.id ≠ 0) : Fair (addAll G d (l.map (·.id))) S (rz l d) cn sp := by
  have hnd : (l.map (·.id)).Nodup := by
    rw [List.Nodup, List.pairwise_map]
    exact (srt_iff.1 hs).imp fun hab => by omega
  refine ⟨fun y hy => ?_, ?_⟩
  · obtain ⟨x, hx, rfl⟩ := List.mem_map.1 hy
    have h1 := h.one x hx
    rw [addAll_at d _ _ G hnd, if_pos (List.mem_map.2 ⟨x, hx, rfl⟩)]
    simp only
    omega
  · rw [addAll_at d _ _ G hnd, if_neg (fun hm => by obtain ⟨x, hx, e⟩ := List.mem_map.1 hm; exact hl x hx e)]
    have := h.all
    omega
section
variable {base : Nat} {w w' : World} {g cw cap b cnt : Nat} {cn sp M : Int} {A : Option Addr} {l : List Ln} {G : Int → Option Int}
theorem MapI.still (h : MapI w b G cnt) (s : Still w w') : MapI w' b G cnt := by
  obtain ⟨es, c, hb⟩ := MapV.obj h
  exact MapV.same h ((s b _ hb (fun cs t fr e => by cases e)).trans hb.symm)
theorem MapI.below (h : MapI w b G cnt) (hb : Below w.heap.size w w') : MapI w' b G cnt := MapV.below h hb (MapV.lt h)
theorem Led.off (k : Led base w g cw cn sp A cap l M) (h : MapI w b G cnt) (o : w.grownBy w' (some b)) : Led base w' g cw cn sp A cap l M := by
  have o2 : Only [b] w w' := ⟨o.os, o.tape, o.output, o.size, fun i hi hn => o.block i hi (by simpa using hn)⟩
  have ne : ∀ {c : Nat} {t : TypeId} {cs : Array Value}, Blk w c t cs → c ∉ [b] := fun hx hm => by
    simp at hm
    exact MapV.blk_ne h hx hm
  refine ⟨Blk.only k.blk o2 (ne k.blk), own_only k.own o2 (fun z hz hm => ?_), Blk.only k.con o2 (ne k.con), fun x hx => ⟨Blk.only (k.wins x hx).1 o2 (ne (k.wins x hx).1), (k.wins x hx).2⟩, k.bds, k.dis, k.srt, k.few, k.cnb, k.spb, k.mb, k.bas⟩
  rcases k.own.2 with ⟨hh, _⟩ | ⟨gb, c, cur, hh, _, hc, _⟩
  · rw [hh] at hz; cases hz
  · rw [hh] at hz
    injection hz with hz
    simp only at hz
    subst hz
    exact ne (show Blk w gb _ cur from hc) hm
theorem Led.ids0 (k : Led base w g cw cn sp A cap l M) : ∀ x ∈ l, x.id ≠ 0 := fun x hx => by have := (k.bds x hx).2.2.2.2.1; omega
/-- All that a round of the law finds. -/
structure Nev (base : Nat) (w : World) (g gm sm : Nat) (m : Nat) (cw : Nat) (cn sp : Int) (A : Option Addr) (cap : Nat) (l : List Ln) (G S : Int → Option Int) : Prop where
  led : Led base w g cw cn sp A cap l (m * 2147483647)
  giv : ∃ c, MapI w gm G c ∧ c ≤ 100 * m + 1
  spe : ∃ c, MapI w sm S c ∧ c ≤ 2 * m
  fair : Fair G S l cn sp
  ne : gm ≠ sm
  bas : base ≤ gm ∧ base ≤ sm
theorem Nev.below {gm sm m : Nat} {S : Int → Option Int} (k : Nev base w g gm sm m cw cn sp A cap l G S) (hb : Below w.heap.size w w') : Nev base w' g gm sm m cw cn sp A cap l G S := by
  obtain ⟨c, h1, h2⟩ := k.giv
  obtain ⟨d, h3, h4⟩ := k.spe
  exact ⟨k.led.below hb, ⟨c, h1.below hb, h2⟩, ⟨d, h3.below hb, h4⟩, k.fair, k.ne, k.bas⟩
theorem Nev.up {gm sm m : Nat} {S : Int → Option Int} (k : Nev base w g gm sm m cw cn sp A cap l G S) (hm : m < 100) : Nev base w g gm sm (m + 1) cw cn sp A cap l G S := by
  obtain ⟨c, h1, h2⟩ := k.giv
  obtain ⟨d, h3, h4⟩ := k.spe
  exact ⟨k.led.mono (by omega) (by omega), ⟨c, h1, by omega⟩, ⟨d, h3, by omega⟩, k.fair, k.ne, k.bas⟩
/-- A value is put in one of the two. -/
theorem MapI.write {x v : Int} (h : MapI w b G cnt) (hn : cnt < maxLen) (hw : (Lit.int .i64 x).wf = true) : ∃ w', (Instr.mapUpdate 29 (.map (some b)) (.int .i64 x) (.int .i64 v)).run Try.prog w = .ok () w' ∧ (∃ c, MapI w' b (upd G x (some v)) c ∧ c ≤ cnt + 1) ∧ w.grownBy w' (some b) := by
  obtain ⟨w', h1, h2, h3⟩ := MapV.put Try.underlying3 Try.underlying29 h hn hw (.int .i64 v)
  exact ⟨w', h1, ⟨_, MapI.of_put h2, by split <;> omega⟩, h3⟩
theorem grown_below {row : Nat} (h : w.grownBy w' (some row)) {B : Nat} (hB : B ≤ row) (hw : B ≤ w.heap.size) : Below B w w' := ⟨h.os, h.tape, h.output, h.size, fun i hi => h.block i (by omega) (by simp; omega)⟩
end
end Go.Proofs.Ytpbahmnlhckgbaa
