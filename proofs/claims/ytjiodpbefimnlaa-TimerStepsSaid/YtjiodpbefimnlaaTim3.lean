/- The walk of due: who is due at a tick, in order. -/
import Derived.Test.YtjiodpbefimnlaaRows
import Derived.WalkKit
import Derived.ProofKit
import Derived.Handy
import Derived.Test.YtjiodpbefimnlaaTim2
import Derived.Deep.QuietTactic
import Derived.BigQuiet
import Derived.Deep.RegionWith
import Derived.Deep.RegionHeld3
import Derived.Deep.AppendLies
import Derived.WalkLawsBesides
import Derived.WalkSmall
namespace Go.Proofs.Ytjiodpbefimnlaa
open Go.RowKit
set_option linter.unusedVariables false
def IntsAre (w : World) (l : List Int) (e : Ending) (w' : World) : Prop :=
  ∃ A c, e = .returned (.slice A l.length c) ∧ Held w' 3 1 A l.length c (nums l) ∧ Below w.heap.size w w'
theorem due_nil (now : Int) (w : World) : Calls Try.prog 23 #[.pointer none, .int .i64 now] w (IntsAre w []) := by
  go_enter Try.func23, Try.ntmps23
  go_wp2_with fail
  go_ret
  exact ⟨none, 0, rfl, Held.nil_ _ _ _, (Below.refl _ _).alloc (Nat.le_refl _) _⟩
/-- What has been gathered when the entries left are still to come. -/
structure Outs (l : List (Int × Int)) (now : Int) (left : Int → Bool) (a : List Int) : Prop where
  nd : a.Nodup
  mem : ∀ x, x ∈ a ↔ left x = false ∧ ∃ t, getT l x = some t ∧ t ≤ now
  wf : ∀ x ∈ a, (Lit.int .i64 x).wf = true
theorem Outs.start (l : List (Int × Int)) (now : Int) : Outs l now (fun x => ((getT l x).map (Value.int .i64)).isSome) [] :=
  ⟨List.nodup_nil, (fun x => by
    constructor
    · intro h; cases h
    · rintro ⟨h, t, ht, _⟩
      rw [ht] at h
      cases h), (fun x h => by cases h)⟩
theorem Outs.skip {l : List (Int × Int)} {now : Int} {left : Int → Bool} {a : List Int} {x t : Int} (h : Outs l now left a) (hx : left x = true) (ht : getT l x = some t) (hn : ¬ t ≤ now) : Outs l now (fun z => left z && !decide (z = x)) a := by
  obtain ⟨h1, h2, h3⟩ := h
  refine ⟨h1, fun y => ?_, h3⟩
  rw [h2]
  constructor
  · rintro ⟨a1, a2⟩
    exact ⟨by rw [a1]; rfl, a2⟩
  · rintro ⟨a1, t', a2, a3⟩
    by_cases hy : y = x
    · subst hy
      rw [ht] at a2
      injection a2 with a2
      omega
    · exact ⟨by simpa [hy] using a1, t', a2, a3⟩
theorem Outs.take {l : List (Int × Int)} {now : Int} {left : Int → Bool} {a : List Int} {x t : Int} (h : Outs l now left a) (hx : left x = true) (ht : getT l x = some t) (hn : t ≤ now) (hw : (Lit.int .i64 x).wf = true) : Outs l now (fun z => left z && !decide (z = x)) (a ++ [x]) := by
  obtain ⟨h1, h2, h3⟩ := h
  have hxa : x ∉ a := fun hm => by
    have := ((h2 x).1 hm).1
    rw [hx] at this
    cases this
  refine ⟨List.nodup_append.2 ⟨h1, by simp, fun y hy z hz => ?_⟩, fun y => ?_, fun y hy => ?_⟩
  · simp at hz
    subst hz
    exact fun e => hxa (e ▸ hy)
  · rw [List.mem_append, h2, List.mem_singleton]
    constructor
    · rintro (⟨a1, a2⟩ | rfl)
      · exact ⟨by rw [a1]; rfl, a2⟩
      · exact ⟨by simp, t, ht, hn⟩
    · rintro ⟨a1, a2⟩
      by_cases hy : y = x
      · exact .inr hy
      · exact .inl ⟨by simpa [hy] using a1, a2⟩
  · rcases List.mem_append.1 hy with hy | hy
    · exact h3 y hy
    · simp at hy
      subst hy
      exact hw
theorem Outs.perm {l : List (Int × Int)} {now : Int} {left : Int → Bool} {a : List Int} (h : Outs l now left a) (hl : ∀ x, left x = false) (hs : Sd l) : a.Perm (ids (dueT l now)) := by
  obtain ⟨h1, h2, h3⟩ := h
  refine (List.perm_ext_iff_of_nodup h1 ?_).2 fun x => ?_
  · unfold ids List.Nodup
    rw [List.pairwise_map]
    exact (hs.due now).2
  · rw [h2]
    unfold ids
    rw [List.mem_map]
    constructor
    · rintro ⟨_, t, ht, hn⟩
      exact ⟨(x, t), (mem_due hs now _).2 ⟨getT_mem ht, hn⟩, rfl⟩
    · rintro ⟨p, hp, rfl⟩
      have := (mem_due hs now p).1 hp
      exact ⟨hl _, p.2, getT_of_mem hs.2 this.1, this.2⟩
theorem due_sorted {l : List (Int × Int)} (hs : Sd l) (now : Int) : (ids (dueT l now)).Pairwise (fun x y => tmLt (x, (getT l x).getD 0) (y, (getT l y).getD 0)) := by
  unfold ids
  rw [List.pairwise_map]
  have h := (hs.due now).1
  refine List.Pairwise.imp_of_mem (fun {p q} hp hq hpq => ?_) h
  have e1 := getT_of_mem hs.2 (i := p.1) (a := p.2) ((mem_due hs now p).1 hp).1
  have e2 := getT_of_mem hs.2 (i := q.1) (a := q.2) ((mem_due hs now q).1 hq).1
  rw [e1, e2]
  exact hpq
set_option maxHeartbeats 2000000 in
theorem due_any (g b : Nat) (l : List (Int × Int)) (T0 now : Int) (w : World) (k : Whl w g b l T0) :
    Calls Try.prog 23 #[.pointer (some ⟨g, 0, none⟩), .int .i64 now] w (IntsAre w (ids (dueT l now))) := by
  obtain ⟨i0, hi0, hz0, hz1, hz2⟩ := info_parts info_INT
  have bx := Blk.new w 23 #[.pointer (some ⟨g, 0, none⟩)]
  have k1 := k.alloc (.cells #[.pointer (some ⟨g, 0, none⟩)] 23)
  have B1 : Below w.heap.size w (w.alloc (.cells #[.pointer (some ⟨g, 0, none⟩)] 23)) := (Below.refl _ _).alloc (Nat.le_refl _) _
  have H1 := Lib.hid (And.intro bx (And.intro k1 B1))
  have cg0 := Blk.cell k1.blk 0
  simp at cg0
  have hsd := Lib.hid k.sd
  have hkey := Lib.hid k.key
  have hfew := k.few
  clear bx k1 B1 k
  go_enter Try.func23, Try.ntmps23
  go_wp2_with (first
    | (refine wpList_rangeV _ rfl (.tmp 15) _ rfl 3 3 Try.underlying3 Try.underlying52 b l.length _ rfl (by exact H1.out.2.1.map) ?_
       intro wR hR hgR hsR
       try simp only [Act.put, List.setIfInBounds_toArray, List.set_cons_zero, List.set_cons_succ]))
  generalize hW : w.alloc (.cells #[.pointer (some ⟨g, 0, none⟩)] 23) = W at *
  have hWs : W.heap.size = w.heap.size + 1 := by rw [← hW]; simp
  clear hW
  have hgW := H1.out.2.1.lt
  have k2 := H1.out.2.1.same (w' := wR) (hgR.block g H1.out.2.1.lt.1 (by simp)) (hgR.block b H1.out.2.1.lt.2 (by simp))
  have B2 : Below w.heap.size w wR := H1.out.2.2.grown hgR (by omega) (by simp)
  have x2 := H1.out.1.grown hgR (by simp)
  have H2 := Lib.hid (And.intro x2 (And.intro k2 B2))
  clear k2 B2 x2 hgR H1 cg0
  have hgb := H2.out.2.1.lt
  have hgn := H2.out.2.1.ne
  go_loopw [5] (fun s5 wr => ∃ (left : Int → Bool) (lc m c : Nat) (A : Option Addr) (a : List Int), s5 = .slice A m c ∧ a.length = m ∧ m + lc ≤ l.length ∧ wr.ownsRow wR.heap.size 3 1 (.slice A m c) m (nums a) ∧ RangeV Try.prog 3 wr b W.heap.size (fun x => (getT l x).map (Value.int .i64)) l.length left lc ∧ Outs l now left a ∧ Blk wr w.heap.size 23 #[.pointer (some ⟨g, 0, none⟩)] ∧ Whl wr g b l T0 ∧ Below w.heap.size w wr ∧ wR.heap.size ≤ wr.heap.size) (fun _ wr => wr.rangeLeft b W.heap.size)
  case atStart => exact ⟨_, l.length, 0, 0, none, [], rfl, rfl, by omega, own_nil _ _ _ _, hR, Outs.start l now, H2.out.1, H2.out.2.1, H2.out.2.2, Nat.le_refl _⟩
  case round =>
    obtain ⟨left, lc, m, c, A, a, rfl, ha, hml, ho, hR2, hO, x3, k3, B3, hs3⟩ := hrel
    have HR := Lib.hid (And.intro hR2 (And.intro hO (And.intro ho ha)))
    have H3 := Lib.hid (And.intro x3 (And.intro k3 B3))
    clear hR2 hO ho ha x3 k3 B3
    have hBx := H2.out.1.lt
    have hW0 : w.heap.size < W.heap.size := by omega
    go_wp2_with (first
      | (refine wpList_nextV _ (Value.int .i64) rfl (.tmp 16) rfl 3 Try.underlying3 b W.heap.size l.length (getT l) left lc rfl (by exact HR.out.1) (fun hl0 hleft => ?_) (fun x t w4 lc4 hwf hlx hgx hR4 hlt4 hg4 hs4 hent => ?_)
         rotate_left
         have HS4 := Lib.hid hs4
         clear hs4
         rcases Int.lt_or_le now t with hn | hn
         all_goals try simp only [Act.put, List.setIfInBounds_toArray, List.set_cons_zero, List.set_cons_succ])
      | (refine wpList_entryV _ rfl (.tmp 16) rfl rfl (by exact hent) ?_
         try simp only [Act.put, List.setIfInBounds_toArray, List.set_cons_zero, List.set_cons_succ])
      | (at_builtin
         have ho4 : w4.ownsRow wR.heap.size 3 1 (.slice A m c) m (nums a) := own_only HR.out.2.2.1 ((Only.refl [W.heap.size] wr).grown hg4 (fun k hk => .inl (by simp at hk; simp [hk]))) (fun g' hg' => by have := ownBlock_ge HR.out.2.2.1 hg'; simp; omega)
         refine wpList_append_s _ rfl (.tmp 25) (.tmp 27) _ rfl wR.heap.size 3 i0 _ 1 8 Try.underlying34 hi0 hz0 hz1 hz2 rfl (by omega) (.slice A m c) m _ rfl (own_below ho4 ((Below.refl _ _).alloc (Nat.le_refl _) _) (Nat.le_refl _)) ⟨w4.heap.size, 0, none⟩ 1 1 [.int .i64 x] rfl rfl (World.news_of_block (cs := #[.int .i64 x]) (t := 3) (fr := (0, 0)) (heap_alloc_new w4 _)) (by simp [Value.oneCell']) (by simp only [maxLen]; omega) (by omega) (by have := HS4.out; simp; omega) ?_
         intro A5 k5' w5 ho5 hg5
         have H5 := Lib.hid (And.intro ho4 (And.intro ho5 hg5))
         clear ho4 ho5 hg5
         try simp only [Act.put, List.setIfInBounds_toArray, List.set_cons_zero, List.set_cons_succ]))
    · have ho4 : w4.ownsRow wR.heap.size 3 1 (.slice A m c) m (nums a) := own_only HR.out.2.2.1 ((Only.refl [W.heap.size] wr).grown hg4 (fun k hk => .inl (by simp at hk; simp [hk]))) (fun g' hg' => by have := ownBlock_ge HR.out.2.2.1 hg'; simp; omega)
      have b4 : Below w.heap.size wr w4 := (Below.refl _ _).grown hg4 (by omega) (fun k hk => by simp at hk; omega)
      have x4 := H3.out.1.grown hg4 (by simp; omega)
      have k4 := H3.out.2.1.same (w' := w4) (hg4.block g H3.out.2.1.lt.1 (by simp; omega)) (hg4.block b H3.out.2.1.lt.2 (by simp; omega))
      have hlr := hR4.left_eq
      have hlr2 := HR.out.1.left_eq
      have hs4 := HS4.out
      go_roundw
      case rel => exact ⟨_, lc4, m, c, A, a, rfl, HR.out.2.2.2, by omega, ho4, hR4, HR.out.2.1.skip hlx hgx (by omega), x4, k4, H3.out.2.2.trans b4, by omega⟩
      case measure => rw [hlr, hlr2]; exact hlt4
    · have b4 : Below w.heap.size wr w4 := (Below.refl _ _).grown hg4 (by omega) (fun k hk => by simp at hk; omega)
      have x4 := H3.out.1.grown hg4 (by simp; omega)
      have k4 := H3.out.2.1.same (w' := w4) (hg4.block g H3.out.2.1.lt.1 (by simp; omega)) (hg4.block b H3.out.2.1.lt.2 (by simp; omega))
      have hge := fun {k : Nat} (hk : (Value.slice A m c).ownBlock = some k) => ownBlock_ge H5.out.1 hk
      have hs4 := HS4.out
      have hg5 := H5.out.2.2
      have hne : ∀ k, k < wR.heap.size → some k ≠ (Value.slice A m c).ownBlock := fun k hk e => by have := hge e.symm; omega
      have r5 := (hR4.alloc (.cells #[.int .i64 x] 3)).grown hg5 (hne b (by omega)) (hne W.heap.size (by omega))
      have x5 := (x4.alloc (.cells #[.int .i64 x] 3)).grown hg5 (hne _ (by omega))
      have k4' := k4.alloc (.cells #[.int .i64 x] 3)
      have k5 := k4'.same (w' := w5) (hg5.block g k4'.lt.1 (hne g (by omega))) (hg5.block b k4'.lt.2 (hne b (by omega)))
      have b5 : Below w.heap.size w w5 := ((H3.out.2.2.trans b4).alloc (by omega) _).grown hg5 (by simp; omega) (fun k hk => by have := hge hk; omega)
      have hs5 := hg5.size
      rw [World.size_alloc] at hs5
      have hlr := r5.left_eq
      have hlr2 := HR.out.1.left_eq
      go_roundw
      case rel => exact ⟨_, lc4, m + 1, k5', A5, a ++ [x], rfl, by rw [List.length_append, HR.out.2.2.2]; rfl, by omega, by rw [nums_append]; exact H5.out.2.1, r5, HR.out.2.1.take hlx hgx hn hwf, x5, k5, b5, by omega⟩
      case measure => rw [hlr, hlr2]; exact hlt4
    · have hper := HR.out.2.1.perm hleft hsd.out
      have hlen : (ids (dueT l now)).length = m := by rw [← hper.length_eq]; exact HR.out.2.2.2
      have c3 := Blk.cell H3.out.2.1.blk 0
      have cB := Blk.cell H3.out.1 0
      have hcon := sort_any w.heap.size g b l.length wR.heap.size (getT l) wr cB c3 H3.out.2.1.map A m c a (ids (dueT l now)) HR.out.2.2.1 (fun cs h => Blk.ne_ H3.out.1 h (by decide) rfl) (fun cs h => Blk.ne_ H3.out.2.1.blk h (by decide) rfl) HR.out.2.2.2 (by omega) hs3 HR.out.2.1.wf
        (fun x hx => by
          unfold ids at hx
          obtain ⟨p, hp, rfl⟩ := List.mem_map.1 hx
          exact hkey.out p ((mem_due hsd.out now p).1 hp).1) hper (due_sorted hsd.out now)
      have HL := Lib.hid hlen
      clear hlen hper c3 cB
      refine hcon.mono ?_
      rintro e w6 ⟨rfl, hh, bb⟩
      go_wp2_with fail
      go_ret
      exact ⟨A, c, by rw [HL.out]; rfl, by rw [HL.out]; exact hh, H3.out.2.2.trans (bb.mono (by omega))⟩
end Go.Proofs.Ytjiodpbefimnlaa
