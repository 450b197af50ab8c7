/- The walk of awake, chapter 17. -/
import Derived.Test.YtdegdikkjaifiaaRows
import Derived.WalkKit
import Derived.ProofKit
import Derived.Handy
import Derived.Test.YtdegdikkjaifiaaMem
import Derived.Test.YtdegdikkjaifiaaLift
import Derived.Test.YtdegdikkjaifiaaApp
import Derived.Test.YtdegdikkjaifiaaParams2
import Derived.Test.YtdegdikkjaifiaaShake
import Derived.Test.YtdegdikkjaifiaaOrd
import Derived.Test.YtdegdikkjaifiaaShake2
import Derived.Deep.QuietTactic
import Derived.BigQuiet
import Derived.Deep.RegionWith
import Derived.Deep.RegionHeld3
import Derived.Deep.RegionLaw
import Derived.StillTailTactics
import Derived.Deep.AppendLies
import Derived.WalkLawsBesides
import Derived.WalkSmall
namespace Go.Proofs.Ytdegdikkjaifiaa
open Go.RowKit
set_option linter.unusedVariables false

set_option maxHeartbeats 8000000 in
set_option maxRecDepth 20000 in
theorem awake_any (w : World) : Calls Try.prog 6 #[] w fun e w' => e = .returned (.bool true) ∧ Below w.heap.size w w' := by
  go_enter Try.func6, Try.ntmps6
  go_wp2_with fail
  refine (new_any _).mono ?_
  rintro e w1 ⟨g, rfl, hg, k1, b1⟩
  have hglt := k1.lt
  go_wp2_with fail
  have x1 := Blk.new w1 27 #[.int .i64 64, .int .i64 9, .int .i64 4]
  have HS := send_ok g (64, 8, 4) (64, 8, 4) [] 64 9 4 (w1.alloc (.cells #[.int .i64 64, .int .i64 9, .int .i64 4] 27)) (k1.alloc _) (by decide) (by decide) (by decide) (by decide) (by decide)
  refine HS.mono ?_
  rintro e w2 ⟨A, c, rfl, -, k2, o2⟩
  have x2 := x1.only o2 (by simp; omega)
  rw [show diffL (latest (64, 8, 4) []).1 (latest (64, 8, 4) []).2.1 (latest (64, 8, 4) []).2.2 (64, 9, 4).1 (64, 9, 4).2.1 (64, 9, 4).2.2 = [(2, 9)] from by decide]
  have B2 : Below w.heap.size w w2 := bonly (b1.alloc b1.size _) o2 (by simpa using hg)
  go_wp2_with fail
  refine (ack_any g (64, 8, 4) (64, 9, 4) (hi3 (64, 8, 4) (64, 9, 4)) [] w2 (by exact k2)).mono ?_
  rintro e w3 ⟨rfl, k3, o3⟩
  have x3 := x2.only o3 (by simp; omega)
  have B3 : Below w.heap.size w w3 := bonly B2 o3 (by simpa using hg)
  go_wp2_with fail
  have y3 := Blk.alloc (Blk.new w3 27 #[.int .i64 64, .int .i64 8, .int .i64 4]) (.cells #[.int .i64 64, .int .i64 9, .int .i64 4] 27)
  have z3 := Blk.new (w3.alloc (.cells #[.int .i64 64, .int .i64 8, .int .i64 4] 27)) 27 #[.int .i64 64, .int .i64 9, .int .i64 4]
  simp only [World.size_alloc] at z3
  have x3a := Blk.alloc (Blk.alloc x3 (.cells #[.int .i64 64, .int .i64 8, .int .i64 4] 27)) (.cells #[.int .i64 64, .int .i64 9, .int .i64 4] 27)
  refine (ack_none g (64, 9, 4) (hi3 (64, 8, 4) (64, 9, 4)) _ ((k3.alloc _).alloc _)).mono ?_
  rintro e w4 ⟨rfl, b4⟩
  have x4 := x3a.below b4 (Blk.lt x3a)
  have y4 := y3.below b4 (Blk.lt y3)
  have z4 := z3.below b4 (Blk.lt z3)
  have k4 := ((k3.alloc _).alloc _).below b4
  have B4 : Below w.heap.size w w4 := ((B3.alloc B3.size _).alloc (Nat.le_trans B3.size (by simp)) _).trans (b4.mono (Nat.le_trans B3.size (by simp; omega)))
  have x5 := Blk.alloc (Blk.alloc x4 (.cells #[.int .i64 0, .int .i64 0, .int .i64 0] 27)) (.cells #[.int .i64 0, .int .i64 0, .int .i64 0] 27)
  have y5 := Blk.alloc (Blk.alloc y4 (.cells #[.int .i64 0, .int .i64 0, .int .i64 0] 27)) (.cells #[.int .i64 0, .int .i64 0, .int .i64 0] 27)
  have z5 := Blk.alloc (Blk.alloc z4 (.cells #[.int .i64 0, .int .i64 0, .int .i64 0] 27)) (.cells #[.int .i64 0, .int .i64 0, .int .i64 0] 27)
  have k5 := (k4.alloc (.cells #[.int .i64 0, .int .i64 0, .int .i64 0] 27)).alloc (.cells #[.int .i64 0, .int .i64 0, .int .i64 0] 27)
  have B5 : Below w.heap.size w ((w4.alloc (.cells #[.int .i64 0, .int .i64 0, .int .i64 0] 27)).alloc (.cells #[.int .i64 0, .int .i64 0, .int .i64 0] 27)) := (B4.alloc B4.size _).alloc (Nat.le_trans B4.size (by simp)) _
  clear x1 x2 x3 x3a y3 z3 o2 o3 HS x4 y4 z4 k4 B4 b4 k3 k2 k1 B2 B3
  go_wp2_with fail
  generalize (w4.alloc (.cells #[.int .i64 0, .int .i64 0, .int .i64 0] 27)).alloc (.cells #[.int .i64 0, .int .i64 0, .int .i64 0] 27) = w5 at *
  have cx0 := Blk.cell x5 0
  have cx1 := Blk.cell x5 1
  have cx2 := Blk.cell x5 2
  have cy0 := Blk.cell y5 0
  have cy1 := Blk.cell y5 1
  have cy2 := Blk.cell y5 2
  have cz0 := Blk.cell z5 0
  have cz1 := Blk.cell z5 1
  have cz2 := Blk.cell z5 2
  simp at cx0 cx1 cx2 cy0 cy1 cy2 cz0 cz1 cz2
  have K5 := Lib.hid k5
  have X5 := Lib.hid x5
  have Y5 := Lib.hid y5
  have Z5 := Lib.hid z5
  clear k5 x5 y5 z5
  go_region_held3 (fun w' => w'.cell? ⟨w1.heap.size, 0, none⟩ = some (.int .i64 64) ∧ w'.cell? ⟨w1.heap.size, 1, none⟩ = some (.int .i64 9) ∧ w'.cell? ⟨w1.heap.size, 2, none⟩ = some (.int .i64 4)
      ∧ w'.cell? ⟨w3.heap.size, 0, none⟩ = some (.int .i64 64) ∧ w'.cell? ⟨w3.heap.size, 1, none⟩ = some (.int .i64 8) ∧ w'.cell? ⟨w3.heap.size, 2, none⟩ = some (.int .i64 4)
      ∧ w'.cell? ⟨w3.heap.size + 1, 0, none⟩ = some (.int .i64 64) ∧ w'.cell? ⟨w3.heap.size + 1, 1, none⟩ = some (.int .i64 9) ∧ w'.cell? ⟨w3.heap.size + 1, 2, none⟩ = some (.int .i64 4))
    (first
      | go_keep
      | (refine ⟨?_, ?_, ?_, ?_, ?_, ?_, ?_, ?_, ?_⟩ <;> with_reducible assumption))
    ((first
      | (go_at_call 16
         refine (first_any _).mono ?_
         rintro e w6 ⟨rfl, b6⟩
         have b6' : Below w5.heap.size w5 w6 := ⟨b6.os, b6.tape, b6.output, b6.size, b6.block⟩
         have x6 := Blk.below X5.out b6' (Blk.lt X5.out)
         have y6 := Blk.below Y5.out b6' (Blk.lt Y5.out)
         have z6 := Blk.below Z5.out b6' (Blk.lt Z5.out)
         have k6 := K5.out.below b6'
         have d60 := Blk.cell x6 0
         have d61 := Blk.cell x6 1
         have d62 := Blk.cell x6 2
         have d63 := Blk.cell y6 0
         have d64 := Blk.cell y6 1
         have d65 := Blk.cell y6 2
         have d66 := Blk.cell z6 0
         have d67 := Blk.cell z6 1
         have d68 := Blk.cell z6 2
         simp at d60 d61 d62 d63 d64 d65 d66 d67 d68)
      | (go_at_call 12
         refine (holds_any g (64, 9, 4) _ [] _ (by exact k6)).mono ?_
         rintro e w7 ⟨rfl, b7⟩
         have x7 := Blk.below (by exact x6) b7 (Blk.lt x6)
         have y7 := Blk.below (by exact y6) b7 (Blk.lt y6)
         have z7 := Blk.below (by exact z6) b7 (Blk.lt z6)
         have d70 := Blk.cell x7 0
         have d71 := Blk.cell x7 1
         have d72 := Blk.cell x7 2
         have d73 := Blk.cell y7 0
         have d74 := Blk.cell y7 1
         have d75 := Blk.cell y7 2
         have d76 := Blk.cell z7 0
         have d77 := Blk.cell z7 1
         have d78 := Blk.cell z7 2
         simp at d70 d71 d72 d73 d74 d75 d76 d77 d78)))
  go_wp2_with fail
  go_ret
  exact ⟨rfl, (B5.trans (b6'.mono B5.size)).trans (b7.mono (Nat.le_trans B5.size b6'.size))⟩
end Go.Proofs.Ytdegdikkjaifiaa
