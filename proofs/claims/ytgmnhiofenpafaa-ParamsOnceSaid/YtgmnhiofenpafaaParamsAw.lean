/- awake of chapter 16. -/
import Derived.Test.YtgmnhiofenpafaaRows
import Derived.WalkKit
import Derived.ProofKit
import Derived.Handy
import Derived.Test.YtgmnhiofenpafaaMem
import Derived.Test.YtgmnhiofenpafaaLift
import Derived.Test.YtgmnhiofenpafaaParams2
import Derived.Test.YtgmnhiofenpafaaApp
import Derived.Deep.QuietTactic
import Derived.BigQuiet
import Derived.Deep.RegionWith
import Derived.WalkLawsBesides
import Derived.Laws.ResultCell
import Derived.WalkSmall
namespace Go.Proofs.Ytgmnhiofenpafaa
open Go.RowKit
set_option linter.unusedVariables false

theorem awake_any (w : World) :
    Calls Try.prog 9 #[] w fun e w' => e = .returned (.bool true) ∧ Below w.heap.size w w' := by
  go_enter Try.func9, Try.ntmps9
  go_wp2_with fail
  refine (first_any _).mono ?_
  rintro e w1 ⟨rfl, b1⟩
  go_wp2_with fail
  have hD := fun W => diff_any 64 8 4 64 9 4 W (by decide) (by decide) (by decide)
  rw [show diffL 64 8 4 64 9 4 = [(2, 9)] by decide] at hD
  refine (hD _).mono ?_
  clear hD
  rintro e w2 ⟨A, c, rfl, hp, b2⟩
  have B2 := b1.trans (b2.mono b1.size)
  go_wp2_with fail
  refine (first_any _).mono ?_
  rintro e w3 ⟨rfl, b3⟩
  have B3 := B2.trans (b3.mono B2.size)
  have hp3 := hp.below b3
  obtain ⟨b, off, rfl, hbl, c0, c1, _, _⟩ := hp3.2.2 0 (by decide)
  have hcap := hp.1
  have hcap2 := hp.2.1
  simp at c0 c1 hcap
  clear hp hp3
  go_wp2_with fail
  go_ret
  exact ⟨rfl, B3⟩
end Go.Proofs.Ytgmnhiofenpafaa
