/-
  The walks of the laws' helpers on slices of strings: markText, eqStringS, markStringS, heldStringS.
-/
import Derived.Test.YtnnoahoepljejaaDoorOwnS
import Derived.Test.YtnnoahoepljejaaDoorBits
import Derived.BigQuiet
import Derived.Deep.QuietTactic
import Derived.Deep.RegionHeld3
import Derived.WalkSpells
import Derived.WalkLawsBesides
import Derived.StillTailTactics
import Derived.Lib.SmallJoins
namespace Go.Proofs.YtnnoahoepljejaaDoor
open Go.RowKit
set_option linter.unusedVariables false
set_option linter.unusedSimpArgs false

theorem keptS (w w1 : World) {n o : Nat} {v : Value} (h : w.cell? ⟨n, o, none⟩ = some v) (hb : Below w.heap.size w w1) : w1.cell? ⟨n, o, none⟩ = some v :=
  (hb.cell (p := ⟨n, o, none⟩) (World.block_lt_of_cell? w _ h)).trans h

theorem heldK {w w' w1 : World} {g k : Nat} {v : Value} (h : w'.cell? ⟨g, k, none⟩ = some v ∧ Below w.heap.size w w') (hb : Below w'.heap.size w' w1) : w1.cell? ⟨g, k, none⟩ = some v ∧ Below w.heap.size w w1 :=
  ⟨keptS _ _ h.1 hb, h.2.andThen hb⟩
end Go.Proofs.YtnnoahoepljejaaDoor
