/-
  The walks of the laws whose result is a slice of ints.
-/
import Derived.Test.YtnnoahoepljejaaDoorWalkI
import Derived.Test.YtnnoahoepljejaaDoorWalkJ
import Derived.Test.YtnnoahoepljejaaDoorWalkB
namespace Go.Proofs.YtnnoahoepljejaaDoor
open Go.RowKit
open Peg
set_option linter.unusedVariables false

theorem ge63 {x : Int} (h : (Lit.int .i64 x).wf = true) : -9223372036854775808 ≤ x := (bounds_i64 h).1

theorem HolesOf_any (a h s : Int) (w : World) :
    Calls Tryd.prog 12 #[.agg #[.int .i64 a, .int .i64 h, .int .i64 s]] w (RetI w (holesL a h s)) := by
  cases hb : bOk a h s
  · rw [holesL_no hb]; exact HolesOf_no a h s w hb
  · obtain ⟨W, H, S, rfl, rfl, rfl, ok⟩ := (bOk_iff _ _ _).1 hb
    rw [holesL_ok ok]
    exact HolesOf_yes W H S ok w
theorem holesL_short (a h s : Int) : (holesL a h s).length ≤ 49 := by
  cases hb : bOk a h s
  · rw [holesL_no hb]; decide
  · obtain ⟨W, H, S, rfl, rfl, rfl, ok⟩ := (bOk_iff _ _ _).1 hb
    rw [holesL_ok ok]
    exact Nat.le_trans (bitsTo_le _ _) ok.area.2

end Go.Proofs.YtnnoahoepljejaaDoor
