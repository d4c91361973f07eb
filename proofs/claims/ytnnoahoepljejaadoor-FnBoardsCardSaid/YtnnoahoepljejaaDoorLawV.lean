/-
  The reference's CountHoles, CountPegs; the walks of the laws.
-/
import Derived.Test.YtnnoahoepljejaaDoorWalkV
namespace Go.Proofs.YtnnoahoepljejaaDoor
open Go.RowKit
open Peg
set_option linter.unusedVariables false


theorem specCountHoles_any (a h s : Int) (w : World) :
    Calls Tryd.prog 53 #[.agg #[.int .i64 a, .int .i64 h, .int .i64 s]] w fun e w' => e = .returned (.int .i64 (countH a h s : Nat)) ∧ Below w.heap.size w w' := by
  have hl : (holesL a h s).length = countH a h s := by
    cases hb : bOk a h s
    · rw [holesL_no hb, countH_no hb]; rfl
    · obtain ⟨W, H, S, rfl, rfl, rfl, ok⟩ := (bOk_iff _ _ _).1 hb
      rw [holesL_ok ok, countH_ok ok, ← bits49 ok, pc_bits S ok.lt]
  rw [← hl]
  go_enter Tryd.func53, Tryd.ntmps53
  go_wp2_with fail
  refine (specHolesOf_any _ _ _ _).mono ?_
  rintro e ws hr
  obtain ⟨v, rfl, hr1, hB⟩ := hr
  rcases hr1.forms with ⟨h0, q, cap, rfl⟩ | ⟨_, g, cap, rfl, _⟩
  · go_wp2
    go_ret
    exact ⟨by rw [h0]; rfl, (below1 _ _).andThen hB⟩
  · go_wp2
    go_ret
    exact ⟨by rw [hl]; rfl, (below1 _ _).andThen hB⟩

end Go.Proofs.YtnnoahoepljejaaDoor
