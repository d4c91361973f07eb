/-
  The reference's CountHoles, CountPegs; the walks of the laws.
-/
import Derived.Test.YtoipnooncnpndaaWalkV
namespace Go.Proofs.Ytoipnooncnpndaa
open Go.RowKit
open Peg
set_option linter.unusedVariables false


theorem specCountHoles_any (a h s : Int) (w : World) :
    Calls Try.prog 83 #[.agg #[.int .i64 a, .int .i64 h, .int .i64 s]] w fun e w' => e = .returned (.int .i64 (countH a h s : Nat)) ∧ Below w.heap.size w w' := by
  have hl : (holesL a h s).length = countH a h s := by
    cases hb : bOk a h s
    · rw [holesL_no hb, countH_no hb]; rfl
    · obtain ⟨W, H, S, rfl, rfl, rfl, ok⟩ := (bOk_iff _ _ _).1 hb
      rw [holesL_ok ok, countH_ok ok, ← bits49 ok, pc_bits S ok.lt]
  rw [← hl]
  go_enter Try.func83, Try.ntmps83
  go_wp2_with fail
  refine (specHolesOf_any _ _ _ _).mono ?_
  rintro e ws hr
  obtain ⟨v, rfl, hr1, hB⟩ := hr
  rcases hr1.forms with ⟨h0, q, cap, rfl⟩ | ⟨_, g, cap, rfl, _⟩
  · go_wp2
    go_ret
    exact ⟨by rw [h0]; rfl, (below1 _ _).andThen hB⟩
  · go_wp2
    go_ret
    exact ⟨by rw [hl]; rfl, (below1 _ _).andThen hB⟩
theorem specCountPegs_any (a h s q : Int) (hq : q < 2 ^ 63) (w : World) :
    Calls Try.prog 39 #[.agg #[.int .i64 a, .int .i64 h, .int .i64 s], .int .i64 q] w fun e w' => e = .returned (.int .i64 (countP a h s q)) ∧ Below w.heap.size w w' := by
  cases hb : pOk a h s q
  · have hc := Lib.hid (countP_no hb)
    go_enter Try.func39, Try.ntmps39
    go_wp2_with fail
    refine (specPositionOk_b false _ _ _ _ hq hb _).mono ?_
    rintro e w1 ⟨rfl, hB1⟩
    go_wp2
    go_ret
    exact ⟨by rw [hc.out]; rfl, (below1 _ _).andThen hB1⟩
  · obtain ⟨W, H, S, rfl, rfl, rfl, ok⟩ := (bOk_iff _ _ _).1 (by unfold pOk at hb; simp only [Bool.and_eq_true] at hb; exact hb.1)
    obtain ⟨P, rfl, hPS⟩ := (pOk_iff ok q).1 hb
    have hP : P < 2 ^ 49 := Nat.lt_of_le_of_lt (sub_le hPS) ok.lt
    have hc := Lib.hid ((countP_ok hb).trans (by rw [← pc_bits P hP]))
    have Hb := Lib.hid hb
    clear hb hPS ok
    go_enter Try.func39, Try.ntmps39
    go_wp2_with fail
    refine (specPositionOk_b true _ _ _ _ hq Hb.out _).mono ?_
    rintro e w1 ⟨rfl, hB1⟩
    go_wp2_with fail
    refine (l02List_any P (by omega) _).mono ?_
    rintro e ws hr
    obtain ⟨v, rfl, hr1, hB⟩ := hr
    have hBel := Lib.hid (((below1 w _).andThen hB1).andThen hB)
    rcases hr1.forms with ⟨h0, q, cap, rfl⟩ | ⟨_, g, cap, rfl, _⟩
    · go_wp2
      go_ret
      exact ⟨by rw [hc.out, h0]; rfl, hBel.out⟩
    · go_wp2
      go_ret
      exact ⟨by rw [hc.out]; rfl, hBel.out⟩

end Go.Proofs.Ytoipnooncnpndaa
