/-
  The walks of the laws on boards and positions that make no slices.
-/
import Derived.Test.YtpjcdmamdlobpaaWalkC
namespace Go.Proofs.Ytpjcdmamdlobpaa
open Go.RowKit
open Peg
set_option linter.unusedVariables false

set_option maxHeartbeats 400000 in
theorem walkFnExactBoardOk (a h s : Int) (wa : (Lit.int .i64 a).wf = true) (wh : (Lit.int .i64 h).wf = true) (ws : (Lit.int .i64 s).wf = true) (w : World) :
    Calls Try.prog 5 #[.agg #[.int .i64 a, .int .i64 h, .int .i64 s]] w fun e w' => e = .returned (.bool true) ∧ Below w.heap.size w w' := by
  clear wa wh ws
  cases hb : bOk a h s
  all_goals
    go_enter Try.func5, Try.ntmps5
    have hz0 : w.heap.size < (w.alloc (.cells #[.int .i64 a, .int .i64 h, .int .i64 s] 26)).heap.size := by simp
    go_wp2_with fail
    refine (toBoard_any _ _ _ _).mono ?_
    rintro e w1 ⟨rfl, hB1⟩
    obtain ⟨hc1, hf1, hz1⟩ := bcell3 hB1 hz0
    go_wp2_with fail
    refine (specBoardOk_b _ _ _ _ (by assumption) _).mono ?_
    rintro e w2 ⟨rfl, hB2⟩
    obtain ⟨hc2, hf2, hz2⟩ := bcell3 hB2 hz1
    go_wp2_with fail
    refine (toBoard_any _ _ _ _).mono ?_
    rintro e w3 ⟨rfl, hB3⟩
    obtain ⟨hc3, hf3, hz3⟩ := bcell3 hB3 hz2
    go_wp2_with fail
    refine (BoardOk_b _ _ _ _ (by assumption) _).mono ?_
    rintro e w4 ⟨rfl, hB4⟩
    obtain ⟨hc4, hf4, hz4⟩ := bcell3 hB4 hz3
    go_wp2
    go_ret
    exact ⟨rfl, (((((below1 _ _).andThen hB1).andThen hB2).andThen hB3).andThen hB4)⟩

set_option maxHeartbeats 400000 in
theorem walkFnExactPositionOk (a h s : Int) (wa : (Lit.int .i64 a).wf = true) (wh : (Lit.int .i64 h).wf = true) (ws : (Lit.int .i64 s).wf = true) (q : Int) (wq : (Lit.int .i64 q).wf = true) (w : World) :
    Calls Try.prog 6 #[.agg #[.int .i64 a, .int .i64 h, .int .i64 s], .int .i64 q] w fun e w' => e = .returned (.bool true) ∧ Below w.heap.size w w' := by
  have hq := lt63 wq
  clear wa wh ws wq
  cases hb : pOk a h s q
  all_goals
    go_enter Try.func6, Try.ntmps6
    have hz0 : w.heap.size < (w.alloc (.cells #[.int .i64 a, .int .i64 h, .int .i64 s] 26)).heap.size := by simp
    go_wp2_with fail
    refine (toBoard_any _ _ _ _).mono ?_
    rintro e w1 ⟨rfl, hB1⟩
    obtain ⟨hc1, hf1, hz1⟩ := bcell3 hB1 hz0
    go_wp2_with fail
    refine (specPositionOk_b _ _ _ _ _ hq (by assumption) _).mono ?_
    rintro e w2 ⟨rfl, hB2⟩
    obtain ⟨hc2, hf2, hz2⟩ := bcell3 hB2 hz1
    go_wp2_with fail
    refine (toBoard_any _ _ _ _).mono ?_
    rintro e w3 ⟨rfl, hB3⟩
    obtain ⟨hc3, hf3, hz3⟩ := bcell3 hB3 hz2
    go_wp2_with fail
    refine (PositionOk_b _ _ _ _ _ hq (by assumption) _).mono ?_
    rintro e w4 ⟨rfl, hB4⟩
    obtain ⟨hc4, hf4, hz4⟩ := bcell3 hB4 hz3
    go_wp2
    go_ret
    exact ⟨rfl, (((((below1 _ _).andThen hB1).andThen hB2).andThen hB3).andThen hB4)⟩

set_option maxHeartbeats 400000 in
theorem walkFnExactHasHole (a h s : Int) (wa : (Lit.int .i64 a).wf = true) (wh : (Lit.int .i64 h).wf = true) (ws : (Lit.int .i64 s).wf = true) (k : Int) (wk : (Lit.int .i64 k).wf = true) (w : World) :
    Calls Try.prog 8 #[.agg #[.int .i64 a, .int .i64 h, .int .i64 s], .int .i64 k] w fun e w' => e = .returned (.bool true) ∧ Below w.heap.size w w' := by
  clear wa wh ws wk
  cases hb : hasB a h s k
  all_goals
    go_enter Try.func8, Try.ntmps8
    have hz0 : w.heap.size < (w.alloc (.cells #[.int .i64 a, .int .i64 h, .int .i64 s] 26)).heap.size := by simp
    go_wp2_with fail
    refine (toBoard_any _ _ _ _).mono ?_
    rintro e w1 ⟨rfl, hB1⟩
    obtain ⟨hc1, hf1, hz1⟩ := bcell3 hB1 hz0
    go_wp2_with fail
    refine (specHasHole_b _ _ _ _ _ (by assumption) _).mono ?_
    rintro e w2 ⟨rfl, hB2⟩
    obtain ⟨hc2, hf2, hz2⟩ := bcell3 hB2 hz1
    go_wp2_with fail
    refine (toBoard_any _ _ _ _).mono ?_
    rintro e w3 ⟨rfl, hB3⟩
    obtain ⟨hc3, hf3, hz3⟩ := bcell3 hB3 hz2
    go_wp2_with fail
    refine (HasHole_b _ _ _ _ _ (by assumption) _).mono ?_
    rintro e w4 ⟨rfl, hB4⟩
    obtain ⟨hc4, hf4, hz4⟩ := bcell3 hB4 hz3
    go_wp2
    go_ret
    exact ⟨rfl, (((((below1 _ _).andThen hB1).andThen hB2).andThen hB3).andThen hB4)⟩

set_option maxHeartbeats 400000 in
theorem walkFnExactHasPeg (a h s : Int) (wa : (Lit.int .i64 a).wf = true) (wh : (Lit.int .i64 h).wf = true) (ws : (Lit.int .i64 s).wf = true) (q : Int) (wq : (Lit.int .i64 q).wf = true) (k : Int) (wk : (Lit.int .i64 k).wf = true) (w : World) :
    Calls Try.prog 10 #[.agg #[.int .i64 a, .int .i64 h, .int .i64 s], .int .i64 q, .int .i64 k] w fun e w' => e = .returned (.bool true) ∧ Below w.heap.size w w' := by
  have hq := lt63 wq
  clear wa wh ws wq wk
  cases hb : hasP a h s q k
  all_goals
    go_enter Try.func10, Try.ntmps10
    have hz0 : w.heap.size < (w.alloc (.cells #[.int .i64 a, .int .i64 h, .int .i64 s] 26)).heap.size := by simp
    go_wp2_with fail
    refine (toBoard_any _ _ _ _).mono ?_
    rintro e w1 ⟨rfl, hB1⟩
    obtain ⟨hc1, hf1, hz1⟩ := bcell3 hB1 hz0
    go_wp2_with fail
    refine (specHasPeg_b _ _ _ _ _ _ hq (by assumption) _).mono ?_
    rintro e w2 ⟨rfl, hB2⟩
    obtain ⟨hc2, hf2, hz2⟩ := bcell3 hB2 hz1
    go_wp2_with fail
    refine (toBoard_any _ _ _ _).mono ?_
    rintro e w3 ⟨rfl, hB3⟩
    obtain ⟨hc3, hf3, hz3⟩ := bcell3 hB3 hz2
    go_wp2_with fail
    refine (HasPeg_b _ _ _ _ _ _ hq (by assumption) _).mono ?_
    rintro e w4 ⟨rfl, hB4⟩
    obtain ⟨hc4, hf4, hz4⟩ := bcell3 hB4 hz3
    go_wp2
    go_ret
    exact ⟨rfl, (((((below1 _ _).andThen hB1).andThen hB2).andThen hB3).andThen hB4)⟩

set_option maxHeartbeats 400000 in
theorem walkFnExactFullBut (a h s : Int) (wa : (Lit.int .i64 a).wf = true) (wh : (Lit.int .i64 h).wf = true) (ws : (Lit.int .i64 s).wf = true) (k : Int) (wk : (Lit.int .i64 k).wf = true) (w : World) :
    Calls Try.prog 12 #[.agg #[.int .i64 a, .int .i64 h, .int .i64 s], .int .i64 k] w fun e w' => e = .returned (.bool true) ∧ Below w.heap.size w w' := by
  clear wa wh ws wk
  go_enter Try.func12, Try.ntmps12
  have hz0 : w.heap.size < (w.alloc (.cells #[.int .i64 a, .int .i64 h, .int .i64 s] 26)).heap.size := by simp
  go_wp2_with fail
  refine (toBoard_any _ _ _ _).mono ?_
  rintro e w1 ⟨rfl, hB1⟩
  obtain ⟨hc1, hf1, hz1⟩ := bcell3 hB1 hz0
  go_wp2_with fail
  refine (specFullBut_any _ _ _ _ _).mono ?_
  rintro e w2 ⟨rfl, hB2⟩
  obtain ⟨hc2, hf2, hz2⟩ := bcell3 hB2 hz1
  go_wp2_with fail
  refine (toBoard_any _ _ _ _).mono ?_
  rintro e w3 ⟨rfl, hB3⟩
  obtain ⟨hc3, hf3, hz3⟩ := bcell3 hB3 hz2
  go_wp2_with fail
  refine (FullBut_any _ _ _ _ _).mono ?_
  rintro e w4 ⟨rfl, hB4⟩
  obtain ⟨hc4, hf4, hz4⟩ := bcell3 hB4 hz3
  go_wp2
  go_ret
  exact ⟨rfl, (((((below1 _ _).andThen hB1).andThen hB2).andThen hB3).andThen hB4)⟩

set_option maxHeartbeats 400000 in
theorem walkFnExactSinglePeg (a h s : Int) (wa : (Lit.int .i64 a).wf = true) (wh : (Lit.int .i64 h).wf = true) (ws : (Lit.int .i64 s).wf = true) (k : Int) (wk : (Lit.int .i64 k).wf = true) (w : World) :
    Calls Try.prog 13 #[.agg #[.int .i64 a, .int .i64 h, .int .i64 s], .int .i64 k] w fun e w' => e = .returned (.bool true) ∧ Below w.heap.size w w' := by
  clear wa wh ws wk
  go_enter Try.func13, Try.ntmps13
  have hz0 : w.heap.size < (w.alloc (.cells #[.int .i64 a, .int .i64 h, .int .i64 s] 26)).heap.size := by simp
  go_wp2_with fail
  refine (toBoard_any _ _ _ _).mono ?_
  rintro e w1 ⟨rfl, hB1⟩
  obtain ⟨hc1, hf1, hz1⟩ := bcell3 hB1 hz0
  go_wp2_with fail
  refine (specSinglePeg_any _ _ _ _ _).mono ?_
  rintro e w2 ⟨rfl, hB2⟩
  obtain ⟨hc2, hf2, hz2⟩ := bcell3 hB2 hz1
  go_wp2_with fail
  refine (toBoard_any _ _ _ _).mono ?_
  rintro e w3 ⟨rfl, hB3⟩
  obtain ⟨hc3, hf3, hz3⟩ := bcell3 hB3 hz2
  go_wp2_with fail
  refine (SinglePeg_any _ _ _ _ _).mono ?_
  rintro e w4 ⟨rfl, hB4⟩
  obtain ⟨hc4, hf4, hz4⟩ := bcell3 hB4 hz3
  go_wp2
  go_ret
  exact ⟨rfl, (((((below1 _ _).andThen hB1).andThen hB2).andThen hB3).andThen hB4)⟩

set_option maxHeartbeats 400000 in
theorem walkFnExactSetPeg (a h s : Int) (wa : (Lit.int .i64 a).wf = true) (wh : (Lit.int .i64 h).wf = true) (ws : (Lit.int .i64 s).wf = true) (q : Int) (wq : (Lit.int .i64 q).wf = true) (k : Int) (wk : (Lit.int .i64 k).wf = true) (on : Bool) (w : World) :
    Calls Try.prog 14 #[.agg #[.int .i64 a, .int .i64 h, .int .i64 s], .int .i64 q, .int .i64 k, .bool on] w fun e w' => e = .returned (.bool true) ∧ Below w.heap.size w w' := by
  have hq := lt63 wq
  clear wa wh ws wq wk
  go_enter Try.func14, Try.ntmps14
  have hz0 : w.heap.size < (w.alloc (.cells #[.int .i64 a, .int .i64 h, .int .i64 s] 26)).heap.size := by simp
  go_wp2_with fail
  refine (toBoard_any _ _ _ _).mono ?_
  rintro e w1 ⟨rfl, hB1⟩
  obtain ⟨hc1, hf1, hz1⟩ := bcell3 hB1 hz0
  go_wp2_with fail
  refine (specSetPeg_any _ _ _ _ _ _ hq _).mono ?_
  rintro e w2 ⟨rfl, hB2⟩
  obtain ⟨hc2, hf2, hz2⟩ := bcell3 hB2 hz1
  go_wp2_with fail
  refine (toBoard_any _ _ _ _).mono ?_
  rintro e w3 ⟨rfl, hB3⟩
  obtain ⟨hc3, hf3, hz3⟩ := bcell3 hB3 hz2
  go_wp2_with fail
  refine (SetPeg_any _ _ _ _ _ _ hq _).mono ?_
  rintro e w4 ⟨rfl, hB4⟩
  obtain ⟨hc4, hf4, hz4⟩ := bcell3 hB4 hz3
  go_wp2
  go_ret
  exact ⟨rfl, (((((below1 _ _).andThen hB1).andThen hB2).andThen hB3).andThen hB4)⟩

set_option maxHeartbeats 400000 in
theorem walkFnExactTurnLine (a h s : Int) (wa : (Lit.int .i64 a).wf = true) (wh : (Lit.int .i64 h).wf = true) (ws : (Lit.int .i64 s).wf = true) (w : World) :
    Calls Try.prog 7 #[.agg #[.int .i64 a, .int .i64 h, .int .i64 s]] w fun e w' => e = .returned (.bool true) ∧ Below w.heap.size w w' := by
  clear wa wh ws
  go_enter Try.func7, Try.ntmps7
  have hz0 : w.heap.size < (w.alloc (.cells #[.int .i64 a, .int .i64 h, .int .i64 s] 34)).heap.size := by simp
  go_wp2_with fail
  refine (toLine_any _ _ _ _).mono ?_
  rintro e w1 ⟨rfl, hB1⟩
  obtain ⟨hc1, hf1, hz1⟩ := bcell3 hB1 hz0
  go_wp2_with fail
  refine (specTurnLine_any _ _ _ _).mono ?_
  rintro e w2 ⟨rfl, hB2⟩
  obtain ⟨hc2, hf2, hz2⟩ := bcell3 hB2 hz1
  go_wp2_with fail
  refine (toLine_any _ _ _ _).mono ?_
  rintro e w3 ⟨rfl, hB3⟩
  obtain ⟨hc3, hf3⟩ := bcell hB3
  have hz3 : w2.heap.size < w3.heap.size := by have := hB3.size; simp at this; omega
  go_wp2_with fail
  refine (TurnLine_any _ _ _ _).mono ?_
  rintro e w4 ⟨rfl, hB4⟩
  obtain ⟨hc4, hf4, hz4⟩ := bcell3 hB4 hz3
  go_wp2_with fail
  refine (eqLine_same _ _ _ _).mono ?_
  rintro e w5 ⟨rfl, hB5⟩
  go_wp2
  go_ret
  exact ⟨rfl, (((((((below1 _ _).andThen hB1).andThen hB2).more _).andThen hB3).andThen hB4).more _).andThen hB5⟩

set_option maxHeartbeats 400000 in
theorem walkFnExactRectangle (a : Int) (wa : (Lit.int .i64 a).wf = true) (h : Int) (wh : (Lit.int .i64 h).wf = true) (w : World) :
    Calls Try.prog 9 #[.int .i64 a, .int .i64 h] w fun e w' => e = .returned (.bool true) ∧ Below w.heap.size w w' := by
  clear wa wh
  go_enter Try.func9, Try.ntmps9
  go_wp2_with fail
  refine (specRectangle_any _ _ _).mono ?_
  rintro e w1 ⟨rfl, hB1⟩
  go_wp2_with fail
  refine (Rectangle_any _ _ _).mono ?_
  rintro e w2 ⟨rfl, hB2⟩
  obtain ⟨hc2, hf2⟩ := bcell hB2
  have hz2 : w1.heap.size < w2.heap.size := by have := hB2.size; simp at this; omega
  go_wp2_with fail
  refine (eqBoard_same _ _ _ _).mono ?_
  rintro e w3 ⟨rfl, hB3⟩
  go_wp2
  go_ret
  exact ⟨rfl, (((hB1.more _).andThen hB2).more _).andThen hB3⟩

set_option maxHeartbeats 400000 in
theorem walkFnExactCrossBoard (w : World) :
    Calls Try.prog 11 #[] w fun e w' => e = .returned (.bool true) ∧ Below w.heap.size w w' := by
  go_enter Try.func11, Try.ntmps11
  go_wp2_with fail
  refine (specCrossBoard_any _).mono ?_
  rintro e w1 ⟨rfl, hB1⟩
  go_wp2_with fail
  refine (CrossBoard_any _).mono ?_
  rintro e w2 ⟨rfl, hB2⟩
  obtain ⟨hc2, hf2⟩ := bcell hB2
  have hz2 : w1.heap.size < w2.heap.size := by have := hB2.size; simp at this; omega
  go_wp2_with fail
  refine (eqBoard_same _ _ _ _).mono ?_
  rintro e w3 ⟨rfl, hB3⟩
  go_wp2
  go_ret
  exact ⟨rfl, (((hB1.more _).andThen hB2).more _).andThen hB3⟩

set_option maxHeartbeats 400000 in
theorem walkFnExactConstants  (w : World) :
    Calls Try.prog 3 #[] w fun e w' => e = .returned (.bool true) ∧ Below w.heap.size w w' := by
  go_enter Try.func3, Try.ntmps3
  go_wp2
  go_ret
  exact ⟨rfl, (Below.refl _ _)⟩

set_option maxHeartbeats 400000 in
theorem walkFnExactClamp (a : Int) (wa : (Lit.int .i64 a).wf = true) (h : Int) (wh : (Lit.int .i64 h).wf = true) (s : Int) (ws : (Lit.int .i64 s).wf = true) (w : World) :
    Calls Try.prog 4 #[.int .i64 a, .int .i64 h, .int .i64 s] w fun e w' => e = .returned (.bool true) ∧ Below w.heap.size w w' := by
  clear wa wh ws
  go_enter Try.func4, Try.ntmps4
  go_wp2_with fail
  refine (specClamp_any _ _ _ _).mono ?_
  rintro e wq ⟨rfl, hwq⟩
  subst wq
  go_wp2_with fail
  refine (Clamp_any _ _ _ _).mono ?_
  rintro e wq ⟨rfl, hwq⟩
  subst wq
  go_wp2
  go_ret
  exact ⟨rfl, (Below.refl _ _)⟩

end Go.Proofs.Ytpjcdmamdlobpaa
