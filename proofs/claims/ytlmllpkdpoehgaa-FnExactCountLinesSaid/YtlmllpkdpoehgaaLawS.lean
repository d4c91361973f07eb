/-
  The walks of the laws CountLines, LineBetween.
-/
import Derived.Test.YtlmllpkdpoehgaaWalkR
namespace Go.Proofs.Ytlmllpkdpoehgaa
open Go.RowKit
open Peg
set_option linter.unusedVariables false

set_option maxHeartbeats 800000 in
theorem walkFnExactCountLines (a h s : Int) (wa : (Lit.int .i64 a).wf = true) (wh : (Lit.int .i64 h).wf = true) (ws : (Lit.int .i64 s).wf = true) (w : World) :
    Calls Try.prog 8 #[.agg #[.int .i64 a, .int .i64 h, .int .i64 s]] w fun e w' => e = .returned (.bool true) ∧ Below w.heap.size w w' := by
  clear wa wh ws
  go_enter Try.func8, Try.ntmps8
  have X0 := BoxAt.new w a h s 23
  obtain ⟨b00, b01, b02, bz0⟩ := X0
  clear bz0
  go_wp2_with fail
  refine (toBoard_any _ _ _ _).mono ?_
  rintro e w1 ⟨rfl, hB1⟩
  replace b00 := cell_kept b00 hB1
  replace b01 := cell_kept b01 hB1
  replace b02 := cell_kept b02 hB1
  go_wp2_with fail
  refine (specCountLines_any _ _ _ _).mono ?_
  rintro e w2 ⟨rfl, hB2⟩
  replace b00 := cell_kept b00 hB2
  replace b01 := cell_kept b01 hB2
  replace b02 := cell_kept b02 hB2
  go_wp2_with fail
  refine (toBoard_any _ _ _ _).mono ?_
  rintro e w3 ⟨rfl, hB3⟩
  replace b00 := cell_kept b00 hB3
  replace b01 := cell_kept b01 hB3
  replace b02 := cell_kept b02 hB3
  go_wp2_with fail
  refine (CountLines_any _ _ _ _).mono ?_
  rintro e w4 ⟨rfl, hB4⟩
  replace b00 := cell_kept b00 hB4
  replace b01 := cell_kept b01 hB4
  replace b02 := cell_kept b02 hB4
  go_wp2
  go_ret
  exact ⟨rfl, (((((below1 _ _).andThen hB1).andThen hB2).andThen hB3).andThen hB4)⟩

set_option maxHeartbeats 800000 in
theorem walkFnExactLineBetween (a h s : Int) (wa : (Lit.int .i64 a).wf = true) (wh : (Lit.int .i64 h).wf = true) (ws : (Lit.int .i64 s).wf = true) (f : Int) (wf : (Lit.int .i64 f).wf = true) (t : Int) (wt : (Lit.int .i64 t).wf = true) (w : World) :
    Calls Try.prog 14 #[.agg #[.int .i64 a, .int .i64 h, .int .i64 s], .int .i64 f, .int .i64 t] w fun e w' => e = .returned (.bool true) ∧ Below w.heap.size w w' := by
  clear wa wh ws wf wt
  have hs := fun w => specLineBetween_any a h s f t w
  have hi := fun w => LineBetween_any a h s f t w
  generalize findL (linesL a h s) f t = o at hs hi
  generalize lnOf o = l at hs hi
  generalize o.isSome = b at hs hi
  obtain ⟨la, lb, lc⟩ := l
  dsimp only at hs hi
  have HS := Lib.hid hs
  have HI := Lib.hid hi
  clear hs hi
  go_enter Try.func14, Try.ntmps14
  have X0 := BoxAt.new w a h s 23
  have hBel0 := below1 w (.cells #[.int .i64 a, .int .i64 h, .int .i64 s] 23)
  go_wp2_with fail
  refine (toBoard_any _ _ _ _).mono ?_
  rintro e w1 ⟨rfl, hB1⟩
  go_wp2_with fail
  refine (HS.out _).mono ?_
  rintro e w2 ⟨rfl, hB2⟩
  have X2 := ((X0.below hB1).below hB2).below (below1 w2 (.cells #[.int .i64 la, .int .i64 lb, .int .i64 lc] 50))
  have Y2 := BoxAt.new w2 la lb lc 50
  have hBel2 := Lib.hid (((hBel0.andThen hB1).andThen hB2).more (.cells #[.int .i64 la, .int .i64 lb, .int .i64 lc] 50))
  obtain ⟨b00, b01, b02, bz0⟩ := X2
  obtain ⟨b10, b11, b12, bz1⟩ := Y2
  clear X0 hBel0 hB1 hB2 bz0 bz1
  go_wp2_with fail
  refine (toBoard_any _ _ _ _).mono ?_
  rintro e w3 ⟨rfl, hB3⟩
  replace b10 := cell_kept b10 hB3
  replace b11 := cell_kept b11 hB3
  replace b12 := cell_kept b12 hB3
  go_wp2_with fail
  refine (HI.out _).mono ?_
  rintro e w4 ⟨rfl, hB4⟩
  have Y4 := BoxAt.new w4 la lb lc 50
  replace b10 := cell_kept (cell_kept b10 hB4) (below1 w4 (.cells #[.int .i64 la, .int .i64 lb, .int .i64 lc] 50))
  replace b11 := cell_kept (cell_kept b11 hB4) (below1 w4 (.cells #[.int .i64 la, .int .i64 lb, .int .i64 lc] 50))
  replace b12 := cell_kept (cell_kept b12 hB4) (below1 w4 (.cells #[.int .i64 la, .int .i64 lb, .int .i64 lc] 50))
  obtain ⟨b20, b21, b22, bz2⟩ := Y4
  have hBel4 := Lib.hid (((hBel2.out.andThen hB3).andThen hB4).more (.cells #[.int .i64 la, .int .i64 lb, .int .i64 lc] 50))
  clear hB3 hB4 bz2 hBel2 b00 b01 b02
  go_wp2_with fail
  refine (eqLine_same _ _ _ _).mono ?_
  rintro e w5 ⟨rfl, hB5⟩
  have hBel5 := Lib.hid (hBel4.out.andThen hB5)
  clear hB5 hBel4
  cases b
  all_goals
    go_wp2
    go_ret
    exact ⟨rfl, hBel5.out⟩

end Go.Proofs.Ytlmllpkdpoehgaa
