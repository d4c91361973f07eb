/-
  The walks of the laws SameKey, FinalHoles.
-/
import Derived.Test.YtmnnpfgmdojpmaaWalkFH
namespace Go.Proofs.Ytmnnpfgmdojpmaa
open Go.RowKit
open Peg
set_option linter.unusedVariables false

set_option maxHeartbeats 800000 in
theorem walkFnExactFinalHoles (a h s : Int) (wa : (Lit.int .i64 a).wf = true) (wh : (Lit.int .i64 h).wf = true) (ws : (Lit.int .i64 s).wf = true) (q : Int) (wq : (Lit.int .i64 q).wf = true) (w : World) :
    Calls Try.prog 8 #[.agg #[.int .i64 a, .int .i64 h, .int .i64 s], .int .i64 q] w fun e w' => e = .returned (.bool true) ∧ Below w.heap.size w w' := by
  have hq := lt63 wq
  have h0q := ge63 wq
  clear wq
  clear wa wh ws
  have hlen : (finalL a h s q).length ≤ 1152921504606846976 := by have := finalL_len a h s q; omega
  generalize hx : finalL a h s q = xs at hlen
  have HX := Lib.hid hx
  clear hx
  have hL := Lib.hid hlen
  clear hlen
  go_enter Try.func8, Try.ntmps8
  have X0 := BoxAt.new w a h s 30
  have hBel0 := Lib.hid (below1 w (.cells #[.int .i64 a, .int .i64 h, .int .i64 s] 30))
  go_wp2_with fail
  refine (toBoard_any _ _ _ _).mono ?_
  rintro e w1 ⟨rfl, hB1⟩
  have X1 := X0.below hB1
  have hBel1 := Lib.hid (hBel0.out.andThen hB1)
  clear X0 hBel0 hB1
  go_wp2_with fail
  refine (specFinalHoles_any _ _ _ _ hq _).mono ?_
  rintro e w2 hr
  obtain ⟨v0, rfl, hr0, hB2⟩ := hr
  rw [HX.out] at hr0
  have X2 := X1.below hB2
  have hBel2 := Lib.hid (hBel1.out.andThen hB2)
  clear X1 hBel1 hB2
  obtain ⟨b0, b1, b2, bz⟩ := X2
  go_wp2_with fail
  refine (toBoard_any _ _ _ _).mono ?_
  rintro e w3 ⟨rfl, hB3⟩
  have X3 := (BoxAt.mk b0 b1 b2 bz).below hB3
  have hr03 := hr0.kept hB3
  have hBel3 := Lib.hid (hBel2.out.andThen hB3)
  have hs3 := hB3.size
  clear hBel2 hB3 b0 b1 b2 bz
  go_wp2_with fail
  refine (FinalHoles_any _ _ _ _ hq _).mono ?_
  rintro e w4 hr
  obtain ⟨v1, rfl, hr1, hB4⟩ := hr
  rw [HX.out] at hr1
  have hs4 := hB4.size
  have X4 := X3.below hB4
  have hr04 := hr03.kept hB4
  have hBel4 := Lib.hid (hBel3.out.andThen hB4)
  clear hB4
  go_wp2_with fail
  refine (eqIntS_same xs v1 v0 _ _ _ hr1 hr04).mono ?_
  rintro e w5 ⟨rfl, hB5⟩
  have X5 := X4.below hB5
  have hr05 := hr04.kept hB5
  have hr15 := hr1.kept hB5
  have hBel5 := Lib.hid (hBel4.out.andThen hB5)
  clear hB5 hBel4
  go_wp2_with fail
  refine (mark1 v1 _ xs _ hL.out hr15).mono ?_
  rintro e w6 ⟨rfl, hr16, hg6⟩
  have hne := box_apart hr15 X3.sz
  have X6 := X5.grown hg6 hne
  have hr06 := hr0.apart hr05 hr15 hs3 hg6
  have hBel6 := Lib.hid (Below.mark hBel5.out hr15 hBel3.out.size hg6)
  clear hg6 X5 hne hr05 hr15 hBel5 hBel3 hr03 X3 hr04 X4 hr1
  go_wp2_with fail
  refine (held1 v1 _ _ _ hL.out hr16).mono ?_
  rintro e w7 ⟨rfl, hw7⟩
  subst w7
  obtain ⟨b0, b1, b2, bz⟩ := X6
  go_wp2_with fail
  refine (toBoard_any _ _ _ _).mono ?_
  rintro e w8 ⟨rfl, hB8⟩
  have X8 := (BoxAt.mk b0 b1 b2 bz).below hB8
  have hr08 := hr06.kept hB8
  have hr18 := hr16.kept hB8
  have hBel8 := Lib.hid (hBel6.out.andThen hB8)
  clear hBel6 hB8 b0 b1 b2 bz hr16 hr06
  go_wp2_with fail
  refine (FinalHoles_any _ _ _ _ hq _).mono ?_
  rintro e w9 hr
  obtain ⟨v2, rfl, hr2, hB9⟩ := hr
  rw [HX.out] at hr2
  have hr09 := hr08.kept hB9
  have hr19 := hr18.kept hB9
  have hBel9 := Lib.hid (hBel8.out.andThen hB9)
  clear hB9 hBel8 hr08 hr18 X8
  go_wp2_with fail
  refine (eqIntS_same xs v2 v0 _ _ _ hr2 hr09).mono ?_
  rintro e w10 ⟨rfl, hB10⟩
  have hr1A := hr19.kept hB10
  have hBelA := Lib.hid (hBel9.out.andThen hB10)
  clear hB10 hBel9 hr19 hr2 hr09
  go_wp2_with fail
  refine (held1 v1 _ _ _ hL.out hr1A).mono ?_
  rintro e w11 ⟨rfl, hw11⟩
  subst w11
  clear hr1A hr0
  go_wp2
  go_ret
  exact ⟨rfl, hBelA.out⟩

set_option maxHeartbeats 800000 in
theorem walkFnExactSameKey (a h s : Int) (wa : (Lit.int .i64 a).wf = true) (wh : (Lit.int .i64 h).wf = true) (ws : (Lit.int .i64 s).wf = true) (q : Int) (wq : (Lit.int .i64 q).wf = true) (r : Int) (wr : (Lit.int .i64 r).wf = true) (w : World) :
    Calls Try.prog 6 #[.agg #[.int .i64 a, .int .i64 h, .int .i64 s], .int .i64 q, .int .i64 r] w fun e w' => e = .returned (.bool true) ∧ Below w.heap.size w w' := by
  have hq := lt63 wq
  have hr := lt63 wr
  clear wa wh ws wq wr
  obtain ⟨b, hb⟩ : ∃ b, sameK a h s q r = b := ⟨_, rfl⟩
  have hs := fun w => specSameKey_b b a h s q r hq hr hb w
  have hi := fun w => SameKey_b b a h s q r hq hr hb w
  have HS := Lib.hid hs
  have HI := Lib.hid hi
  clear hs hi hb
  cases b
  all_goals
    go_enter Try.func6, Try.ntmps6
    have X0 := BoxAt.new w a h s 30
    obtain ⟨b00, b01, b02, bz0⟩ := X0
    clear bz0
    go_wp2_with fail
    refine (toBoard_any _ _ _ _).mono ?_
    rintro e w1 ⟨rfl, hB1⟩
    replace b00 := cell_keptA b00 hB1
    replace b01 := cell_keptA b01 hB1
    replace b02 := cell_keptA b02 hB1
    go_wp2_with fail
    refine (HS.out _).mono ?_
    rintro e w2 ⟨rfl, hB2⟩
    replace b00 := cell_keptA b00 hB2
    replace b01 := cell_keptA b01 hB2
    replace b02 := cell_keptA b02 hB2
    go_wp2_with fail
    refine (toBoard_any _ _ _ _).mono ?_
    rintro e w3 ⟨rfl, hB3⟩
    replace b00 := cell_keptA b00 hB3
    replace b01 := cell_keptA b01 hB3
    replace b02 := cell_keptA b02 hB3
    go_wp2_with fail
    refine (HI.out _).mono ?_
    rintro e w4 ⟨rfl, hB4⟩
    replace b00 := cell_keptA b00 hB4
    replace b01 := cell_keptA b01 hB4
    replace b02 := cell_keptA b02 hB4
    go_wp2
    go_ret
    exact ⟨rfl, (((((below1 _ _).andThen hB1).andThen hB2).andThen hB3).andThen hB4)⟩

end Go.Proofs.Ytmnnpfgmdojpmaa
