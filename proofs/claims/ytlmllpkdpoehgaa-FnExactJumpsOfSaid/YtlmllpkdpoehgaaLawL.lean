/-
  The walks of the laws whose result is a slice of lines.
-/
import Derived.Test.YtlmllpkdpoehgaaWalkO
import Derived.Test.YtlmllpkdpoehgaaWalkB
namespace Go.Proofs.Ytlmllpkdpoehgaa
open Go.RowKit
open Peg
set_option linter.unusedVariables false

theorem Below.markX {W w w' : World} {B n : Nat} {v : Value} {zs : List Int} (h : Below W.heap.size W w) (hr : RowX w B v n zs) (hB : W.heap.size ≤ B) (hg : w.grownBy w' v.ownBlock) : Below W.heap.size W w' :=
  h.grown hg h.size (fun k hk => by have := (hr.lt k hk).1; omega)
theorem RowX.apart {w0 w1 w2 : World} {B B' n m : Nat} {a b : Value} {xs ys : List Int} (h : RowX w0 B a n xs) (hr : RowX w1 B a n xs) (k : RowX w1 B' b m ys) (hB : w0.heap.size ≤ B') (hg : w1.grownBy w2 b.ownBlock) : RowX w2 B a n xs :=
  hr.keptBut hg (fun i hi e => by have h1 := (h.lt i hi).2; have h2 := (k.lt i e.symm).1; omega)
theorem box_apartX {n : Nat} {w : World} {B m : Nat} {v : Value} {xs : List Int} (h : RowX w B v m xs) (hB : n < B) : some n ≠ v.ownBlock := fun e => by
  have := (h.lt n e.symm).1; omega

set_option maxHeartbeats 800000 in
theorem walkFnExactLinesOf (a h s : Int) (wa : (Lit.int .i64 a).wf = true) (wh : (Lit.int .i64 h).wf = true) (ws : (Lit.int .i64 s).wf = true) (w : World) :
    Calls Try.prog 15 #[.agg #[.int .i64 a, .int .i64 h, .int .i64 s]] w fun e w' => e = .returned (.bool true) ∧ Below w.heap.size w w' := by
  clear wa wh ws
  have hlen : (linesL a h s).length ≤ 1152921504606846976 := by have := linesL_short a h s; omega
  generalize hx : linesL a h s = xs at hlen
  have HX := Lib.hid hx
  clear hx
  have hL := Lib.hid hlen
  clear hlen
  go_enter Try.func15, Try.ntmps15
  have X0 := BoxAt.new w a h s 23
  have hBel0 := Lib.hid (below1 w (.cells #[.int .i64 a, .int .i64 h, .int .i64 s] 23))
  go_wp2_with fail
  refine (toBoard_any _ _ _ _).mono ?_
  rintro e w1 ⟨rfl, hB1⟩
  have X1 := X0.below hB1
  have hBel1 := Lib.hid (hBel0.out.andThen hB1)
  clear X0 hBel0 hB1
  go_wp2_with fail
  refine (specLinesOf_any _ _ _ _).mono ?_
  rintro e w2 hr
  obtain ⟨v0, rfl, hr0, hB2⟩ := hr
  rw [HX.out] at hr0
  have X2 := X1.below hB2
  have hBel2 := Lib.hid (hBel1.out.andThen hB2)
  clear X1 hBel1 hB2
  obtain ⟨b0, b1, b2, bz⟩ := X2
  go_wp2_with fail
  refine (toBoard_any _ _ _ _).mono ?_
  rintro e w3 ⟨rfl, hB3⟩
  have X3 := (BoxAt.mk b0 b1 b2 bz).below hB3
  have hr03 := hr0.kept hB3
  have hBel3 := Lib.hid (hBel2.out.andThen hB3)
  have hs3 := hB3.size
  clear hBel2 hB3 b0 b1 b2 bz
  go_wp2_with fail
  refine (LinesOf_any _ _ _ _).mono ?_
  rintro e w4 hr
  obtain ⟨v1, rfl, hr1, hB4⟩ := hr
  rw [HX.out] at hr1
  have hs4 := hB4.size
  have X4 := X3.below hB4
  have hr04 := hr03.kept hB4
  have hBel4 := Lib.hid (hBel3.out.andThen hB4)
  clear hB4
  go_wp2_with fail
  refine (eqLineS_same xs v1 v0 _ _ _ hL.out hr1 hr04).mono ?_
  rintro e w5 ⟨rfl, hB5⟩
  have X5 := X4.below hB5
  have hr05 := hr04.kept hB5
  have hr15 := hr1.kept hB5
  have hBel5 := Lib.hid (hBel4.out.andThen hB5)
  clear hB5 hBel4
  go_wp2_with fail
  refine (markL1 v1 _ xs _ hL.out hr15).mono ?_
  rintro e w6 ⟨rfl, hr16, hg6⟩
  have hne := box_apartX hr15 X3.sz
  have X6 := X5.grown hg6 hne
  have hr06 : RowL w6 _ v0 xs := RowX.apart hr0 hr05 hr15 hs3 hg6
  have hBel6 := Lib.hid (Below.markX hBel5.out hr15 hBel3.out.size hg6)
  clear hg6 X5 hne hr05 hr15 hBel5 hBel3 hr03 X3 hr04 X4 hr1
  go_wp2_with fail
  refine (heldL1 v1 _ _ _ hL.out hr16).mono ?_
  rintro e w7 ⟨rfl, hw7⟩
  subst w7
  obtain ⟨b0, b1, b2, bz⟩ := X6
  go_wp2_with fail
  refine (toBoard_any _ _ _ _).mono ?_
  rintro e w8 ⟨rfl, hB8⟩
  have X8 := (BoxAt.mk b0 b1 b2 bz).below hB8
  have hr08 := hr06.kept hB8
  have hr18 := hr16.kept hB8
  have hBel8 := Lib.hid (hBel6.out.andThen hB8)
  clear hBel6 hB8 b0 b1 b2 bz hr16 hr06
  go_wp2_with fail
  refine (LinesOf_any _ _ _ _).mono ?_
  rintro e w9 hr
  obtain ⟨v2, rfl, hr2, hB9⟩ := hr
  rw [HX.out] at hr2
  have hr09 := hr08.kept hB9
  have hr19 := hr18.kept hB9
  have hBel9 := Lib.hid (hBel8.out.andThen hB9)
  clear hB9 hBel8 hr08 hr18 X8
  go_wp2_with fail
  refine (eqLineS_same xs v2 v0 _ _ _ hL.out hr2 hr09).mono ?_
  rintro e w10 ⟨rfl, hB10⟩
  have hr1A := hr19.kept hB10
  have hBelA := Lib.hid (hBel9.out.andThen hB10)
  clear hB10 hBel9 hr19 hr2 hr09
  go_wp2_with fail
  refine (heldL1 v1 _ _ _ hL.out hr1A).mono ?_
  rintro e w11 ⟨rfl, hw11⟩
  subst w11
  clear hr1A hr0
  go_wp2
  go_ret
  exact ⟨rfl, hBelA.out⟩

end Go.Proofs.Ytlmllpkdpoehgaa
