/-
  The walk of the law PositionText.
-/
import Derived.Test.YtoipnooncnpndaaWalkPU
namespace Go.Proofs.Ytoipnooncnpndaa
open Go.RowKit
open Peg
set_option linter.unusedVariables false

theorem keptOffT {w w' : World} {B : Nat} {v u : Value} {xs : List ByteArray} (h : RowS w B v xs) (hg : w.grownBy w' u.ownBlock) (hne : ∀ k m, v.ownBlock = some k → u.ownBlock = some m → k ≠ m) : RowS w' B v xs :=
  h.keptBut hg (fun k hk e => hne k k hk e.symm rfl)
theorem box_apartT {n : Nat} {w : World} {B : Nat} {v : Value} {xs : List ByteArray} (h : RowS w B v xs) (hB : n < B) : some n ≠ v.ownBlock := fun e => by
  have := (h.lt n e.symm).1; omega

set_option maxHeartbeats 800000 in
theorem walkFnExactPositionText (a h s : Int) (wa : (Lit.int .i64 a).wf = true) (wh : (Lit.int .i64 h).wf = true) (ws : (Lit.int .i64 s).wf = true) (p : Int) (wp : (Lit.int .i64 p).wf = true) (w : World) :
    Calls Try.prog 3 #[.agg #[.int .i64 a, .int .i64 h, .int .i64 s], .int .i64 p] w fun e w' => e = .returned (.bool true) ∧ Below w.heap.size w w' := by
  have hp := lt63 wp
  clear wa wh ws wp
  have hi := fun w => PositionText_any a h s p hp w
  have hq := fun w => specPositionText_any a h s p hp w
  have hlen := textR_short a h s p
  generalize textR a h s p = xs at hi hq hlen
  have HI := Lib.hid hi
  have HP := Lib.hid hq
  clear hi hq hp
  go_enter Try.func3, Try.ntmps3
  have X0 := BoxAt.new w a h s 23
  have hBel := Lib.hid (below1 w (.cells #[.int .i64 a, .int .i64 h, .int .i64 s] 23))
  go_wp2_with fail
  refine (toBoard_any _ _ _ _).mono ?_
  rintro e w1 ⟨rfl, hB1⟩
  have X1 := X0.below hB1
  replace hBel := Lib.hid (hBel.out.andThen hB1)
  clear X0 hB1
  go_wp2_with fail
  refine (HP.out _).mono ?_
  rintro e w2 hr
  obtain ⟨v0, rfl, r0, hB2⟩ := hr
  have X2 := X1.below hB2
  have t0 := r0.lt
  replace hBel := Lib.hid (hBel.out.andThen hB2)
  clear X1 hB2
  obtain ⟨b0, b1, b2, bz⟩ := X2
  go_wp2_with fail
  refine (toBoard_any _ _ _ _).mono ?_
  rintro e w3 ⟨rfl, hB3⟩
  have X3 := (BoxAt.mk b0 b1 b2 bz).below hB3
  have z3 := hB3.size
  replace r0 := r0.kept hB3
  replace hBel := Lib.hid (hBel.out.andThen hB3)
  clear hB3 b0 b1 b2 bz
  go_wp2_with fail
  refine (HI.out _).mono ?_
  rintro e w4 hr
  obtain ⟨v1, rfl, r1, hB4⟩ := hr
  have t1 := r1.lt
  have X4 := X3.below hB4
  have z4 := hB4.size
  have hne := box_apartT r1 X3.sz
  have hsz3 := hBel.out.size
  replace r0 := r0.kept hB4
  replace hBel := Lib.hid (hBel.out.andThen hB4)
  clear hB4 X3
  go_wp2_with fail
  refine (eqStringS_same xs v1 v0 _ _ _ r1 r0).mono ?_
  rintro e w5 ⟨rfl, hB5⟩
  have X5 := X4.below hB5
  have z5 := hB5.size
  replace r0 := r0.kept hB5
  replace r1 := r1.kept hB5
  replace hBel := Lib.hid (hBel.out.andThen hB5)
  clear hB5 X4
  go_wp2_with fail
  refine (markS1 v1 _ xs _ (by omega) r1).mono ?_
  rintro e w6 ⟨rfl, r1m, hg⟩
  have X6 := X5.grown hg hne
  have r0m := keptOffT r0 hg (fun k m hk hm e => by have := t0 k hk; have := t1 m hm; omega)
  have hBel6 := Lib.hid (hBel.out.grown hg hBel.out.size (fun k hk => by have := t1 k hk; omega))
  clear hg r0 r1 hBel X5 hne
  have r0 := r0m
  have r1 := r1m
  have hBel := hBel6
  clear r0m r1m hBel6
  go_wp2_with fail
  refine (heldS1 v1 _ _ _ (by omega) r1).mono ?_
  rintro e w7 ⟨rfl, hB7⟩
  have X7 := X6.below hB7
  replace r0 := r0.kept hB7
  replace r1 := r1.kept hB7
  replace hBel := Lib.hid (hBel.out.andThen hB7)
  clear hB7 X6
  obtain ⟨b0, b1, b2, bz⟩ := X7
  go_wp2_with fail
  refine (toBoard_any _ _ _ _).mono ?_
  rintro e w8 ⟨rfl, hB8⟩
  replace r0 := r0.kept hB8
  replace r1 := r1.kept hB8
  replace hBel := Lib.hid (hBel.out.andThen hB8)
  clear hB8 b0 b1 b2 bz
  go_wp2_with fail
  refine (HI.out _).mono ?_
  rintro e w9 hr
  obtain ⟨v2, rfl, r2, hB9⟩ := hr
  replace r0 := r0.kept hB9
  replace r1 := r1.kept hB9
  replace hBel := Lib.hid (hBel.out.andThen hB9)
  clear hB9
  go_wp2_with fail
  refine (eqStringS_same xs v2 v0 _ _ _ r2 r0).mono ?_
  rintro e w10 ⟨rfl, hB10⟩
  replace r1 := r1.kept hB10
  replace hBel := Lib.hid (hBel.out.andThen hB10)
  clear hB10 r2 r0
  go_wp2_with fail
  refine (heldS1 v1 _ _ _ (by omega) r1).mono ?_
  rintro e w11 ⟨rfl, hB11⟩
  replace hBel := Lib.hid (hBel.out.andThen hB11)
  clear hB11 r1
  go_wp2
  go_ret
  exact ⟨rfl, hBel.out⟩
end Go.Proofs.Ytoipnooncnpndaa
