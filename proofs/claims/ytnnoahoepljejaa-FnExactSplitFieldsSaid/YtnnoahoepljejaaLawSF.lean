/-
  The walk of the law SplitFields.
-/
import Derived.Test.YtnnoahoepljejaaSplit
namespace Go.Proofs.Ytnnoahoepljejaa
open Go.RowKit
set_option linter.unusedVariables false

theorem splR_len (s : ByteArray) : (splR s).1.length ≤ 601 := by
  unfold splR
  split
  · rename_i h
    have := (splitS_le s (s.size + 1)).2
    dsimp only; omega
  · exact Nat.zero_le _
theorem keptOffS {w w' : World} {B : Nat} {v u : Value} {xs : List ByteArray} (h : RowS w B v xs) (hg : w.grownBy w' u.ownBlock) (hne : ∀ k m, v.ownBlock = some k → u.ownBlock = some m → k ≠ m) : RowS w' B v xs :=
  h.keptBut hg (fun k hk e => hne k k hk e.symm rfl)

set_option maxHeartbeats 800000 in
theorem walkFnExactSplitFields (s : ByteArray) (hs : s.size ≤ maxLen) (w : World) :
    Calls Try.prog 6 #[.string s] w fun e w' => e = .returned (.bool true) ∧ Below w.heap.size w w' := by
  by_cases hle : ¬ s.size ≤ 1048576
  · have h1 : (1048576 : Int) < (s.size : Int) := by omega
    go_enter Try.func6, Try.ntmps6
    go_wp2
    go_ret
    exact ⟨rfl, Below.refl _ _⟩
  have h1 : ¬ (1048576 : Int) < (s.size : Int) := by omega
  have hi := fun w => SplitFields_any s w
  have hp := fun w => specSplitFields_any s w
  have hlen := splR_len s
  unfold RetF at hi hp
  generalize (splR s).2 = b at hi hp
  generalize (splR s).1 = xs at hi hp hlen
  have HI := Lib.hid hi
  have HP := Lib.hid hp
  clear hi hp
  go_enter Try.func6, Try.ntmps6
  go_wp2_with fail
  refine (HP.out _).mono ?_
  rintro e w1 hr
  obtain ⟨v0, rfl, r0, hB1⟩ := hr
  have t0 := r0.lt
  have z1 := hB1.size
  have hBel := Lib.hid hB1
  clear hB1
  go_wp2_with fail
  refine (HI.out _).mono ?_
  rintro e w2 hr
  obtain ⟨v1, rfl, r1, hB2⟩ := hr
  have t1 := r1.lt
  have z2 := hB2.size
  replace r0 := r0.kept hB2
  replace hBel := Lib.hid (hBel.out.andThen hB2)
  clear hB2
  go_wp2_with fail
  refine (eqStringS_same xs v1 v0 _ _ _ r1 r0).mono ?_
  rintro e w3 ⟨rfl, hB3⟩
  have z3 := hB3.size
  replace r0 := r0.kept hB3
  replace r1 := r1.kept hB3
  replace hBel := Lib.hid (hBel.out.andThen hB3)
  clear hB3
  go_wp2_with fail
  refine (markS1 v1 _ xs _ (by omega) r1).mono ?_
  rintro e w4 ⟨rfl, r1m, hg⟩
  have z4 := hg.size
  have r0m := keptOffS r0 hg (fun k m hk hm e => by have := t0 k hk; have := t1 m hm; omega)
  have hBel4 := Lib.hid (hBel.out.grown hg hBel.out.size (fun k hk => by have := t1 k hk; omega))
  clear hg r0 r1 hBel
  have r0 := r0m
  have r1 := r1m
  have hBel := hBel4
  clear r0m r1m hBel4
  go_wp2_with fail
  refine (heldS1 v1 _ _ _ (by omega) r1).mono ?_
  rintro e w5 ⟨rfl, hB5⟩
  replace r0 := r0.kept hB5
  replace r1 := r1.kept hB5
  replace hBel := Lib.hid (hBel.out.andThen hB5)
  have z5 := hB5.size
  clear hB5
  go_wp2_with fail
  refine (HI.out _).mono ?_
  rintro e w6 hr
  obtain ⟨v2, rfl, r2, hB6⟩ := hr
  replace r0 := r0.kept hB6
  replace r1 := r1.kept hB6
  replace hBel := Lib.hid (hBel.out.andThen hB6)
  clear hB6
  go_wp2_with fail
  refine (eqStringS_same xs v2 v0 _ _ _ r2 r0).mono ?_
  rintro e w7 ⟨rfl, hB7⟩
  replace r1 := r1.kept hB7
  replace hBel := Lib.hid (hBel.out.andThen hB7)
  clear hB7 r2 r0
  go_wp2_with fail
  refine (heldS1 v1 _ _ _ (by omega) r1).mono ?_
  rintro e w8 ⟨rfl, hB8⟩
  replace hBel := Lib.hid (hBel.out.andThen hB8)
  clear hB8 r1
  go_wp2
  go_ret
  exact ⟨rfl, hBel.out⟩
end Go.Proofs.Ytnnoahoepljejaa
