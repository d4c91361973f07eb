/-
  The walk of the law EncodeHex.
-/
import Derived.Test.YtnnoahoepljejaaWalkE
namespace Go.Proofs.Ytnnoahoepljejaa
open Go.RowKit
set_option linter.unusedVariables false

theorem EncodeHex_both (s : ByteArray) : ∃ (t : ByteArray) (b : Bool), (∀ w, Calls Try.prog 8 #[.string s] w fun e w' => e = .returned (.tuple #[.string t, .bool b]) ∧ Below w.heap.size w w') ∧
    (∀ w, Calls Try.prog 7 #[.string s] w fun e w' => e = .returned (.tuple #[.string t, .bool b]) ∧ Below w.heap.size w w') := by
  by_cases h : s.size ≤ 20000
  · exact ⟨_, _, EncodeHex_yes s h, specEncodeHex_yes s h⟩
  · exact ⟨_, _, EncodeHex_no s h, specEncodeHex_no s h⟩

set_option maxHeartbeats 400000 in
theorem walkFnExactEncodeHex (s : ByteArray) (hs : s.size ≤ maxLen) (w : World) :
    Calls Try.prog 3 #[.string s] w fun e w' => e = .returned (.bool true) ∧ Below w.heap.size w w' := by
  obtain ⟨t, b, hi, hp⟩ := EncodeHex_both s
  have HI := Lib.hid hi
  have HP := Lib.hid hp
  clear hi hp
  by_cases hle : s.size ≤ 1048576
  · have h1 : ¬ (1048576 : Int) < (s.size : Int) := by omega
    go_enter Try.func3, Try.ntmps3
    go_wp2_with fail
    refine (HP.out _).mono ?_
    rintro e w1 ⟨rfl, hB1⟩
    go_wp2_with fail
    refine (HI.out _).mono ?_
    rintro e w2 ⟨rfl, hB2⟩
    go_wp2
    go_ret
    exact ⟨rfl, hB1.andThen hB2⟩
  · have h1 : (1048576 : Int) < (s.size : Int) := by omega
    go_enter Try.func3, Try.ntmps3
    go_wp2
    go_ret
    exact ⟨rfl, Below.refl _ _⟩
end Go.Proofs.Ytnnoahoepljejaa
