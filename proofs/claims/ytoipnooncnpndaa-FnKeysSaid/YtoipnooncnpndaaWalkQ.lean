/-
  The walks of jumps: jumpFrom, undoFrom, DoJump, UndoJump, CanJump, CanUndo.
-/
import Derived.Test.YtoipnooncnpndaaJump
import Derived.Test.YtoipnooncnpndaaWalkP
import Derived.Test.YtoipnooncnpndaaWalkB
namespace Go.Proofs.Ytoipnooncnpndaa
open Go.RowKit
open Peg
set_option linter.unusedVariables false

theorem jump_val (P A B C : Nat) (hP : P < 2 ^ 49) (ha : A ≤ 48) (hb : B ≤ 48) (hc : C ≤ 48) :
    bits BinOp.or IntKind.i64 (bits BinOp.andNot IntKind.i64 (bits BinOp.andNot IntKind.i64 (P : Int) (wrap64 (2 ^ A))) (wrap64 (2 ^ B))) (wrap64 (2 ^ C)) = ((jumpTo P A B C : Nat) : Int) := by
  have h1 : P < 2 ^ 63 := by omega
  have h2 := Bit.diff_le P (2 ^ A)
  have h3 := Bit.diff_le (Bit.diff P (2 ^ A)) (2 ^ B)
  rw [wrap_pow A (by omega), wrap_pow B (by omega), wrap_pow C (by omega), cast_pow, cast_pow, cast_pow, Bit.i64_andNot P _ h1 (pow48 A ha), Bit.i64_andNot _ _ (by omega) (pow48 B hb), Bit.i64_or _ _ (by omega) (pow48 C hc)]
  rfl
theorem undo_val (P A B C : Nat) (hP : P < 2 ^ 49) (ha : A ≤ 48) (hb : B ≤ 48) (hc : C ≤ 48) :
    bits BinOp.or IntKind.i64 (bits BinOp.or IntKind.i64 (bits BinOp.andNot IntKind.i64 (P : Int) (wrap64 (2 ^ C))) (wrap64 (2 ^ A))) (wrap64 (2 ^ B)) = ((undoTo P A B C : Nat) : Int) := by
  have h1 : P < 2 ^ 63 := by omega
  have h2 := Bit.diff_le P (2 ^ C)
  rw [wrap_pow A (by omega), wrap_pow B (by omega), wrap_pow C (by omega), cast_pow, cast_pow, cast_pow, Bit.i64_andNot P _ h1 (pow48 C hc), Bit.i64_or _ _ (by omega) (pow48 A ha), Bit.i64_or _ _ (Nat.or_lt_two_pow (by omega) (pow48 A ha)) (pow48 B hb)]
  rfl
theorem bits3_val (A B C : Nat) (ha : A ≤ 48) (hb : B ≤ 48) (hc : C ≤ 48) :
    bits BinOp.or IntKind.i64 (bits BinOp.or IntKind.i64 (wrap64 (2 ^ A)) (wrap64 (2 ^ B))) (wrap64 (2 ^ C)) = ((bits3 A B C : Nat) : Int) := by
  rw [wrap_pow A (by omega), wrap_pow B (by omega), wrap_pow C (by omega), cast_pow, cast_pow, cast_pow, Bit.i64_or _ _ (pow48 A ha) (pow48 B hb), Bit.i64_or _ _ (Nat.or_lt_two_pow (pow48 A ha) (pow48 B hb)) (pow48 C hc)]
  rfl

theorem jumpFrom_A (P A B C : Nat) (hP : P < 2 ^ 49) (ha : A ≤ 48) (hb : B ≤ 48) (hc : C ≤ 48) (h1 : P.testBit A = false) (w : World) :
    Calls Try.prog 72 #[.int .i64 P, .agg #[.int .i64 A, .int .i64 B, .int .i64 C]] w fun e w' => e = .returned (.tuple #[.int .i64 P, .bool false]) ∧ Below w.heap.size w w' := by
  have H1 := Lib.hid h1
  clear h1
  go_enter Try.func72, Try.ntmps72
  go_wp2_with fail
  refine (hasBit_c _ _ _ (by omega) (by omega) H1.out _).mono ?_
  rintro e wq ⟨rfl, hwq⟩
  subst wq
  go_wp2
  go_ret2
  exact ⟨rfl, below1 _ _⟩

theorem jumpFrom_B (P A B C : Nat) (hP : P < 2 ^ 49) (ha : A ≤ 48) (hb : B ≤ 48) (hc : C ≤ 48) (h1 : P.testBit A = true) (h2 : P.testBit B = false) (w : World) :
    Calls Try.prog 72 #[.int .i64 P, .agg #[.int .i64 A, .int .i64 B, .int .i64 C]] w fun e w' => e = .returned (.tuple #[.int .i64 P, .bool false]) ∧ Below w.heap.size w w' := by
  have H1 := Lib.hid h1
  clear h1
  have H2 := Lib.hid h2
  clear h2
  go_enter Try.func72, Try.ntmps72
  go_wp2_with fail
  refine (hasBit_c _ _ _ (by omega) (by omega) H1.out _).mono ?_
  rintro e wq ⟨rfl, hwq⟩
  subst wq
  go_wp2_with fail
  refine (hasBit_c _ _ _ (by omega) (by omega) H2.out _).mono ?_
  rintro e wq ⟨rfl, hwq⟩
  subst wq
  go_wp2
  go_ret2
  exact ⟨rfl, below1 _ _⟩

theorem jumpFrom_C (P A B C : Nat) (hP : P < 2 ^ 49) (ha : A ≤ 48) (hb : B ≤ 48) (hc : C ≤ 48) (h1 : P.testBit A = true) (h2 : P.testBit B = true) (h3 : P.testBit C = true) (w : World) :
    Calls Try.prog 72 #[.int .i64 P, .agg #[.int .i64 A, .int .i64 B, .int .i64 C]] w fun e w' => e = .returned (.tuple #[.int .i64 P, .bool false]) ∧ Below w.heap.size w w' := by
  have H1 := Lib.hid h1
  clear h1
  have H2 := Lib.hid h2
  clear h2
  have H3 := Lib.hid h3
  clear h3
  go_enter Try.func72, Try.ntmps72
  go_wp2_with fail
  refine (hasBit_c _ _ _ (by omega) (by omega) H1.out _).mono ?_
  rintro e wq ⟨rfl, hwq⟩
  subst wq
  go_wp2_with fail
  refine (hasBit_c _ _ _ (by omega) (by omega) H2.out _).mono ?_
  rintro e wq ⟨rfl, hwq⟩
  subst wq
  go_wp2_with fail
  refine (hasBit_c _ _ _ (by omega) (by omega) H3.out _).mono ?_
  rintro e wq ⟨rfl, hwq⟩
  subst wq
  go_wp2
  go_ret2
  exact ⟨rfl, below1 _ _⟩

theorem jumpFrom_yes (P A B C : Nat) (hP : P < 2 ^ 49) (ha : A ≤ 48) (hb : B ≤ 48) (hc : C ≤ 48) (h1 : P.testBit A = true) (h2 : P.testBit B = true) (h3 : P.testBit C = false) (w : World) :
    Calls Try.prog 72 #[.int .i64 P, .agg #[.int .i64 A, .int .i64 B, .int .i64 C]] w fun e w' => e = .returned (.tuple #[.int .i64 (jumpTo P A B C : Nat), .bool true]) ∧ Below w.heap.size w w' := by
  have H1 := Lib.hid h1
  clear h1
  have H2 := Lib.hid h2
  clear h2
  have H3 := Lib.hid h3
  clear h3
  go_enter Try.func72, Try.ntmps72
  go_wp2_with fail
  refine (hasBit_c _ _ _ (by omega) (by omega) H1.out _).mono ?_
  rintro e wq ⟨rfl, hwq⟩
  subst wq
  go_wp2_with fail
  refine (hasBit_c _ _ _ (by omega) (by omega) H2.out _).mono ?_
  rintro e wq ⟨rfl, hwq⟩
  subst wq
  go_wp2_with fail
  refine (hasBit_c _ _ _ (by omega) (by omega) H3.out _).mono ?_
  rintro e wq ⟨rfl, hwq⟩
  subst wq
  go_wp2
  go_quiet (fail)
  go_wp2
  go_ret2
  exact ⟨by rw [← jump_val P A B C hP ha hb hc]; rfl, below1N _ _ _⟩

theorem jumpFrom_any (P A B C : Nat) (hP : P < 2 ^ 49) (ha : A ≤ 48) (hb : B ≤ 48) (hc : C ≤ 48) (w : World) :
    Calls Try.prog 72 #[.int .i64 P, .agg #[.int .i64 A, .int .i64 B, .int .i64 C]] w fun e w' => e = .returned (.tuple #[.int .i64 (if canJ P A B C then ((jumpTo P A B C : Nat) : Int) else P), .bool (canJ P A B C)]) ∧ Below w.heap.size w w' := by
  unfold canJ
  cases h1 : P.testBit A <;> cases h2 : P.testBit B <;> cases h3 : P.testBit C
  all_goals first
    | exact jumpFrom_A P A B C hP ha hb hc h1 w
    | exact jumpFrom_B P A B C hP ha hb hc h1 h2 w
    | exact jumpFrom_C P A B C hP ha hb hc h1 h2 h3 w
    | exact jumpFrom_yes P A B C hP ha hb hc h1 h2 h3 w

theorem undoFrom_A (P A B C : Nat) (hP : P < 2 ^ 49) (ha : A ≤ 48) (hb : B ≤ 48) (hc : C ≤ 48) (h1 : P.testBit A = true) (w : World) :
    Calls Try.prog 73 #[.int .i64 P, .agg #[.int .i64 A, .int .i64 B, .int .i64 C]] w fun e w' => e = .returned (.tuple #[.int .i64 P, .bool false]) ∧ Below w.heap.size w w' := by
  have H1 := Lib.hid h1
  clear h1
  go_enter Try.func73, Try.ntmps73
  go_wp2_with fail
  refine (hasBit_c _ _ _ (by omega) (by omega) H1.out _).mono ?_
  rintro e wq ⟨rfl, hwq⟩
  subst wq
  go_wp2
  go_ret2
  exact ⟨rfl, below1 _ _⟩

theorem undoFrom_B (P A B C : Nat) (hP : P < 2 ^ 49) (ha : A ≤ 48) (hb : B ≤ 48) (hc : C ≤ 48) (h1 : P.testBit A = false) (h2 : P.testBit B = true) (w : World) :
    Calls Try.prog 73 #[.int .i64 P, .agg #[.int .i64 A, .int .i64 B, .int .i64 C]] w fun e w' => e = .returned (.tuple #[.int .i64 P, .bool false]) ∧ Below w.heap.size w w' := by
  have H1 := Lib.hid h1
  clear h1
  have H2 := Lib.hid h2
  clear h2
  go_enter Try.func73, Try.ntmps73
  go_wp2_with fail
  refine (hasBit_c _ _ _ (by omega) (by omega) H1.out _).mono ?_
  rintro e wq ⟨rfl, hwq⟩
  subst wq
  go_wp2_with fail
  refine (hasBit_c _ _ _ (by omega) (by omega) H2.out _).mono ?_
  rintro e wq ⟨rfl, hwq⟩
  subst wq
  go_wp2
  go_ret2
  exact ⟨rfl, below1 _ _⟩

theorem undoFrom_C (P A B C : Nat) (hP : P < 2 ^ 49) (ha : A ≤ 48) (hb : B ≤ 48) (hc : C ≤ 48) (h1 : P.testBit A = false) (h2 : P.testBit B = false) (h3 : P.testBit C = false) (w : World) :
    Calls Try.prog 73 #[.int .i64 P, .agg #[.int .i64 A, .int .i64 B, .int .i64 C]] w fun e w' => e = .returned (.tuple #[.int .i64 P, .bool false]) ∧ Below w.heap.size w w' := by
  have H1 := Lib.hid h1
  clear h1
  have H2 := Lib.hid h2
  clear h2
  have H3 := Lib.hid h3
  clear h3
  go_enter Try.func73, Try.ntmps73
  go_wp2_with fail
  refine (hasBit_c _ _ _ (by omega) (by omega) H1.out _).mono ?_
  rintro e wq ⟨rfl, hwq⟩
  subst wq
  go_wp2_with fail
  refine (hasBit_c _ _ _ (by omega) (by omega) H2.out _).mono ?_
  rintro e wq ⟨rfl, hwq⟩
  subst wq
  go_wp2_with fail
  refine (hasBit_c _ _ _ (by omega) (by omega) H3.out _).mono ?_
  rintro e wq ⟨rfl, hwq⟩
  subst wq
  go_wp2
  go_ret2
  exact ⟨rfl, below1 _ _⟩

theorem undoFrom_yes (P A B C : Nat) (hP : P < 2 ^ 49) (ha : A ≤ 48) (hb : B ≤ 48) (hc : C ≤ 48) (h1 : P.testBit A = false) (h2 : P.testBit B = false) (h3 : P.testBit C = true) (w : World) :
    Calls Try.prog 73 #[.int .i64 P, .agg #[.int .i64 A, .int .i64 B, .int .i64 C]] w fun e w' => e = .returned (.tuple #[.int .i64 (undoTo P A B C : Nat), .bool true]) ∧ Below w.heap.size w w' := by
  have H1 := Lib.hid h1
  clear h1
  have H2 := Lib.hid h2
  clear h2
  have H3 := Lib.hid h3
  clear h3
  go_enter Try.func73, Try.ntmps73
  go_wp2_with fail
  refine (hasBit_c _ _ _ (by omega) (by omega) H1.out _).mono ?_
  rintro e wq ⟨rfl, hwq⟩
  subst wq
  go_wp2_with fail
  refine (hasBit_c _ _ _ (by omega) (by omega) H2.out _).mono ?_
  rintro e wq ⟨rfl, hwq⟩
  subst wq
  go_wp2_with fail
  refine (hasBit_c _ _ _ (by omega) (by omega) H3.out _).mono ?_
  rintro e wq ⟨rfl, hwq⟩
  subst wq
  go_wp2
  go_quiet (fail)
  go_wp2
  go_ret2
  exact ⟨by rw [← undo_val P A B C hP ha hb hc]; rfl, below1N _ _ _⟩

theorem undoFrom_any (P A B C : Nat) (hP : P < 2 ^ 49) (ha : A ≤ 48) (hb : B ≤ 48) (hc : C ≤ 48) (w : World) :
    Calls Try.prog 73 #[.int .i64 P, .agg #[.int .i64 A, .int .i64 B, .int .i64 C]] w fun e w' => e = .returned (.tuple #[.int .i64 (if canU P A B C then ((undoTo P A B C : Nat) : Int) else P), .bool (canU P A B C)]) ∧ Below w.heap.size w w' := by
  unfold canU
  cases h1 : P.testBit A <;> cases h2 : P.testBit B <;> cases h3 : P.testBit C
  all_goals first
    | exact undoFrom_A P A B C hP ha hb hc h1 w
    | exact undoFrom_B P A B C hP ha hb hc h1 h2 w
    | exact undoFrom_C P A B C hP ha hb hc h1 h2 h3 w
    | exact undoFrom_yes P A B C hP ha hb hc h1 h2 h3 w

theorem l05Bits_any (A B C : Nat) (ha : A ≤ 48) (hb : B ≤ 48) (hc : C ≤ 48) (w : World) :
    Calls Try.prog 76 #[.agg #[.int .i64 A, .int .i64 B, .int .i64 C]] w fun e w' => e = .returned (.int .i64 (bits3 A B C : Nat)) ∧ Below w.heap.size w w' := by
  go_enter Try.func76, Try.ntmps76
  go_wp2
  go_quiet (fail)
  go_wp2
  go_ret
  exact ⟨by rw [← bits3_val A B C ha hb hc]; rfl, below1N _ _ _⟩

end Go.Proofs.Ytoipnooncnpndaa
