/-
  Jumps on sets of bits: what the program's and the reference's operators come to. No program in sight.
-/
import Derived.Test.YtoipnooncnpndaaLine2
namespace Go.Proofs.Ytoipnooncnpndaa.Peg
open Go.Proofs.Ytoipnooncnpndaa.Bit

def bits3 (A B C : Nat) : Nat := 2 ^ A ||| 2 ^ B ||| 2 ^ C
def canJ (P A B C : Nat) : Bool := P.testBit A && (P.testBit B && !P.testBit C)
def canU (P A B C : Nat) : Bool := !P.testBit A && (!P.testBit B && P.testBit C)
def jumpTo (P A B C : Nat) : Nat := diff (diff P (2 ^ A)) (2 ^ B) ||| 2 ^ C
def undoTo (P A B C : Nat) : Nat := diff P (2 ^ C) ||| 2 ^ A ||| 2 ^ B

theorem bits3_lt {A B C : Nat} (ha : A ≤ 48) (hb : B ≤ 48) (hc : C ≤ 48) : bits3 A B C < 2 ^ 49 := by
  have h : ∀ k, k ≤ 48 → 2 ^ k < 2 ^ 49 := fun k hk => Nat.pow_lt_pow_right (by decide) (by omega)
  exact Nat.or_lt_two_pow (Nat.or_lt_two_pow (h A ha) (h B hb)) (h C hc)

theorem jump_iff {P A B C : Nat} (h1 : A ≠ B) (h2 : B ≠ C) (h3 : A ≠ C) : (P &&& bits3 A B C == 2 ^ A ||| 2 ^ B) = canJ P A B C := by
  rw [Bool.eq_iff_iff, beq_iff_eq]
  unfold canJ bits3
  simp only [Bool.and_eq_true, Bool.not_eq_true']
  constructor
  · intro h
    have t := fun i => congrArg (fun x => x.testBit i) h
    simp only [Nat.testBit_and, Nat.testBit_or, Nat.testBit_two_pow] at t
    have tA := t A
    have tB := t B
    have tC := t C
    simp only [h1, h2, h3, h1.symm, h2.symm, h3.symm, decide_true, decide_false, Bool.or_false, Bool.or_true, Bool.and_true] at tA tB tC
    exact ⟨tA, tB, tC⟩
  · rintro ⟨tA, tB, tC⟩
    apply Nat.eq_of_testBit_eq
    intro i
    simp only [Nat.testBit_and, Nat.testBit_or, Nat.testBit_two_pow]
    by_cases iA : A = i
    · subst iA; simp [tA]
    · by_cases iB : B = i
      · subst iB; simp [tB]
      · by_cases iC : C = i
        · subst iC; simp [tC, iA, iB]
        · simp [iA, iB, iC]
theorem undo_iff {P A B C : Nat} (h1 : A ≠ B) (h2 : B ≠ C) (h3 : A ≠ C) : (P &&& bits3 A B C == 2 ^ C) = canU P A B C := by
  rw [Bool.eq_iff_iff, beq_iff_eq]
  unfold canU bits3
  simp only [Bool.and_eq_true, Bool.not_eq_true']
  constructor
  · intro h
    have t := fun i => congrArg (fun x => x.testBit i) h
    simp only [Nat.testBit_and, Nat.testBit_or, Nat.testBit_two_pow] at t
    have tA := t A
    have tB := t B
    have tC := t C
    simp only [h1, h2, h3, h1.symm, h2.symm, h3.symm, decide_true, decide_false, Bool.or_false, Bool.or_true, Bool.and_true] at tA tB tC
    exact ⟨tA, tB, tC⟩
  · rintro ⟨tA, tB, tC⟩
    apply Nat.eq_of_testBit_eq
    intro i
    simp only [Nat.testBit_and, Nat.testBit_or, Nat.testBit_two_pow]
    by_cases iA : A = i
    · subst iA; simp [tA, h3.symm]
    · by_cases iB : B = i
      · subst iB; simp [tB, h2.symm]
      · by_cases iC : C = i
        · subst iC; simp [tC]
        · simp [iA, iB, iC]
theorem jump_eq {P A B C : Nat} (h : canJ P A B C = true) : P ^^^ bits3 A B C = jumpTo P A B C := by
  unfold canJ at h
  simp only [Bool.and_eq_true, Bool.not_eq_true'] at h
  obtain ⟨tA, tB, tC⟩ := h
  unfold bits3 jumpTo
  apply Nat.eq_of_testBit_eq
  intro i
  simp only [Nat.testBit_xor, Nat.testBit_or, Nat.testBit_two_pow, testBit_diff]
  by_cases iC : C = i
  · subst iC; simp [tC]
  · by_cases iA : A = i
    · subst iA; simp [tA, iC]
    · by_cases iB : B = i
      · subst iB; simp [tB, iC]
      · simp [iA, iB, iC]
theorem undo_eq {P A B C : Nat} (h : canU P A B C = true) : P ^^^ bits3 A B C = undoTo P A B C := by
  unfold canU at h
  simp only [Bool.and_eq_true, Bool.not_eq_true'] at h
  obtain ⟨tA, tB, tC⟩ := h
  unfold bits3 undoTo
  apply Nat.eq_of_testBit_eq
  intro i
  simp only [Nat.testBit_xor, Nat.testBit_or, Nat.testBit_two_pow, testBit_diff]
  by_cases iA : A = i
  · subst iA; simp [tA]
  · by_cases iB : B = i
    · subst iB; simp [tB]
    · by_cases iC : C = i
      · subst iC; simp [tC, iA, iB]
      · simp [iA, iB, iC]

/-- What a jump does to the bits, one by one. -/
theorem testBit_jumpTo (P A B C i : Nat) : (jumpTo P A B C).testBit i = ((P.testBit i && (!decide (A = i) && !decide (B = i))) || decide (C = i)) := by
  unfold jumpTo
  simp only [Nat.testBit_or, Nat.testBit_two_pow, testBit_diff]
  cases P.testBit i <;> cases decide (A = i) <;> cases decide (B = i) <;> rfl
theorem testBit_undoTo (P A B C i : Nat) : (undoTo P A B C).testBit i = (((P.testBit i && !decide (C = i)) || decide (A = i)) || decide (B = i)) := by
  unfold undoTo
  simp only [Nat.testBit_or, Nat.testBit_two_pow, testBit_diff]

/-- The position after the jump, if it can be played. -/
def jumpO (a h s p : Int) (ok : Bool) (la lb lc : Int) : Option Nat := if pOk a h s p && ok && canJ p.toNat la.toNat lb.toNat lc.toNat then some (jumpTo p.toNat la.toNat lb.toNat lc.toNat) else none
def undoO (a h s p : Int) (ok : Bool) (la lb lc : Int) : Option Nat := if pOk a h s p && ok && canU p.toNat la.toNat lb.toNat lc.toNat then some (undoTo p.toNat la.toNat lb.toNat lc.toNat) else none
def valO (o : Option Nat) (p : Int) : Int := match o with
  | some q => q
  | none => p
end Go.Proofs.Ytoipnooncnpndaa.Peg
