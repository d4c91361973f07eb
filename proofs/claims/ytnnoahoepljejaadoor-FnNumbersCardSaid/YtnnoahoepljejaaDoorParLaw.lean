/-
  Decimal text and back, in plain terms. No program in sight.
-/
import Derived.Test.YtnnoahoepljejaaDoorFmt
import Derived.Lib.AtoiTie
namespace Go.Proofs.YtnnoahoepljejaaDoor
open Go.RowKit
set_option linter.unusedVariables false

theorem digit_val (d : Nat) (h : d < 10) : Lib.digitVal (UInt8.ofNat (48 + d)) = some d := by
  have : d = 0 ∨ d = 1 ∨ d = 2 ∨ d = 3 ∨ d = 4 ∨ d = 5 ∨ d = 6 ∨ d = 7 ∨ d = 8 ∨ d = 9 := by omega
  rcases this with rfl | rfl | rfl | rfl | rfl | rfl | rfl | rfl | rfl | rfl <;> rfl
theorem decFrom_app (r : List UInt8) : ∀ (l : List UInt8) (acc : Nat), Lib.decFrom acc (l ++ r) = (Lib.decFrom acc l).bind (fun a => Lib.decFrom a r)
  | [], acc => rfl
  | b :: l, acc => by
    simp only [List.cons_append, Lib.decFrom]
    cases Lib.digitVal b with
    | none => rfl
    | some d => exact decFrom_app r l _
theorem decFrom_digits (u : Nat) : Lib.decFrom 0 (Lib.decDigits u) = some u := by
  induction u using Nat.strongRecOn with
  | ind u ih =>
    rw [Lib.decDigits]
    split
    · simp only [Lib.decFrom, digit_val u (by omega)]; simp
    · rw [decFrom_app, ih (u / 10) (by omega)]
      simp only [Option.bind_some, Lib.decFrom, digit_val (u % 10) (by omega)]
      congr 1; omega
theorem digits_ne (u : Nat) : Lib.decDigits u ≠ [] := by
  rw [Lib.decDigits]
  split
  · simp
  · simp
theorem itoa_inj {n : Int} {N : Nat} (h : itoaB n = itoaB N) : n = N := by
  have h1 : Lib.itoa n = Lib.itoa N := by
    unfold itoaB at h
    injection h with h
    simpa using h
  have h2 : Lib.itoa (N : Int) = Lib.decDigits N := by unfold Lib.itoa; rw [if_neg (by omega)]; simp
  by_cases hn : n < 0
  · exfalso
    have h3 := decFrom_digits N
    rw [← h2, ← h1] at h3
    unfold Lib.itoa at h3
    rw [if_pos hn] at h3
    simp only [Lib.decFrom] at h3
    exact absurd h3 (by simp [Lib.digitVal])
  · have h3 := decFrom_digits N
    rw [← h2, ← h1] at h3
    unfold Lib.itoa at h3
    rw [if_neg hn, decFrom_digits] at h3
    injection h3 with h3
    omega
theorem itoa_len {N : Nat} (h : N ≤ 1000000000) : (Lib.decDigits N).length ≤ 10 := by
  have hl : ∀ k u : Nat, u < 10 ^ (k + 1) → (Lib.decDigits u).length ≤ k + 1 := by
    intro k
    induction k with
    | zero => intro u hu; rw [Lib.decDigits, dif_pos (by omega)]; simp
    | succ k ih =>
      intro u hu
      rw [Lib.decDigits]
      split
      · simp
      · have := ih (u / 10) (by rw [Nat.pow_succ] at hu; omega)
        simp; omega
  exact hl 9 N (by omega)
/-- Whether s is the decimal text of a number up to 10^9. -/
def isPar (s : ByteArray) (N : Nat) : Prop := N ≤ 1000000000 ∧ s = itoaB N
theorem itoaB_nat (N : Nat) : itoaB N = ⟨(Lib.decDigits N).toArray⟩ := by
  unfold itoaB Lib.itoa; rw [if_neg (by omega)]; simp
theorem par_list {s : ByteArray} {N : Nat} (h : isPar s N) : s.data.toList = Lib.decDigits N := by
  rw [h.2, itoaB_nat]
theorem par_atoi {s : ByteArray} {N : Nat} (h : isPar s N) : Lib.atoiAll s.data.toList = .ok (N : Int) := by
  rw [par_list h, Lib.atoiAll_short _ (Nat.le_trans (itoa_len h.1) (by decide))]
  have hd := decFrom_digits N
  have hne := digits_ne N
  generalize Lib.decDigits N = l at hd hne
  cases l with
  | nil => exact absurd rfl hne
  | cons b r =>
    have hb : b ≠ 45 ∧ b ≠ 43 := by
      refine ⟨fun e => ?_, fun e => ?_⟩
      · subst e
        rw [show Lib.decFrom 0 (45 :: r) = none from rfl] at hd
        cases hd
      · subst e
        rw [show Lib.decFrom 0 (43 :: r) = none from rfl] at hd
        cases hd
    simp only [Lib.atoi, Lib.decNat]
    rw [if_neg (fun e => hb.1 (eq_of_beq e)), if_neg (fun e => hb.2 (eq_of_beq e)), show (b :: r).isEmpty = false from rfl, if_neg (by decide), hd]
    rfl
theorem par_size {s : ByteArray} {N : Nat} (h : isPar s N) : s.size ≤ 10 := by
  have : s.size = s.data.toList.length := by rw [Array.length_toList]; rfl
  rw [this, par_list h]; exact itoa_len h.1
end Go.Proofs.YtnnoahoepljejaaDoor
