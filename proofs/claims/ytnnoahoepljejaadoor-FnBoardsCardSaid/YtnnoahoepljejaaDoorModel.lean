/-
  What the functions on boards and positions compute, as plain functions on numbers. No program in sight.
-/
import Derived.Test.YtnnoahoepljejaaDoorBits
namespace Go.Proofs.YtnnoahoepljejaaDoor.Peg
open Go.Proofs.YtnnoahoepljejaaDoor.Bit

/-- A valid board. -/
structure Ok (W H S : Nat) : Prop where
  w1 : 1 ≤ W
  w7 : W ≤ 7
  h1 : 1 ≤ H
  h7 : H ≤ 7
  s1 : 1 ≤ S
  s2 : S < 2 ^ (W * H)

theorem area_le {a b : Nat} (h : a ≤ 7) (k : b ≤ 7) : a * b ≤ 49 := Nat.mul_le_mul h k
theorem area_pos {a b : Nat} (h : 1 ≤ a) (k : 1 ≤ b) : 1 ≤ a * b := Nat.mul_le_mul h k

theorem Ok.area {W H S : Nat} (h : Ok W H S) : 1 ≤ W * H ∧ W * H ≤ 49 := ⟨area_pos h.w1 h.h1, area_le h.w7 h.h7⟩
theorem Ok.lt {W H S : Nat} (h : Ok W H S) : S < 2 ^ 49 := Nat.lt_of_lt_of_le h.s2 (Nat.pow_le_pow_right (by decide) h.area.2)

theorem Ok.lt63 {W H S : Nat} (h : Ok W H S) : S < 2 ^ 63 := Nat.lt_trans h.lt (by decide)

def bOk (w h s : Int) : Bool := decide (1 ≤ w ∧ w ≤ 7 ∧ 1 ≤ h ∧ h ≤ 7 ∧ 1 ≤ s ∧ s < 2 ^ (w * h).toNat)

theorem bOk_iff (w h s : Int) : bOk w h s = true ↔ ∃ W H S : Nat, w = W ∧ h = H ∧ s = S ∧ Ok W H S := by
  unfold bOk
  rw [decide_eq_true_eq]
  constructor
  · rintro ⟨h1, h2, h3, h4, h5, h6⟩
    obtain ⟨W, rfl⟩ := Int.eq_ofNat_of_zero_le (show 0 ≤ w by omega)
    obtain ⟨H, rfl⟩ := Int.eq_ofNat_of_zero_le (show 0 ≤ h by omega)
    obtain ⟨S, rfl⟩ := Int.eq_ofNat_of_zero_le (show 0 ≤ s by omega)
    refine ⟨W, H, S, rfl, rfl, rfl, by omega, by omega, by omega, by omega, by omega, ?_⟩
    have e : ((W : Int) * (H : Int)).toNat = W * H := by rw [← Int.natCast_mul, Int.toNat_natCast]
    rw [e] at h6
    exact_mod_cast h6
  · rintro ⟨W, H, S, rfl, rfl, rfl, h1, h2, h3, h4, h5, h6⟩
    have e : ((W : Int) * (H : Int)).toNat = W * H := by rw [← Int.natCast_mul, Int.toNat_natCast]
    rw [e]
    exact ⟨by omega, by omega, by omega, by omega, by omega, by exact_mod_cast h6⟩

theorem bOk_of {W H S : Nat} (h : Ok W H S) : bOk W H S = true := (bOk_iff _ _ _).2 ⟨W, H, S, rfl, rfl, rfl, h⟩

def inB (n l h : Int) : Bool := decide (l ≤ n) && decide (n ≤ h)

def hasB (w h s k : Int) : Bool := bOk w h s && (inB k 0 (w * h - 1) && s.toNat.testBit k.toNat)
theorem hasB_iff {W H S : Nat} (ok : Ok W H S) (k : Int) : hasB W H S k = true ↔ ∃ K : Nat, k = K ∧ K < W * H ∧ S.testBit K = true := by
  unfold hasB inB
  rw [bOk_of ok]
  simp only [Bool.true_and, Bool.and_eq_true, decide_eq_true_eq, Int.toNat_natCast]
  have e : ((W : Int) * (H : Int)) = ((W * H : Nat) : Int) := (Int.natCast_mul _ _).symm
  rw [e]
  constructor
  · rintro ⟨⟨h1, h2⟩, h3⟩
    exact ⟨k.toNat, by omega, by omega, h3⟩
  · rintro ⟨K, rfl, h1, h2⟩
    exact ⟨⟨by omega, by omega⟩, by simpa using h2⟩

def pOk (w h s p : Int) : Bool := bOk w h s && (decide (0 ≤ p) && (p.toNat &&& s.toNat == p.toNat))
theorem pOk_iff {W H S : Nat} (ok : Ok W H S) (p : Int) : pOk W H S p = true ↔ ∃ P : Nat, p = P ∧ P &&& S = P := by
  unfold pOk
  rw [bOk_of ok]
  simp only [Bool.true_and, Bool.and_eq_true, decide_eq_true_eq, Int.toNat_natCast, beq_iff_eq]
  constructor
  · rintro ⟨h1, h2⟩; exact ⟨p.toNat, by omega, h2⟩
  · rintro ⟨P, rfl, h⟩; exact ⟨by omega, by simpa using h⟩
theorem sub_le {P S : Nat} (h : P &&& S = P) : P ≤ S := by rw [← h]; exact Nat.and_le_right
end Go.Proofs.YtnnoahoepljejaaDoor.Peg
