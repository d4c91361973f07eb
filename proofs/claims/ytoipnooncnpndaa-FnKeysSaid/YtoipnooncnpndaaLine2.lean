/-
  What every line of a board is: three holes side by side. No program in sight.
-/
import Derived.Test.YtoipnooncnpndaaLine
namespace Go.Proofs.Ytoipnooncnpndaa.Peg
open Go.Proofs.Ytoipnooncnpndaa.Bit

theorem div_cell {W X Y : Nat} (hx : X < W) : (Y * W + X) / W = Y := by
  rw [Nat.mul_comm, Nat.mul_add_div (by omega), Nat.div_eq_of_lt hx, Nat.add_zero]
theorem mod_cell {W X Y : Nat} (hx : X < W) : (Y * W + X) % W = X := by
  rw [Nat.mul_comm, Nat.mul_add_mod, Nat.mod_eq_of_lt hx]

/-- A direction. -/
def Dir (dx dy : Int) : Prop := ((dx = 1 ∨ dx = -1) ∧ dy = 0) ∨ (dx = 0 ∧ (dy = 1 ∨ dy = -1))
theorem dir_of (way : Nat) (h : way < 4) : Dir (dX way) (dY way) := by
  match way, h with
  | 0, _ => exact .inl ⟨.inl rfl, rfl⟩
  | 1, _ => exact .inr ⟨rfl, .inl rfl⟩
  | 2, _ => exact .inl ⟨.inr rfl, rfl⟩
  | 3, _ => exact .inr ⟨rfl, .inr rfl⟩

structure IsLn (W H S A B C : Nat) (dx dy : Int) : Prop where
  a : A < W * H
  b : B < W * H
  c : C < W * H
  ha : S.testBit A = true
  hb : S.testBit B = true
  hc : S.testBit C = true
  dir : Dir dx dy
  bx : ((B % W : Nat) : Int) = (A % W : Nat) + dx
  b_y : ((B / W : Nat) : Int) = (A / W : Nat) + dy
  cx : ((C % W : Nat) : Int) = (B % W : Nat) + dx
  cy : ((C / W : Nat) : Int) = (B / W : Nat) + dy

theorem step_ln {W H S k way : Nat} (h : 0 ≤ stepF W H S k way) :
    ∃ B : Nat, stepF W H S k way = B ∧ B < W * H ∧ S.testBit B = true ∧ ((B % W : Nat) : Int) = (k % W : Nat) + dX way ∧ ((B / W : Nat) : Int) = (k / W : Nat) + dY way := by
  obtain ⟨X, Y, hX, hY, hx, hy, hb, e⟩ := stepF_range h
  refine ⟨Y * W + X, e, cell_lt hx hy, hb, ?_, ?_⟩
  · rw [mod_cell hx, ← hX]; rfl
  · rw [div_cell hx, ← hY]; rfl

theorem lineOf_form {W H S k way : Nat} (ok : Ok W H S) (hk : k < W * H) (hb : S.testBit k = true) (hw : way < 4) {l : Ln} (h : lineOf W H S k way = some l) :
    ∃ B C : Nat, l = ⟨k, B, C⟩ ∧ IsLn W H S k B C (dX way) (dY way) := by
  have h' : (if 0 ≤ besideF W H S (stepF W H S k way) way then some (Ln.mk k (stepF W H S k way) (besideF W H S (stepF W H S k way) way)) else none) = some l := h
  split at h'
  · rename_i ht
    have ho : 0 ≤ stepF W H S k way := by
      by_cases h0 : 0 ≤ stepF W H S k way
      · exact h0
      · rw [beside_neg (by omega)] at ht; omega
    rw [beside_step ok ho] at ht h'
    obtain ⟨B, hB, hB1, hB2, hBx, hBy⟩ := step_ln ho
    rw [hB, Int.toNat_natCast] at ht h'
    obtain ⟨C, hC, hC1, hC2, hCx, hCy⟩ := step_ln ht
    rw [hC] at h'
    simp only [Option.some.injEq] at h'
    exact ⟨B, C, h'.symm, hk, hB1, hC1, hb, hB2, hC2, dir_of way hw, hBx, hBy, hCx, hCy⟩
  · cases h'

theorem linesF_form {W H S : Nat} (ok : Ok W H S) {l : Ln} (h : l ∈ linesF W H S) : ∃ A B C : Nat, l = ⟨A, B, C⟩ ∧ ∃ dx dy : Int, IsLn W H S A B C dx dy := by
  unfold linesF at h
  rw [List.mem_flatMap] at h
  obtain ⟨k, hk, hl⟩ := h
  have hkm := holesN_mem hk
  unfold linesAt at hl
  rw [List.mem_filterMap] at hl
  obtain ⟨way, hw, hl⟩ := hl
  obtain ⟨B, C, e, hI⟩ := lineOf_form ok hkm.1 hkm.2 (by simpa using hw) hl
  exact ⟨k, B, C, e, _, _, hI⟩

theorem IsLn.distinct {W H S A B C : Nat} {dx dy : Int} (h : IsLn W H S A B C dx dy) : A ≠ B ∧ B ≠ C ∧ A ≠ C := by
  obtain ⟨_, _, _, _, _, _, hd, h1, h2, h3, h4⟩ := h
  refine ⟨?_, ?_, ?_⟩
  · rintro rfl; rcases hd with ⟨h | h, _⟩ | ⟨_, h | h⟩ <;> omega
  · rintro rfl; rcases hd with ⟨h | h, _⟩ | ⟨_, h | h⟩ <;> omega
  · rintro rfl; rcases hd with ⟨h | h, _⟩ | ⟨_, h | h⟩ <;> omega

theorem nat_eq_cell (W k : Nat) : k = k / W * W + k % W := by
  have := Nat.div_add_mod k W
  rw [Nat.mul_comm] at this; omega
theorem IsLn.mid {W H S A B C : Nat} {dx dy : Int} (h : IsLn W H S A B C dx dy) : A + C = 2 * B := by
  obtain ⟨_, _, _, _, _, _, _, h1, h2, h3, h4⟩ := h
  have eA := nat_eq_cell W A
  have eB := nat_eq_cell W B
  have eC := nat_eq_cell W C
  have hy : A / W + C / W = 2 * (B / W) := by omega
  have hx : A % W + C % W = 2 * (B % W) := by omega
  have hm : A / W * W + C / W * W = 2 * (B / W * W) := by rw [← Nat.add_mul, hy, Nat.mul_assoc]
  omega
theorem IsLn.turn {W H S A B C : Nat} {dx dy : Int} (h : IsLn W H S A B C dx dy) : IsLn W H S C B A (-dx) (-dy) := by
  obtain ⟨a, b, c, ha, hb, hc, hd, h1, h2, h3, h4⟩ := h
  refine ⟨c, b, a, hc, hb, ha, ?_, by omega, by omega, by omega, by omega⟩
  rcases hd with ⟨h | h, h'⟩ | ⟨h', h | h⟩
  · exact .inl ⟨.inr (by omega), by omega⟩
  · exact .inl ⟨.inl (by omega), by omega⟩
  · exact .inr ⟨by omega, .inr (by omega)⟩
  · exact .inr ⟨by omega, .inl (by omega)⟩

theorem IsLn.lt49 {W H S A B C : Nat} {dx dy : Int} (ok : Ok W H S) (h : IsLn W H S A B C dx dy) : A ≤ 48 ∧ B ≤ 48 ∧ C ≤ 48 := by
  have := ok.area; have := h.a; have := h.b; have := h.c; omega
end Go.Proofs.Ytoipnooncnpndaa.Peg
