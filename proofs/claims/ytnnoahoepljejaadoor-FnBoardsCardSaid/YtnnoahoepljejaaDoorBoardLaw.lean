/-
  The holes of a board: their sum, their order, their names. No program in sight.
-/
import Derived.Test.YtnnoahoepljejaaDoorPos
import Derived.Test.YtnnoahoepljejaaDoorHole
namespace Go.Proofs.YtnnoahoepljejaaDoor
open Go.RowKit
open Peg
set_option linter.unusedVariables false

def sumN (xs : List Int) (k : Nat) : Nat := ((xs.take k).map (fun x => 2 ^ x.toNat)).sum
theorem sumN_zero (xs : List Int) : sumN xs 0 = 0 := rfl
theorem sumN_step (xs : List Int) (k K : Nat) (h : xs[k]? = some (K : Int)) : sumN xs (k + 1) = sumN xs k + 2 ^ K := by
  unfold sumN
  rw [List.take_add_one, h, List.map_append, List.sum_append]
  simp
theorem sumN_all (S : Nat) : ∀ n, ((bitsTo S n).map (fun x => 2 ^ x.toNat)).sum = S % 2 ^ n
  | 0 => by rw [Nat.pow_zero, Nat.mod_one]; rfl
  | n + 1 => by
    have ih := sumN_all S n
    rw [Nat.mod_pow_succ]
    have ht := Nat.testBit_eq_decide_div_mod_eq (x := S) (i := n)
    cases hb : S.testBit n
    · rw [hb] at ht
      have : S / 2 ^ n % 2 = 0 := by have := of_decide_eq_false ht.symm; omega
      rw [bitsTo_no S n hb, ih, this]; simp
    · rw [hb] at ht
      have : S / 2 ^ n % 2 = 1 := of_decide_eq_true ht.symm
      rw [bitsTo_yes S n hb, List.map_append, List.sum_append, ih, this]; simp
theorem sumN_le (xs : List Int) (k : Nat) : sumN xs k ≤ sumN xs xs.length := by
  have h : xs.take k ++ xs.drop k = xs := List.take_append_drop k xs
  have e : sumN xs xs.length = (xs.map (fun x => 2 ^ x.toNat)).sum := by unfold sumN; rw [List.take_length]
  rw [e]
  conv => rhs; rw [← h]
  rw [List.map_append, List.sum_append]
  exact Nat.le_add_right _ _
theorem sumN_full {W H S : Nat} (ok : Ok W H S) : sumN (holesL W H S) (holesL W H S).length = S := by
  rw [holesL_ok ok]
  unfold sumN
  rw [List.take_length, ← bits49 ok, sumN_all, Nat.mod_eq_of_lt ok.lt]
theorem holes_up {W H S : Nat} (ok : Ok W H S) (j : Nat) (hj : j + 1 < (holesL W H S).length) {K K' : Nat} (h1 : (holesL W H S)[j + 1]? = some (K : Int)) (h2 : (holesL W H S)[j]? = some (K' : Int)) : K' < K := by
  rw [holesL_ok ok] at *
  have hp : (bitsTo S (W * H)).Pairwise (· < ·) := by
    unfold bitsTo
    rw [List.pairwise_map]
    exact (List.pairwise_lt_range.filter _).imp (fun h => by omega)
  have := List.pairwise_iff_getElem.1 hp j (j + 1) (by omega) hj (by omega)
  rw [List.getElem?_eq_getElem hj] at h1
  rw [List.getElem?_eq_getElem (by omega)] at h2
  have e1 := Option.some.inj h1
  have e2 := Option.some.inj h2
  omega
theorem itoa_dig (y : Nat) (h : y ≤ 6) : itoaB ((y : Int) + 1) = ⟨#[UInt8.ofNat (49 + y)]⟩ := by
  unfold itoaB Lib.itoa
  rw [if_neg (by omega), show ((y : Int) + 1).toNat = y + 1 from by omega, Lib.decDigits, dif_pos (by omega)]
  have : y = 0 ∨ y = 1 ∨ y = 2 ∨ y = 3 ∨ y = 4 ∨ y = 5 ∨ y = 6 := by omega
  rcases this with rfl | rfl | rfl | rfl | rfl | rfl | rfl <;> rfl
theorem hole_name {W H S K : Nat} (ok : Ok W H S) (hk : K < W * H) (hb : S.testBit K = true) : holeT W H S K = ⟨#[UInt8.ofNat (97 + K % W), UInt8.ofNat (49 + K / W)]⟩ ∧ K % W ≤ 6 ∧ K / W ≤ 6 := by
  obtain ⟨X, Y, m1, m2, _, _, hX6, hY6⟩ := mod_bdH ok hk
  have h1 : hasB W H S K = true := (hasB_iff ok K).2 ⟨K, rfl, hk, hb⟩
  rw [holeT_yes h1, m1, m2, itoa_dig Y hY6]
  exact ⟨rfl, hX6, hY6⟩
theorem name_two {W H S K : Nat} (ok : Ok W H S) (hk : K < W * H) (hb : S.testBit K = true) : (holeT W H S K).size = 2 := by
  rw [(hole_name ok hk hb).1]; rfl
theorem name_ne {W H S K K' : Nat} (ok : Ok W H S) (hk : K < W * H) (hb : S.testBit K = true) (hk' : K' < W * H) (hb' : S.testBit K' = true) (hne : K ≠ K') : holeT W H S K ≠ holeT W H S K' := by
  intro e
  obtain ⟨e1, x1, y1⟩ := hole_name ok hk hb
  obtain ⟨e2, x2, y2⟩ := hole_name ok hk' hb'
  rw [e1, e2] at e
  simp only [ByteArray.mk.injEq, Array.mk.injEq, List.cons.injEq, and_true] at e
  have f1 := congrArg UInt8.toNat e.1
  have f2 := congrArg UInt8.toNat e.2
  simp only [UInt8.toNat_ofNat'] at f1 f2
  have low : ∀ a b c : Nat, a ≤ 6 → b ≤ 6 → c ≤ 100 → (c + a) % 256 = (c + b) % 256 → a = b := by omega
  have g1 : K % W = K' % W := low _ _ 97 x1 x2 (by decide) f1
  have g2 : K / W = K' / W := low _ _ 49 y1 y2 (by decide) f2
  apply hne
  rw [← Nat.div_add_mod K W, ← Nat.div_add_mod K' W, g1, g2]
theorem rect_pc : ∀ W, W < 8 → ∀ H, H < 8 → 1 ≤ W → 1 ≤ H → Pop.pc 64 (2 ^ (W * H) - 1) = W * H := by decide +kernel
theorem rect_count (W H : Nat) (w1 : 1 ≤ W) (w7 : W ≤ 7) (h1 : 1 ≤ H) (h7 : H ≤ 7) : countH W H (2 ^ (W * H) - 1 : Nat) = W * H := by
  rw [countH_ok (Ok.full w1 w7 h1 h7)]; exact rect_pc W (by omega) H (by omega) w1 h1
theorem cross_pc : countH 7 7 (crossTo 49) = 33 := by decide +kernel
theorem holes_count {W H S : Nat} (ok : Ok W H S) : countH W H S = (holesL W H S).length := by
  rw [holesL_ok ok, countH_ok ok, ← bits49 ok, pc_bits S ok.lt]
theorem no_hole {W H S : Nat} (ok : Ok W H S) : hasB W H S ((W : Int) * (H : Int)) = false := by
  cases hb : hasB W H S ((W : Int) * (H : Int))
  · rfl
  · obtain ⟨K, e, hk, _⟩ := (hasB_iff ok _).1 hb
    rw [← Int.natCast_mul] at e
    omega
end Go.Proofs.YtnnoahoepljejaaDoor
