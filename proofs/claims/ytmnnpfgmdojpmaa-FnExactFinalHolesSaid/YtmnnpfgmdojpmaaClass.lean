/-
  Classes and keys of a position on plain numbers. No program in sight.
-/
import Derived.Test.YtmnnpfgmdojpmaaLawI
import Derived.Test.YtmnnpfgmdojpmaaAcc
namespace Go.Proofs.Ytmnnpfgmdojpmaa
open Go.RowKit
open Peg
set_option linter.unusedVariables false

/-- The places of the bits of S below n. -/
def setN (S n : Nat) : List Nat := (List.range n).filter S.testBit
theorem bitsTo_setN (S n : Nat) : bitsTo S n = (setN S n).map (fun i : Nat => (i : Int)) := rfl
theorem setN_lt {S n k : Nat} (h : k ∈ setN S n) : k < n ∧ S.testBit k = true := by
  unfold setN at h; rw [List.mem_filter, List.mem_range] at h; exact h
theorem setN_len (S n : Nat) : (setN S n).length = (bitsTo S n).length := by rw [bitsTo_setN, List.length_map]
theorem setN_all (S n m : Nat) (h : S < 2 ^ n) : setN S (n + m) = setN S n := by
  induction m with
  | zero => rfl
  | succ m ih =>
    unfold setN at ih ⊢
    rw [← Nat.add_assoc, List.range_succ, List.filter_append, ih]
    have : S.testBit (n + m) = false := Nat.testBit_lt_two_pow (Nat.lt_of_lt_of_le h (Nat.pow_le_pow_right (by decide) (by omega)))
    simp [this]
/-- The holes with a peg are the bits of the position. -/
theorem setN_pegs {W H S P : Nat} (ok : Ok W H S) (hP : P &&& S = P) : (setN S (W * H)).filter P.testBit = setN P 49 := by
  have := ok.area
  have hPlt : P < 2 ^ (W * H) := Nat.lt_of_le_of_lt (sub_le hP) ok.s2
  rw [show 49 = W * H + (49 - W * H) from by omega, setN_all P _ _ hPlt]
  unfold setN
  rw [List.filter_filter]
  congr 1
  funext k
  have h := congrArg (fun x => x.testBit k) hP
  simp only [Nat.testBit_and] at h
  cases h1 : P.testBit k
  · simp
  · rw [h1] at h; simp at h; simp [h]

/-- One number turned over. -/
def tog (xs : List Int) (i : Nat) : List Int := xs.set i (1 - xs[i]?.getD 0)
def Bin (xs : List Int) : Prop := xs.length = 6 ∧ ∀ i, i < 6 → xs[i]?.getD 0 = 0 ∨ xs[i]?.getD 0 = 1
theorem Bin.tog {xs : List Int} (h : Bin xs) (i : Nat) (hi : i < 6) : Bin (tog xs i) := by
  refine ⟨by unfold Go.Proofs.Ytmnnpfgmdojpmaa.tog; rw [List.length_set]; exact h.1, fun j hj => ?_⟩
  unfold Go.Proofs.Ytmnnpfgmdojpmaa.tog
  rw [List.getElem?_set]
  by_cases e : i = j
  · subst e
    rw [if_pos rfl, h.1, if_pos hj]
    have := h.2 i hj
    simp only [Option.getD_some]
    omega
  · rw [if_neg e]; exact h.2 j hj
def zero6 : List Int := [0, 0, 0, 0, 0, 0]
theorem bin_zero : Bin zero6 := ⟨rfl, by decide⟩
/-- A peg of hole k turns over one number of each half. -/
def clsStep (W : Nat) (xs : List Int) (k : Nat) : List Int := tog (tog xs ((k % W + k / W) % 3)) (3 + (k % W + 2 * (k / W)) % 3)
theorem Bin.step {xs : List Int} (h : Bin xs) (W k : Nat) : Bin (clsStep W xs k) := (h.tog _ (by omega)).tog _ (by omega)
def clsL (W : Nat) (ks : List Nat) : List Int := ks.foldl (clsStep W) zero6
theorem clsL_snoc (W : Nat) (ks : List Nat) (k : Nat) : clsL W (ks ++ [k]) = clsStep W (clsL W ks) k := by unfold clsL; rw [List.foldl_append]; rfl
theorem bin_fold (W : Nat) : ∀ (ks : List Nat) (xs : List Int), Bin xs → Bin (ks.foldl (clsStep W) xs)
  | [], xs, h => h
  | k :: ks, xs, h => bin_fold W ks _ (h.step W k)
theorem bin_cls (W : Nat) (ks : List Nat) : Bin (clsL W ks) := bin_fold W ks _ bin_zero
theorem cls_take {W : Nat} {ks : List Nat} {j k : Nat} (h : ks[j]? = some k) : clsL W (ks.take (j + 1)) = clsStep W (clsL W (ks.take j)) k := by
  rw [List.take_add_one, h]; exact clsL_snoc _ _ _
theorem cls_take_yes {W : Nat} {ks : List Nat} {f : Nat → Bool} {j k : Nat} (h : ks[j]? = some k) (hf : f k = true) : clsL W ((ks.take (j + 1)).filter f) = clsStep W (clsL W ((ks.take j).filter f)) k := by
  rw [List.take_add_one, h, List.filter_append]; simp [hf, clsL_snoc]
theorem cls_take_no {W : Nat} {ks : List Nat} {f : Nat → Bool} {j k : Nat} (h : ks[j]? = some k) (hf : f k = false) : clsL W ((ks.take (j + 1)).filter f) = clsL W ((ks.take j).filter f) := by
  rw [List.take_add_one, h, List.filter_append]; simp [hf]

/-- The class of a position, or nothing. -/
def classL (a h s p : Int) : List Int := if pOk a h s p then clsL a.toNat (setN p.toNat 49) else []
theorem classL_no {a h s p : Int} (h1 : pOk a h s p = false) : classL a h s p = [] := by unfold classL; rw [h1]; rfl
theorem classL_yes {W H S P : Nat} (h1 : pOk W H S P = true) : classL W H S P = clsL W (setN P 49) := by unfold classL; rw [h1]; rfl
theorem classL_bin {a h s p : Int} (h1 : pOk a h s p = true) : Bin (classL a h s p) := by unfold classL; rw [h1, if_pos rfl]; exact bin_cls _ _
def diff2 (x y : Int) : Int := if x = y then 0 else 1
def keyOf6 (c : List Int) : List Int := [diff2 (c[0]?.getD 0) (c[1]?.getD 0), diff2 (c[1]?.getD 0) (c[2]?.getD 0), diff2 (c[3]?.getD 0) (c[4]?.getD 0), diff2 (c[4]?.getD 0) (c[5]?.getD 0)]
def keyL (a h s p : Int) : List Int := if pOk a h s p then keyOf6 (classL a h s p) else []
theorem keyL_no {a h s p : Int} (h1 : pOk a h s p = false) : keyL a h s p = [] := by unfold keyL; rw [h1]; rfl
theorem keyL_yes {a h s p : Int} (h1 : pOk a h s p = true) : keyL a h s p = keyOf6 (classL a h s p) := by unfold keyL; rw [h1]; rfl
def keyNum (ks : List Int) : Int := ks[0]?.getD 0 + 2 * ks[1]?.getD 0 + 4 * ks[2]?.getD 0 + 8 * ks[3]?.getD 0
def keyN (a h s p : Int) : Int := if pOk a h s p then keyNum (keyL a h s p) else -1
theorem diff2_bin (x y : Int) : diff2 x y = 0 ∨ diff2 x y = 1 := by unfold diff2; split <;> simp
theorem keyL_bin {a h s p : Int} (h1 : pOk a h s p = true) : ∃ x y z u : Int, keyL a h s p = [x, y, z, u] ∧ (x = 0 ∨ x = 1) ∧ (y = 0 ∨ y = 1) ∧ (z = 0 ∨ z = 1) ∧ (u = 0 ∨ u = 1) := by
  rw [keyL_yes h1]
  exact ⟨_, _, _, _, rfl, diff2_bin _ _, diff2_bin _ _, diff2_bin _ _, diff2_bin _ _⟩
def sameK (a h s p q : Int) : Bool := pOk a h s p && (pOk a h s q && (keyL a h s p == keyL a h s q))
theorem sameK_num {a h s p q : Int} (h1 : pOk a h s p = true) (h2 : pOk a h s q = true) : (keyL a h s p == keyL a h s q) = (keyNum (keyL a h s p) == keyNum (keyL a h s q)) := by
  obtain ⟨x, y, z, u, e, hx, hy, hz, hu⟩ := keyL_bin h1
  obtain ⟨x', y', z', u', e', hx', hy', hz', hu'⟩ := keyL_bin h2
  rw [e, e']
  rcases hx with rfl | rfl <;> rcases hy with rfl | rfl <;> rcases hz with rfl | rfl <;> rcases hu with rfl | rfl <;> rcases hx' with rfl | rfl <;> rcases hy' with rfl | rfl <;> rcases hz' with rfl | rfl <;> rcases hu' with rfl | rfl <;> rfl
end Go.Proofs.Ytmnnpfgmdojpmaa
