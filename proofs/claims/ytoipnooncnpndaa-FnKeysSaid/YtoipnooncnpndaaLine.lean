/-
  The lines of a board as plain functions on numbers. No program in sight.
-/
import Derived.Test.YtoipnooncnpndaaModel
namespace Go.Proofs.Ytoipnooncnpndaa.Peg

def dX : Nat → Int
  | 0 => 1
  | 2 => -1
  | _ => 0
def dY : Nat → Int
  | 1 => 1
  | 3 => -1
  | _ => 0

/-- The place beside k in a direction: its two coordinates. -/
def stepX (W k way : Nat) : Int := ((k % W : Nat) : Int) + dX way
def stepY (W k way : Nat) : Int := ((k / W : Nat) : Int) + dY way
/-- The hole beside the place k in a direction, or -1. -/
def stepF (W H S k way : Nat) : Int :=
  if inB (stepX W k way) 0 ((W : Int) - 1) && (inB (stepY W k way) 0 ((H : Int) - 1) && S.testBit (stepY W k way * W + stepX W k way).toNat) then stepY W k way * W + stepX W k way else -1
/-- The same with an int for the place: -1 where it is no hole. -/
def besideF (W H S : Nat) (k : Int) (way : Nat) : Int := if hasB W H S k then stepF W H S k.toNat way else -1

structure Ln where
  a : Int
  b : Int
  c : Int

def lineOf (W H S k way : Nat) : Option Ln :=
  let o := stepF W H S k way
  let t := besideF W H S o way
  if 0 ≤ t then some ⟨k, o, t⟩ else none
def linesAt (W H S k n : Nat) : List Ln := (List.range n).filterMap (lineOf W H S k)
theorem linesAt_succ (W H S k n : Nat) : linesAt W H S k (n + 1) = linesAt W H S k n ++ (lineOf W H S k n).toList := by
  unfold linesAt
  rw [List.range_succ, List.filterMap_append]
  cases h : lineOf W H S k n <;> simp [h]
theorem linesAt_le (W H S k n : Nat) : (linesAt W H S k n).length ≤ n := by
  unfold linesAt
  exact Nat.le_trans (List.length_filterMap_le _ _) (by simp)

/-- The holes as numbers. -/
def holesN (S n : Nat) : List Nat := (List.range n).filter S.testBit
def linesTo (W H S i : Nat) : List Ln := ((holesN S (W * H)).take i).flatMap fun k => linesAt W H S k 4
def linesF (W H S : Nat) : List Ln := (holesN S (W * H)).flatMap fun k => linesAt W H S k 4
theorem holesN_le (S n : Nat) : (holesN S n).length ≤ n := by
  unfold holesN
  exact Nat.le_trans (List.length_filter_le _ _) (by simp)
theorem holesN_mem {S n k : Nat} (h : k ∈ holesN S n) : k < n ∧ S.testBit k = true := by
  unfold holesN at h
  simpa using h
theorem linesTo_succ (W H S i : Nat) (h : i < (holesN S (W * H)).length) : linesTo W H S (i + 1) = linesTo W H S i ++ linesAt W H S ((holesN S (W * H))[i]) 4 := by
  unfold linesTo
  rw [List.take_succ_eq_append_getElem h, List.flatMap_append]
  simp
theorem linesTo_all (W H S : Nat) : linesTo W H S (holesN S (W * H)).length = linesF W H S := by
  unfold linesTo linesF; rw [List.take_length]
theorem linesTo_le (W H S i : Nat) : (linesTo W H S i).length ≤ 4 * i := by
  unfold linesTo
  generalize (holesN S (W * H)) = l
  induction l generalizing i with
  | nil => simp
  | cons k l ih =>
    cases i with
    | zero => simp
    | succ i =>
      have h1 := linesAt_le W H S k 4
      have h2 := ih i
      simp only [List.take_succ_cons, List.flatMap_cons, List.length_append]
      omega

theorem stepF_range {W H S k way : Nat} (h : 0 ≤ stepF W H S k way) :
    ∃ X Y : Nat, stepX W k way = X ∧ stepY W k way = Y ∧ X < W ∧ Y < H ∧ S.testBit (Y * W + X) = true ∧ stepF W H S k way = ((Y * W + X : Nat) : Int) := by
  unfold stepF at h ⊢
  split at h
  · rename_i hc
    simp only [Bool.and_eq_true, inB, decide_eq_true_eq] at hc
    obtain ⟨⟨hx0, hx1⟩, ⟨hy0, hy1⟩, hb⟩ := hc
    obtain ⟨X, hX⟩ := Int.eq_ofNat_of_zero_le hx0
    obtain ⟨Y, hY⟩ := Int.eq_ofNat_of_zero_le hy0
    rw [hX, hY] at hb ⊢
    have e : ((Y : Int) * (W : Int) + (X : Int)) = ((Y * W + X : Nat) : Int) := by simp
    rw [e, Int.toNat_natCast] at hb
    refine ⟨X, Y, rfl, rfl, by omega, by omega, hb, ?_⟩
    rw [if_pos, e]
    simp only [Bool.and_eq_true, inB, decide_eq_true_eq]
    exact ⟨⟨by omega, by omega⟩, ⟨by omega, by omega⟩, by rw [e, Int.toNat_natCast]; exact hb⟩
  · omega

theorem cell_lt {W H X Y : Nat} (hx : X < W) (hy : Y < H) : Y * W + X < W * H := by
  have h : (Y + 1) * W ≤ H * W := Nat.mul_le_mul_right W hy
  rw [Nat.add_mul, Nat.one_mul] at h
  have e : H * W = W * H := Nat.mul_comm H W
  omega

theorem stepF_hole {W H S k way : Nat} (ok : Ok W H S) (h : 0 ≤ stepF W H S k way) : hasB W H S (stepF W H S k way) = true := by
  obtain ⟨X, Y, _, _, hx, hy, hb, e⟩ := stepF_range h
  rw [e]
  exact (hasB_iff ok _).2 ⟨_, rfl, cell_lt hx hy, hb⟩
/-- What the reference computes: the second step only where the first leads to a hole. -/
theorem beside_step {W H S k way : Nat} (ok : Ok W H S) (h : 0 ≤ stepF W H S k way) : besideF W H S (stepF W H S k way) way = stepF W H S (stepF W H S k way).toNat way := by
  unfold besideF; rw [stepF_hole ok h]; rfl
theorem beside_neg {W H S way : Nat} {o : Int} (h : o < 0) : besideF W H S o way = -1 := by
  unfold besideF hasB inB
  have : decide (0 ≤ o) = false := by simp; omega
  rw [this]; simp
end Go.Proofs.Ytoipnooncnpndaa.Peg
