/-
  The law on positions, in plain terms. No program in sight.
-/
import Derived.Test.YtoipnooncnpndaaPos
namespace Go.Proofs.Ytoipnooncnpndaa
open Peg
open Go.RowKit
set_option linter.unusedVariables false

/-- How many of the first n bits are set. -/
def cnt (S n : Nat) : Nat := ((List.range n).filter S.testBit).length
theorem cnt_zero (S : Nat) : cnt S 0 = 0 := rfl
theorem cnt_yes {S n : Nat} (h : S.testBit n = true) : cnt S (n + 1) = cnt S n + 1 := by
  unfold cnt; rw [List.range_succ, List.filter_append]; simp [h]
theorem cnt_no {S n : Nat} (h : S.testBit n = false) : cnt S (n + 1) = cnt S n := by
  unfold cnt; rw [List.range_succ, List.filter_append]; simp [h]
theorem cnt_le (S n : Nat) : cnt S n ≤ n := by
  unfold cnt; exact Nat.le_trans (List.length_filter_le _ _) (by simp)
theorem cnt_bits (S n : Nat) : (bitsTo S n).length = cnt S n := by simp [bitsTo, cnt]
theorem cnt_holes {W H S : Nat} (ok : Ok W H S) : (holesL W H S).length = cnt S (W * H) := by rw [holesL_ok ok, cnt_bits]
theorem cnt_pegs {W H S P : Nat} (ok : Ok W H S) (h : P &&& S = P) : countP W H S P = (cnt P (W * H) : Nat) := by
  have hP : P < 2 ^ 49 := Nat.lt_of_le_of_lt (sub_le h) ok.lt
  have h2 : P < 2 ^ (W * H) := Nat.lt_of_le_of_lt (sub_le h) ok.s2
  have ha := ok.area
  have e : bitsTo P 49 = bitsTo P (W * H) := by rw [show 49 = W * H + (49 - W * H) from by omega, bitsTo_all P _ h2]
  rw [countP_ok ((pOk_iff ok _).2 ⟨P, rfl, h⟩), ← pc_bits P hP, e, cnt_bits]

theorem strOf_size (xs : List Int) : (strOfNums xs).size = xs.length := by simp [strOfNums, ByteArray.size]
theorem strOf_at (xs : List Int) (x : Nat) (hx : x < (strOfNums xs).size) (c : Nat) (hc : c < 256) (h : xs[x]? = some (c : Int)) : (strOfNums xs)[x].toNat = c := by
  have hx2 : x < xs.length := by rw [← strOf_size]; exact hx
  have e : xs[x] = (c : Int) := by rw [List.getElem?_eq_getElem hx2] at h; exact Option.some.inj h
  show ((strOfNums xs).data[x]'hx).toNat = c
  simp only [strOfNums, List.getElem_toArray, List.getElem_map, e, Int.toNat_natCast, UInt8.toNat_ofNat']
  omega

/-- A letter of the text. -/
def chrN (P S k : Nat) : Nat := if P.testBit k then 111 else if S.testBit k then 46 else 32
theorem chrP_nat (P S k : Nat) : chrP P S k = (chrN P S k : Nat) := by unfold chrP chrN; split <;> (try split) <;> rfl
theorem chrN_lt (P S k : Nat) : chrN P S k < 256 := by unfold chrN; split <;> (try split) <;> decide
theorem text_row {W H S P : Nat} (ok : Ok W H S) (h : P &&& S = P) (y : Nat) (hy : y < H) :
    ∃ s, (textR W H S P)[y]?.getD ByteArray.empty = s ∧ s.size = W ∧ ∀ x (hx : x < s.size), s[x].toNat = chrN P S (y * W + x) := by
  refine ⟨strOfNums (rowP P S W y W), ?_, ?_, ?_⟩
  · rw [textR_ok ok h]; unfold textP; rw [List.getElem?_map, List.getElem?_range hy]; rfl
  · rw [strOf_size, rowP_len]
  · intro x hx
    have hx2 : x < W := by rw [strOf_size, rowP_len] at hx; exact hx
    refine strOf_at _ x hx _ (chrN_lt _ _ _) ?_
    unfold rowP
    rw [List.getElem?_map, List.getElem?_range hx2, ← chrP_nat]; rfl
theorem text_len {W H S P : Nat} (ok : Ok W H S) (h : P &&& S = P) : (textR W H S P).length = H := by rw [textR_ok ok h, textP_len]

theorem chr_peg {P S k : Nat} (h : P.testBit k = true) : chrN P S k = 111 := by unfold chrN; rw [h]; rfl
theorem chr_dot {P S k : Nat} (h : P.testBit k = false) (h2 : S.testBit k = true) : chrN P S k = 46 := by unfold chrN; rw [h, h2]; rfl
theorem chr_gap {P S k : Nat} (h : P.testBit k = false) (h2 : S.testBit k = false) : chrN P S k = 32 := by unfold chrN; rw [h, h2]; rfl

/-- What putting and taking a peg comes to. -/
structure PegFit (W H S P K ON OFF : Nat) : Prop where
  on : P ||| 2 ^ K = ON
  off : Bit.diff P (2 ^ K) = OFF
  sum : ON = OFF + 2 ^ K
  ond : pOk W H S ON = true
  offd : pOk W H S OFF = true
  one : P = ON ∨ P = OFF
  on1 : ON.testBit K = true
  off1 : OFF.testBit K = false
  lt : ON < 2 ^ 49
theorem diff_sub {P S T : Nat} (h : P &&& S = P) : Bit.diff P T &&& S = Bit.diff P T := by
  apply Nat.eq_of_testBit_eq
  intro i
  have hi := congrArg (fun x => x.testBit i) h
  simp only [Nat.testBit_and, Bit.testBit_diff] at hi ⊢
  cases hp : P.testBit i
  · simp
  · rw [hp] at hi; simp at hi; simp [hi]
theorem pegFit {W H S P K : Nat} (ok : Ok W H S) (h : P &&& S = P) (hK : K ≤ 48) (hb : S.testBit K = true) : PegFit W H S P K (P ||| 2 ^ K) (Bit.diff P (2 ^ K)) := by
  have hP : P < 2 ^ 49 := Nat.lt_of_le_of_lt (sub_le h) ok.lt
  refine ⟨rfl, rfl, ?_, (pOk_iff ok _).2 ⟨_, rfl, or_sub h hb⟩, (pOk_iff ok _).2 ⟨_, rfl, diff_sub h⟩, ?_, by simp, by simp [Bit.testBit_diff], or_lt49 hP hK⟩
  · cases hp : P.testBit K
    · rw [Bit.or_two_pow_of_unset _ _ hp, Bit.diff_two_pow_of_unset _ _ hp]
    · rw [Bit.or_two_pow_of_set _ _ hp, Bit.diff_two_pow_of_set _ _ hp]
  · cases hp : P.testBit K
    · exact .inr (Bit.diff_two_pow_of_unset _ _ hp).symm
    · exact .inl (Bit.or_two_pow_of_set _ _ hp).symm
theorem single_sub {S K : Nat} (hb : S.testBit K = true) : 2 ^ K &&& S = 2 ^ K := by
  apply Nat.eq_of_testBit_eq
  intro i
  simp only [Nat.testBit_and, Nat.testBit_two_pow]
  by_cases hk : K = i
  · subst hk; simp [hb]
  · simp [hk]
theorem cnt_pow : ∀ n K, K < n → cnt (2 ^ K) n = 1
  | n + 1, K, h => by
    by_cases hk : K = n
    · subst hk
      rw [cnt_yes (by simp)]
      have : cnt (2 ^ K) K = 0 := by
        unfold cnt
        rw [List.filter_eq_nil_iff.2]; rfl
        intro i hi
        simp only [List.mem_range] at hi
        rw [Nat.testBit_two_pow]; simp; omega
      rw [this]
    · have h2 : (2 ^ K).testBit n = false := by rw [Nat.testBit_two_pow]; simp; omega
      rw [cnt_no h2]; exact cnt_pow n K (by omega)
theorem single_count {W H S K : Nat} (ok : Ok W H S) (hK : K < W * H) (hb : S.testBit K = true) : countP W H S (2 ^ K : Nat) = 1 := by
  rw [cnt_pegs ok (single_sub hb), cnt_pow _ _ hK]; rfl
end Go.Proofs.Ytoipnooncnpndaa
