/-
  Plain facts on 64-bit numbers and bits: what Go's operators on int give at numbers that are not negative. No program in sight.
-/
import Derived.Laws.BitsAllLaws
import Derived.Laws.BitsLemmas
import Derived.Laws.ShiftsVarLaws
namespace Go.Proofs.YtnnoahoepljejaaDoor.Bit
open Go

theorem i64_wrap (n : Int) (h0 : -9223372036854775808 ≤ n) (h1 : n < 9223372036854775808) : IntKind.i64.wrap n = n := by
  rw [IntKind.wrap_i64]; omega

theorem ofInt_i64 (a : Nat) (ha : a < 2 ^ 63) : (BitVec.ofInt 64 (a : Int)).toNat = a := ofInt_u64 a (by omega)

theorem i64_and (a b : Nat) (ha : a < 2 ^ 63) (hb : b < 2 ^ 63) : bits .and .i64 (a : Int) (b : Int) = ((a &&& b : Nat) : Int) := by
  have hx : a &&& b < 2 ^ 63 := Nat.and_lt_two_pow _ hb
  show IntKind.i64.wrap ((BitVec.ofInt 64 (a : Int) &&& BitVec.ofInt 64 (b : Int)).toNat : Int) = _
  rw [BitVec.toNat_and, ofInt_i64 a ha, ofInt_i64 b hb, i64_wrap _ (by omega) (by omega)]

theorem i64_or (a b : Nat) (ha : a < 2 ^ 63) (hb : b < 2 ^ 63) : bits .or .i64 (a : Int) (b : Int) = ((a ||| b : Nat) : Int) := by
  have hx : a ||| b < 2 ^ 63 := Nat.or_lt_two_pow ha hb
  show IntKind.i64.wrap ((BitVec.ofInt 64 (a : Int) ||| BitVec.ofInt 64 (b : Int)).toNat : Int) = _
  rw [BitVec.toNat_or, ofInt_i64 a ha, ofInt_i64 b hb, i64_wrap _ (by omega) (by omega)]

theorem i64_xor (a b : Nat) (ha : a < 2 ^ 63) (hb : b < 2 ^ 63) : bits .xor .i64 (a : Int) (b : Int) = ((a ^^^ b : Nat) : Int) := by
  have hx : a ^^^ b < 2 ^ 63 := Nat.xor_lt_two_pow ha hb
  show IntKind.i64.wrap ((BitVec.ofInt 64 (a : Int) ^^^ BitVec.ofInt 64 (b : Int)).toNat : Int) = _
  rw [BitVec.toNat_xor, ofInt_i64 a ha, ofInt_i64 b hb, i64_wrap _ (by omega) (by omega)]

/-- The bits of a that are not in b. -/
def diff (a b : Nat) : Nat := a ^^^ (a &&& b)
theorem testBit_diff (a b i : Nat) : (diff a b).testBit i = (a.testBit i && !b.testBit i) := by
  unfold diff
  rw [Nat.testBit_xor, Nat.testBit_and]
  cases a.testBit i <;> cases b.testBit i <;> rfl
theorem diff_le (a b : Nat) : diff a b ≤ a := Nat.le_of_testBit fun i h => by
  rw [testBit_diff] at h; simp at h; exact h.1

theorem i64_andNot (a b : Nat) (ha : a < 2 ^ 63) (hb : b < 2 ^ 63) : bits .andNot .i64 (a : Int) (b : Int) = ((diff a b : Nat) : Int) := by
  have hd := diff_le a b
  have e : (BitVec.ofInt 64 (a : Int) &&& ~~~BitVec.ofInt 64 (b : Int)).toNat = diff a b := by
    apply Nat.eq_of_testBit_eq
    intro i
    rw [testBit_diff, BitVec.testBit_toNat, BitVec.getLsbD_and, BitVec.getLsbD_not, ← BitVec.testBit_toNat, ← BitVec.testBit_toNat, ofInt_i64 a ha, ofInt_i64 b hb]
    by_cases hi : i < 64
    · simp [hi]
    · have : a.testBit i = false := Nat.testBit_lt_two_pow (Nat.lt_of_lt_of_le ha (Nat.pow_le_pow_right (by decide) (by omega)))
      simp [this]
  show IntKind.i64.wrap ((BitVec.ofInt 64 (a : Int) &&& ~~~BitVec.ofInt 64 (b : Int)).toNat : Int) = _
  rw [e, i64_wrap _ (by omega) (by omega)]

theorem diff_eq_zero (a b : Nat) : diff a b = 0 ↔ a &&& b = a := by
  constructor
  · intro h
    apply Nat.eq_of_testBit_eq
    intro i
    have := testBit_diff a b i
    rw [h, Nat.zero_testBit] at this
    rw [Nat.testBit_and]
    cases ha : a.testBit i <;> simp_all
  · intro h
    apply Nat.eq_of_testBit_eq
    intro i
    rw [testBit_diff, Nat.zero_testBit]
    have := congrArg (fun x => x.testBit i) h
    simp only [Nat.testBit_and] at this
    cases ha : a.testBit i <;> simp_all

theorem or_two_pow_of_unset : ∀ (k x : Nat), x.testBit k = false → x ||| 2 ^ k = x + 2 ^ k := by
  intro k
  induction k with
  | zero =>
    intro x h
    have h2 : x % 2 = 0 := Nat.mod_two_eq_zero_iff_testBit_zero.2 h
    have e : x ||| 1 = x + 1 := nat_join 1 x 1 (by omega) (by omega)
    simpa using e
  | succ k ih =>
    intro x h
    rw [Nat.testBit_add_one] at h
    have e := ih (x / 2) h
    have h1 : (x ||| 2 ^ (k + 1)) / 2 = x / 2 ||| 2 ^ k := by rw [Nat.or_div_two]; congr 1; omega
    have h2 : (x ||| 2 ^ (k + 1)) % 2 = x % 2 := by
      have := Nat.or_mod_two_pow (a := x) (b := 2 ^ (k + 1)) (n := 1)
      have h0 : 2 ^ (k + 1) % 2 ^ 1 = 0 := by rw [Nat.pow_succ]; omega
      rw [h0] at this
      simpa using this
    have h3 : 2 ^ (k + 1) = 2 * 2 ^ k := by rw [Nat.pow_succ]; omega
    omega

theorem diff_two_pow_of_set (k x : Nat) (h : x.testBit k = true) : diff x (2 ^ k) + 2 ^ k = x := by
  have hu : (diff x (2 ^ k)).testBit k = false := by rw [testBit_diff, Nat.testBit_two_pow_self]; simp
  rw [← or_two_pow_of_unset k _ hu]
  apply Nat.eq_of_testBit_eq
  intro i
  rw [Nat.testBit_or, testBit_diff, Nat.testBit_two_pow]
  by_cases hi : k = i
  · subst hi; simp [h]
  · simp [hi]

theorem diff_two_pow_of_unset (k x : Nat) (h : x.testBit k = false) : diff x (2 ^ k) = x := by
  apply Nat.eq_of_testBit_eq
  intro i
  rw [testBit_diff, Nat.testBit_two_pow]
  by_cases hi : k = i
  · subst hi; simp [h]
  · simp [hi]

theorem or_two_pow_of_set (k x : Nat) (h : x.testBit k = true) : x ||| 2 ^ k = x := by
  apply Nat.eq_of_testBit_eq
  intro i
  rw [Nat.testBit_or, Nat.testBit_two_pow]
  by_cases hi : k = i
  · subst hi; simp [h]
  · simp [hi]

theorem pow_lt_63 (k : Nat) (h : k ≤ 62) : 2 ^ k < 2 ^ 63 := Nat.pow_lt_pow_right (by decide) (by omega)
end Go.Proofs.YtnnoahoepljejaaDoor.Bit
