/-
  The walks of the functions on boards and positions that make no slices: what each call returns.
-/
import Derived.Test.YtnnoahoepljejaaDoorRows
import Derived.Test.YtnnoahoepljejaaDoorModel
import Derived.Test.YtnnoahoepljejaaDoorBase
import Derived.WalkKit
import Derived.WalkSpells
import Derived.WalkLawsBesides
import Derived.Lib.Hide
import Derived.IntWalk
import Derived.BigQuiet
import Derived.Deep.QuietTactic
import Derived.Deep.RegionHeld3
import Derived.Deep.DeepCutAuto
import Derived.Lib.SmallJoins
namespace Go.Proofs.YtnnoahoepljejaaDoor
open Go.RowKit
open Peg

theorem within_any (n l h : Int) (w : World) :
    Calls Tryd.prog 40 #[.int .i64 n, .int .i64 l, .int .i64 h] w fun e w' => e = .returned (.bool (inB n l h)) ∧ w' = w := by
  unfold inB
  by_cases h1 : l ≤ n <;> by_cases h2 : n ≤ h
  all_goals
    go_enter Tryd.func40, Tryd.ntmps40
    go_wp2
    go_ret
    simp [h1, h2]

theorem l01In_any (n l h : Int) (w : World) :
    Calls Tryd.prog 39 #[.int .i64 n, .int .i64 l, .int .i64 h] w fun e w' => e = .returned (.bool (inB n l h)) ∧ w' = w := by
  unfold inB
  by_cases h1 : l ≤ n <;> by_cases h2 : n ≤ h
  all_goals
    go_enter Tryd.func39, Tryd.ntmps39
    go_wp2
    go_ret
    simp [h1, h2]

theorem bit_test (S K : Nat) (hS : S < 2 ^ 63) : (bits BinOp.and IntKind.i64 ((S : Int) / 2 ^ K) 1 == 1) = S.testBit K := by
  have e : ((S : Int) / 2 ^ K) = ((S / 2 ^ K : Nat) : Int) := by simp
  have h1 : S / 2 ^ K < 2 ^ 63 := Nat.lt_of_le_of_lt (Nat.div_le_self _ _) hS
  rw [e, show (1 : Int) = ((1 : Nat) : Int) from rfl, Bit.i64_and _ _ h1 (by decide), Nat.testBit_eq_decide_div_mod_eq, Nat.and_one_is_mod, Bool.eq_iff_iff]
  simp
  omega

theorem hasBit_any (S K : Nat) (hS : S < 2 ^ 63) (hK : K ≤ 62) (w : World) :
    Calls Tryd.prog 37 #[.int .i64 S, .int .i64 K] w fun e w' => e = .returned (.bool (S.testBit K)) ∧ w' = w := by
  go_enter Tryd.func37, Tryd.ntmps37
  go_wp2
  go_ret
  refine ⟨?_, rfl⟩
  rw [← bit_test S K hS]
  rfl

theorem hasBit_c (b : Bool) (S K : Nat) (hS : S < 2 ^ 63) (hK : K ≤ 62) (hb : S.testBit K = b) (w : World) :
    Calls Tryd.prog 37 #[.int .i64 S, .int .i64 K] w fun e w' => e = .returned (.bool b) ∧ w' = w := by
  subst hb; exact hasBit_any S K hS hK w

theorem within_b (b : Bool) (n l h : Int) (hb : inB n l h = b) (w : World) :
    Calls Tryd.prog 40 #[.int .i64 n, .int .i64 l, .int .i64 h] w fun e w' => e = .returned (.bool b) ∧ w' = w := by
  subst hb; exact within_any n l h w

theorem pow_le49 (n : Nat) (h : n ≤ 49) : (1 : Int) ≤ 2 ^ n ∧ (2 : Int) ^ n ≤ 562949953421312 := by
  have h1 : 2 ^ n ≤ 2 ^ 49 := Nat.pow_le_pow_right (by decide) h
  have h2 : 0 < 2 ^ n := Nat.two_pow_pos n
  have e : ((2 : Int) ^ n) = ((2 ^ n : Nat) : Int) := by simp
  rw [e]; omega
theorem wrap_full (n : Nat) (h : n ≤ 49) : wrap64 (wrap64 (2 ^ n) - 1) = 2 ^ n - 1 := by
  have := pow_le49 n h
  unfold wrap64; omega
theorem wrap_pow (n : Nat) (h : n ≤ 49) : wrap64 (2 ^ n) = 2 ^ n := by
  have := pow_le49 n h
  unfold wrap64; omega
theorem l01In_b (b : Bool) (n l h : Int) (hb : inB n l h = b) (w : World) :
    Calls Tryd.prog 39 #[.int .i64 n, .int .i64 l, .int .i64 h] w fun e w' => e = .returned (.bool b) ∧ w' = w := by
  subst hb; exact l01In_any n l h w
theorem mul_bd {W H S : Nat} (ok : Ok W H S) : (1 : Int) ≤ (W : Int) * (H : Int) ∧ (W : Int) * (H : Int) ≤ 49 ∧ (W : Int) * (H : Int) = ((W * H : Nat) : Int) := by
  have := ok.area
  have e : ((W : Int) * (H : Int)) = ((W * H : Nat) : Int) := (Int.natCast_mul _ _).symm
  rw [e]; omega
theorem mul_bd2 {W H S : Nat} (ok : Ok W H S) : (1 : Int) ≤ (W : Int) * (H : Int) ∧ (W : Int) * (H : Int) ≤ 49 := ⟨(mul_bd ok).1, (mul_bd ok).2.1⟩
theorem pos_test (P S : Nat) (hP : P < 2 ^ 63) (hS : S < 2 ^ 63) : (bits BinOp.andNot IntKind.i64 (P : Int) (S : Int) == 0) = (P &&& S == P) := by
  rw [Bit.i64_andNot P S hP hS, Bool.eq_iff_iff, beq_iff_eq, beq_iff_eq, ← Bit.diff_eq_zero]
  omega
theorem pos_test' (P S : Nat) (hP : P < 2 ^ 63) (hS : S < 2 ^ 63) : (bits BinOp.and IntKind.i64 (P : Int) (S : Int) == (P : Int)) = (P &&& S == P) := by
  rw [Bit.i64_and P S hP hS, Bool.eq_iff_iff, beq_iff_eq, beq_iff_eq]
  omega

theorem BoardOk_1 (w h s : Int) (W : World) (h1 : inB w 1 7 = false) :
    Calls Tryd.prog 17 #[.agg #[.int .i64 w, .int .i64 h, .int .i64 s]] W fun e w' => e = .returned (.bool false) ∧ Below W.heap.size W w' := by
  go_enter Tryd.func17, Tryd.ntmps17
  go_wp2_with fail
  go_quiet ((go_at_call 40; exact Calls.quiet_of_same (within_b false _ _ _ h1 _)))
  go_wp2
  go_ret
  exact ⟨rfl, below1N _ _ _⟩

theorem BoardOk_2 (w h s : Int) (W : World) (h1 : inB w 1 7 = true) (h2 : inB h 1 7 = false) :
    Calls Tryd.prog 17 #[.agg #[.int .i64 w, .int .i64 h, .int .i64 s]] W fun e w' => e = .returned (.bool false) ∧ Below W.heap.size W w' := by
  go_enter Tryd.func17, Tryd.ntmps17
  go_wp2_with fail
  go_quiet ((go_at_call 40; exact Calls.quiet_of_same (within_b _ _ _ _ (by assumption) _)))
  go_wp2
  go_ret
  exact ⟨rfl, below1N _ _ _⟩

theorem BoardOk_3 (b : Bool) (W H : Nat) (hW : W ≤ 7) (hH : H ≤ 7) (s : Int) (w : World) (h1 : inB W 1 7 = true) (h2 : inB H 1 7 = true) (h3 : inB s 1 (2 ^ (W * H) - 1) = b) :
    Calls Tryd.prog 17 #[.agg #[.int .i64 W, .int .i64 H, .int .i64 s]] w fun e w' => e = .returned (.bool b) ∧ Below w.heap.size w w' := by
  have ha := area_le hW hH
  rw [← wrap_full _ ha] at h3
  go_enter Tryd.func17, Tryd.ntmps17
  go_wp2_with fail
  go_quiet ((go_at_call 40; exact Calls.quiet_of_same (within_b _ _ _ _ (by assumption) _)))
  go_wp2
  go_ret
  exact ⟨rfl, below1N _ _ _⟩

theorem BoardOk_any (w h s : Int) (W : World) :
    Calls Tryd.prog 17 #[.agg #[.int .i64 w, .int .i64 h, .int .i64 s]] W fun e w' => e = .returned (.bool (bOk w h s)) ∧ Below W.heap.size W w' := by
  by_cases h1 : 1 ≤ w ∧ w ≤ 7
  · by_cases h2 : 1 ≤ h ∧ h ≤ 7
    · obtain ⟨A, rfl⟩ := Int.eq_ofNat_of_zero_le (show 0 ≤ w by omega)
      obtain ⟨B, rfl⟩ := Int.eq_ofNat_of_zero_le (show 0 ≤ h by omega)
      have e : inB s 1 (2 ^ (A * B) - 1) = bOk A B s := by
        have e : ((A : Int) * (B : Int)).toNat = A * B := by rw [← Int.natCast_mul, Int.toNat_natCast]
        unfold inB bOk
        rw [e, Bool.eq_iff_iff]
        simp only [Bool.and_eq_true, decide_eq_true_eq]
        omega
      exact BoardOk_3 _ A B (by omega) (by omega) s W (by simp [inB]; omega) (by simp [inB]; omega) e
    · have e : bOk w h s = false := by unfold bOk; simp only [decide_eq_false_iff_not]; omega
      rw [e]
      exact BoardOk_2 w h s W (by simp [inB]; omega) (by simp [inB]; omega)
  · have e : bOk w h s = false := by unfold bOk; simp only [decide_eq_false_iff_not]; omega
    rw [e]
    exact BoardOk_1 w h s W (by simp [inB]; omega)
theorem specBoardOk_1 (a h s : Int) (w : World) (h1 : inB a 1 7 = false) :
    Calls Tryd.prog 38 #[.agg #[.int .i64 a, .int .i64 h, .int .i64 s]] w fun e w' => e = .returned (.bool false) ∧ Below w.heap.size w w' := by
  go_enter Tryd.func38, Tryd.ntmps38
  go_wp2_with (first | (go_at_call 40; refine (within_b _ _ _ _ (by assumption) _).mono ?_; rintro e wq ⟨rfl, hwq⟩; subst wq) | (go_at_call 39; refine (l01In_b _ _ _ _ (by assumption) _).mono ?_; rintro e wq ⟨rfl, hwq⟩; subst wq) | (go_at_call 37; refine (hasBit_any _ _ (by assumption) (by omega) _).mono ?_; rintro e wq ⟨rfl, hwq⟩; subst wq))
  go_ret
  exact ⟨rfl, below1 _ _⟩

theorem specBoardOk_2 (a h s : Int) (w : World) (h1 : inB a 1 7 = true) (h2 : inB h 1 7 = false) :
    Calls Tryd.prog 38 #[.agg #[.int .i64 a, .int .i64 h, .int .i64 s]] w fun e w' => e = .returned (.bool false) ∧ Below w.heap.size w w' := by
  go_enter Tryd.func38, Tryd.ntmps38
  go_wp2_with (first | (go_at_call 40; refine (within_b _ _ _ _ (by assumption) _).mono ?_; rintro e wq ⟨rfl, hwq⟩; subst wq) | (go_at_call 39; refine (l01In_b _ _ _ _ (by assumption) _).mono ?_; rintro e wq ⟨rfl, hwq⟩; subst wq) | (go_at_call 37; refine (hasBit_any _ _ (by assumption) (by omega) _).mono ?_; rintro e wq ⟨rfl, hwq⟩; subst wq))
  go_ret
  exact ⟨rfl, below1 _ _⟩

theorem specBoardOk_3 (b : Bool) (W H : Nat) (hW : W ≤ 7) (hH : H ≤ 7) (s : Int) (w : World) (h1 : inB W 1 7 = true) (h2 : inB H 1 7 = true) (h3 : inB s 1 (2 ^ (W * H) - 1) = b) :
    Calls Tryd.prog 38 #[.agg #[.int .i64 W, .int .i64 H, .int .i64 s]] w fun e w' => e = .returned (.bool b) ∧ Below w.heap.size w w' := by
  have ha := area_le hW hH
  rw [← wrap_full _ ha] at h3
  go_enter Tryd.func38, Tryd.ntmps38
  go_wp2_with (first | (go_at_call 40; refine (within_b _ _ _ _ (by assumption) _).mono ?_; rintro e wq ⟨rfl, hwq⟩; subst wq) | (go_at_call 39; refine (l01In_b _ _ _ _ (by assumption) _).mono ?_; rintro e wq ⟨rfl, hwq⟩; subst wq) | (go_at_call 37; refine (hasBit_any _ _ (by assumption) (by omega) _).mono ?_; rintro e wq ⟨rfl, hwq⟩; subst wq))
  go_quiet ((go_at_call 39; exact Calls.quiet_of_same (l01In_b _ _ _ _ (by assumption) _)))
  go_wp2
  go_ret
  exact ⟨rfl, below1N _ _ _⟩

theorem specBoardOk_any (w h s : Int) (W : World) :
    Calls Tryd.prog 38 #[.agg #[.int .i64 w, .int .i64 h, .int .i64 s]] W fun e w' => e = .returned (.bool (bOk w h s)) ∧ Below W.heap.size W w' := by
  by_cases h1 : 1 ≤ w ∧ w ≤ 7
  · by_cases h2 : 1 ≤ h ∧ h ≤ 7
    · obtain ⟨A, rfl⟩ := Int.eq_ofNat_of_zero_le (show 0 ≤ w by omega)
      obtain ⟨B, rfl⟩ := Int.eq_ofNat_of_zero_le (show 0 ≤ h by omega)
      have e : inB s 1 (2 ^ (A * B) - 1) = bOk A B s := by
        have e : ((A : Int) * (B : Int)).toNat = A * B := by rw [← Int.natCast_mul, Int.toNat_natCast]
        unfold inB bOk
        rw [e, Bool.eq_iff_iff]
        simp only [Bool.and_eq_true, decide_eq_true_eq]
        omega
      exact specBoardOk_3 _ A B (by omega) (by omega) s W (by simp [inB]; omega) (by simp [inB]; omega) e
    · have e : bOk w h s = false := by unfold bOk; simp only [decide_eq_false_iff_not]; omega
      rw [e]
      exact specBoardOk_2 w h s W (by simp [inB]; omega) (by simp [inB]; omega)
  · have e : bOk w h s = false := by unfold bOk; simp only [decide_eq_false_iff_not]; omega
    rw [e]
    exact specBoardOk_1 w h s W (by simp [inB]; omega)

theorem BoardOk_b (b : Bool) (a h s : Int) (hb : bOk a h s = b) (w : World) :
    Calls Tryd.prog 17 #[.agg #[.int .i64 a, .int .i64 h, .int .i64 s]] w fun e w' => e = .returned (.bool b) ∧ Below w.heap.size w w' := by
  subst hb; exact BoardOk_any a h s w

theorem specBoardOk_b (b : Bool) (a h s : Int) (hb : bOk a h s = b) (w : World) :
    Calls Tryd.prog 38 #[.agg #[.int .i64 a, .int .i64 h, .int .i64 s]] w fun e w' => e = .returned (.bool b) ∧ Below w.heap.size w w' := by
  subst hb; exact specBoardOk_any a h s w

theorem HasHole_1 (a h s k : Int) (w : World) (h1 : bOk a h s = false) :
    Calls Tryd.prog 14 #[.agg #[.int .i64 a, .int .i64 h, .int .i64 s], .int .i64 k] w fun e w' => e = .returned (.bool false) ∧ Below w.heap.size w w' := by
  go_enter Tryd.func14, Tryd.ntmps14
  go_wp2_with (first | (go_at_call 17; refine (BoardOk_b _ _ _ _ (by assumption) _).mono ?_; rintro e w1 ⟨rfl, hB1⟩; obtain ⟨hc1, hf1⟩ := bcell hB1) | (go_at_call 40; refine (within_b _ _ _ _ (by assumption) _).mono ?_; rintro e wq ⟨rfl, hwq⟩; subst wq) | (go_at_call 39; refine (l01In_b _ _ _ _ (by assumption) _).mono ?_; rintro e wq ⟨rfl, hwq⟩; subst wq) | (go_at_call 37; refine (hasBit_any _ _ (by assumption) (by omega) _).mono ?_; rintro e wq ⟨rfl, hwq⟩; subst wq))
  go_ret
  exact ⟨rfl, (below1 _ _).andThen hB1⟩

theorem HasHole_2 (W H S : Nat) (ok : Ok W H S) (k : Int) (w : World) (h2 : inB k 0 (W * H - 1) = false) :
    Calls Tryd.prog 14 #[.agg #[.int .i64 W, .int .i64 H, .int .i64 S], .int .i64 k] w fun e w' => e = .returned (.bool false) ∧ Below w.heap.size w w' := by
  have h1 := bOk_of ok
  have ha := ok.area
  have hm := mul_bd2 ok
  go_enter Tryd.func14, Tryd.ntmps14
  go_wp2_with (first | (go_at_call 17; refine (BoardOk_b _ _ _ _ (by assumption) _).mono ?_; rintro e w1 ⟨rfl, hB1⟩; obtain ⟨hc1, hf1⟩ := bcell hB1) | (go_at_call 40; refine (within_b _ _ _ _ (by assumption) _).mono ?_; rintro e wq ⟨rfl, hwq⟩; subst wq) | (go_at_call 39; refine (l01In_b _ _ _ _ (by assumption) _).mono ?_; rintro e wq ⟨rfl, hwq⟩; subst wq) | (go_at_call 37; refine (hasBit_any _ _ (by assumption) (by omega) _).mono ?_; rintro e wq ⟨rfl, hwq⟩; subst wq))
  go_ret
  exact ⟨rfl, (below1 _ _).andThen hB1⟩

theorem HasHole_3 (W H S K : Nat) (ok : Ok W H S) (hk : K < W * H) (w : World) :
    Calls Tryd.prog 14 #[.agg #[.int .i64 W, .int .i64 H, .int .i64 S], .int .i64 K] w fun e w' => e = .returned (.bool (S.testBit K)) ∧ Below w.heap.size w w' := by
  have h1 := bOk_of ok
  have ha := ok.area
  have hm := mul_bd2 ok
  have hS : S < 2 ^ 63 := ok.lt63
  have h2 : inB K 0 (W * H - 1) = true := by have := mul_bd ok; simp [inB]; omega
  have hk2 : K ≤ 62 := by omega
  go_enter Tryd.func14, Tryd.ntmps14
  go_wp2_with (first | (go_at_call 17; refine (BoardOk_b _ _ _ _ (by assumption) _).mono ?_; rintro e w1 ⟨rfl, hB1⟩; obtain ⟨hc1, hf1⟩ := bcell hB1) | (go_at_call 40; refine (within_b _ _ _ _ (by assumption) _).mono ?_; rintro e wq ⟨rfl, hwq⟩; subst wq) | (go_at_call 39; refine (l01In_b _ _ _ _ (by assumption) _).mono ?_; rintro e wq ⟨rfl, hwq⟩; subst wq) | (go_at_call 37; refine (hasBit_any _ _ (by assumption) (by omega) _).mono ?_; rintro e wq ⟨rfl, hwq⟩; subst wq))
  go_ret
  exact ⟨rfl, (below1 _ _).andThen hB1⟩

theorem HasHole_any (a h s k : Int) (w : World) :
    Calls Tryd.prog 14 #[.agg #[.int .i64 a, .int .i64 h, .int .i64 s], .int .i64 k] w fun e w' => e = .returned (.bool (hasB a h s k)) ∧ Below w.heap.size w w' := by
  cases hb : bOk a h s
  · have e : hasB a h s k = false := by simp [hasB, hb]
    rw [e]; exact HasHole_1 a h s k w hb
  · obtain ⟨W, H, S, rfl, rfl, rfl, ok⟩ := (bOk_iff _ _ _).1 hb
    cases h2 : inB k 0 (W * H - 1)
    · have e : hasB W H S k = false := by simp [hasB, h2]
      rw [e]; exact HasHole_2 W H S ok k w h2
    · have hk : 0 ≤ k ∧ k ≤ W * H - 1 := by simpa [inB] using h2
      obtain ⟨K, rfl⟩ := Int.eq_ofNat_of_zero_le hk.1
      have hm := mul_bd ok
      have e : hasB W H S K = S.testBit K := by simp [hasB, h2, bOk_of ok]
      rw [e]; exact HasHole_3 W H S K ok (by omega) w
theorem HasHole_b (b : Bool) (a h s k : Int) (hb : hasB a h s k = b) (w : World) :
    Calls Tryd.prog 14 #[.agg #[.int .i64 a, .int .i64 h, .int .i64 s], .int .i64 k] w fun e w' => e = .returned (.bool b) ∧ Below w.heap.size w w' := by
  subst hb; exact HasHole_any a h s k w

theorem specHasHole_1 (a h s k : Int) (w : World) (h1 : bOk a h s = false) :
    Calls Tryd.prog 13 #[.agg #[.int .i64 a, .int .i64 h, .int .i64 s], .int .i64 k] w fun e w' => e = .returned (.bool false) ∧ Below w.heap.size w w' := by
  go_enter Tryd.func13, Tryd.ntmps13
  go_wp2_with (first | (go_at_call 38; refine (specBoardOk_b _ _ _ _ (by assumption) _).mono ?_; rintro e w1 ⟨rfl, hB1⟩; obtain ⟨hc1, hf1⟩ := bcell hB1) | (go_at_call 40; refine (within_b _ _ _ _ (by assumption) _).mono ?_; rintro e wq ⟨rfl, hwq⟩; subst wq) | (go_at_call 39; refine (l01In_b _ _ _ _ (by assumption) _).mono ?_; rintro e wq ⟨rfl, hwq⟩; subst wq) | (go_at_call 37; refine (hasBit_any _ _ (by assumption) (by omega) _).mono ?_; rintro e wq ⟨rfl, hwq⟩; subst wq))
  go_ret
  exact ⟨rfl, (below1 _ _).andThen hB1⟩

theorem specHasHole_2 (W H S : Nat) (ok : Ok W H S) (k : Int) (w : World) (h2 : inB k 0 (W * H - 1) = false) :
    Calls Tryd.prog 13 #[.agg #[.int .i64 W, .int .i64 H, .int .i64 S], .int .i64 k] w fun e w' => e = .returned (.bool false) ∧ Below w.heap.size w w' := by
  have h1 := bOk_of ok
  have ha := ok.area
  have hm := mul_bd2 ok
  go_enter Tryd.func13, Tryd.ntmps13
  go_wp2_with (first | (go_at_call 38; refine (specBoardOk_b _ _ _ _ (by assumption) _).mono ?_; rintro e w1 ⟨rfl, hB1⟩; obtain ⟨hc1, hf1⟩ := bcell hB1) | (go_at_call 40; refine (within_b _ _ _ _ (by assumption) _).mono ?_; rintro e wq ⟨rfl, hwq⟩; subst wq) | (go_at_call 39; refine (l01In_b _ _ _ _ (by assumption) _).mono ?_; rintro e wq ⟨rfl, hwq⟩; subst wq) | (go_at_call 37; refine (hasBit_any _ _ (by assumption) (by omega) _).mono ?_; rintro e wq ⟨rfl, hwq⟩; subst wq))
  go_ret
  exact ⟨rfl, (below1 _ _).andThen hB1⟩

theorem specHasHole_3 (W H S K : Nat) (ok : Ok W H S) (hk : K < W * H) (w : World) :
    Calls Tryd.prog 13 #[.agg #[.int .i64 W, .int .i64 H, .int .i64 S], .int .i64 K] w fun e w' => e = .returned (.bool (S.testBit K)) ∧ Below w.heap.size w w' := by
  have h1 := bOk_of ok
  have ha := ok.area
  have hm := mul_bd2 ok
  have hS : S < 2 ^ 63 := ok.lt63
  have h2 : inB K 0 (W * H - 1) = true := by have := mul_bd ok; simp [inB]; omega
  have hk2 : K ≤ 62 := by omega
  go_enter Tryd.func13, Tryd.ntmps13
  go_wp2_with (first | (go_at_call 38; refine (specBoardOk_b _ _ _ _ (by assumption) _).mono ?_; rintro e w1 ⟨rfl, hB1⟩; obtain ⟨hc1, hf1⟩ := bcell hB1) | (go_at_call 40; refine (within_b _ _ _ _ (by assumption) _).mono ?_; rintro e wq ⟨rfl, hwq⟩; subst wq) | (go_at_call 39; refine (l01In_b _ _ _ _ (by assumption) _).mono ?_; rintro e wq ⟨rfl, hwq⟩; subst wq) | (go_at_call 37; refine (hasBit_any _ _ (by assumption) (by omega) _).mono ?_; rintro e wq ⟨rfl, hwq⟩; subst wq))
  go_ret
  exact ⟨by rw [← bit_test S K hS]; rfl, (below1 _ _).andThen hB1⟩

theorem specHasHole_any (a h s k : Int) (w : World) :
    Calls Tryd.prog 13 #[.agg #[.int .i64 a, .int .i64 h, .int .i64 s], .int .i64 k] w fun e w' => e = .returned (.bool (hasB a h s k)) ∧ Below w.heap.size w w' := by
  cases hb : bOk a h s
  · have e : hasB a h s k = false := by simp [hasB, hb]
    rw [e]; exact specHasHole_1 a h s k w hb
  · obtain ⟨W, H, S, rfl, rfl, rfl, ok⟩ := (bOk_iff _ _ _).1 hb
    cases h2 : inB k 0 (W * H - 1)
    · have e : hasB W H S k = false := by simp [hasB, h2]
      rw [e]; exact specHasHole_2 W H S ok k w h2
    · have hk : 0 ≤ k ∧ k ≤ W * H - 1 := by simpa [inB] using h2
      obtain ⟨K, rfl⟩ := Int.eq_ofNat_of_zero_le hk.1
      have hm := mul_bd ok
      have e : hasB W H S K = S.testBit K := by simp [hasB, h2, bOk_of ok]
      rw [e]; exact specHasHole_3 W H S K ok (by omega) w
theorem specHasHole_b (b : Bool) (a h s k : Int) (hb : hasB a h s k = b) (w : World) :
    Calls Tryd.prog 13 #[.agg #[.int .i64 a, .int .i64 h, .int .i64 s], .int .i64 k] w fun e w' => e = .returned (.bool b) ∧ Below w.heap.size w w' := by
  subst hb; exact specHasHole_any a h s k w

end Go.Proofs.YtnnoahoepljejaaDoor
