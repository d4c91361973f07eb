/-
  The walks of HasPeg, FullBut, SinglePeg, SetPeg, Rectangle, Clamp and the laws' helpers.
-/
import Derived.Test.YtnnoahoepljejaaDoorWalkA
import Derived.OpenShut
namespace Go.Proofs.YtnnoahoepljejaaDoor
open Go.RowKit
open Peg
set_option linter.unusedVariables false

theorem toBoard_any (a h s : Int) (w : World) :
    Calls Tryd.prog 27 #[.agg #[.int .i64 a, .int .i64 h, .int .i64 s]] w fun e w' => e = .returned (.agg #[.int .i64 a, .int .i64 h, .int .i64 s]) ∧ Below w.heap.size w w' := by
  go_enter Tryd.func27, Tryd.ntmps27
  go_wp2
  refine bodyPost_ret (v := .agg #[.int .i64 a, .int .i64 h, .int .i64 s]) (by simp [results, Tryd.results27, go_sem]) rfl ⟨rfl, below3 _ _ _ _⟩

def clampF (n l h : Int) : Int := if h < l ∨ n < l then l else if h < n then h else n

/-- The full board of that size, or no board. -/
def rectOk (a h : Int) : Bool := inB a 1 7 && inB h 1 7
def rectW (a h : Int) : Int := if rectOk a h then a else 0
def rectH (a h : Int) : Int := if rectOk a h then h else 0
def rectS (a h : Int) : Int := if rectOk a h then 2 ^ (a * h).toNat - 1 else 0

theorem Rectangle_1 (a h : Int) (w : World) (h1 : inB a 1 7 = false) :
    Calls Tryd.prog 19 #[.int .i64 a, .int .i64 h] w fun e w' => e = .returned (.agg #[.int .i64 0, .int .i64 0, .int .i64 0]) ∧ Below w.heap.size w w' := by
  go_enter Tryd.func19, Tryd.ntmps19
  go_wp2_with (go_at_call 40; refine (within_b _ _ _ _ (by assumption) _).mono ?_; rintro e wq ⟨rfl, hwq⟩; subst wq)
  refine bodyPost_ret (v := .agg #[.int .i64 0, .int .i64 0, .int .i64 0]) (by simp [results, Tryd.results19, go_sem]) rfl ⟨rfl, below1 _ _⟩

theorem Rectangle_2 (a h : Int) (w : World) (h1 : inB a 1 7 = true) (h2 : inB h 1 7 = false) :
    Calls Tryd.prog 19 #[.int .i64 a, .int .i64 h] w fun e w' => e = .returned (.agg #[.int .i64 0, .int .i64 0, .int .i64 0]) ∧ Below w.heap.size w w' := by
  go_enter Tryd.func19, Tryd.ntmps19
  go_wp2_with (go_at_call 40; refine (within_b _ _ _ _ (by assumption) _).mono ?_; rintro e wq ⟨rfl, hwq⟩; subst wq)
  refine bodyPost_ret (v := .agg #[.int .i64 0, .int .i64 0, .int .i64 0]) (by simp [results, Tryd.results19, go_sem]) rfl ⟨rfl, below1 _ _⟩

theorem Rectangle_3 (W H : Nat) (hW : W ≤ 7) (hH : H ≤ 7) (w : World) (h1 : inB W 1 7 = true) (h2 : inB H 1 7 = true) :
    Calls Tryd.prog 19 #[.int .i64 W, .int .i64 H] w fun e w' => e = .returned (.agg #[.int .i64 W, .int .i64 H, .int .i64 (2 ^ (W * H) - 1)]) ∧ Below w.heap.size w w' := by
  have ha := area_le hW hH
  go_enter Tryd.func19, Tryd.ntmps19
  go_wp2_with (go_at_call 40; refine (within_b _ _ _ _ (by assumption) _).mono ?_; rintro e wq ⟨rfl, hwq⟩; subst wq)
  rw [wrap_full _ ha]
  refine bodyPost_ret (v := .agg #[.int .i64 W, .int .i64 H, .int .i64 (2 ^ (W * H) - 1)]) (by simp [results, Tryd.results19, go_sem]) rfl ⟨rfl, below1 _ _⟩

theorem Rectangle_any (a h : Int) (w : World) :
    Calls Tryd.prog 19 #[.int .i64 a, .int .i64 h] w fun e w' => e = .returned (.agg #[.int .i64 (rectW a h), .int .i64 (rectH a h), .int .i64 (rectS a h)]) ∧ Below w.heap.size w w' := by
  cases h1 : inB a 1 7
  · have e : rectOk a h = false := by simp [rectOk, h1]
    simp only [rectW, rectH, rectS, e]
    exact Rectangle_1 a h w h1
  · cases h2 : inB h 1 7
    · have e : rectOk a h = false := by simp [rectOk, h2]
      simp only [rectW, rectH, rectS, e]
      exact Rectangle_2 a h w h1 h2
    · have e : rectOk a h = true := by simp [rectOk, h1, h2]
      simp only [rectW, rectH, rectS, e]
      have k1 : 1 ≤ a ∧ a ≤ 7 := by simpa [inB] using h1
      have k2 : 1 ≤ h ∧ h ≤ 7 := by simpa [inB] using h2
      obtain ⟨A, rfl⟩ := Int.eq_ofNat_of_zero_le (show 0 ≤ a by omega)
      obtain ⟨B, rfl⟩ := Int.eq_ofNat_of_zero_le (show 0 ≤ h by omega)
      have e : ((A : Int) * (B : Int)).toNat = A * B := by rw [← Int.natCast_mul, Int.toNat_natCast]
      simp only [if_true, e]
      exact Rectangle_3 A B (by omega) (by omega) w h1 h2

theorem specRectangle_1 (a h : Int) (w : World) (h1 : inB a 1 7 = false) :
    Calls Tryd.prog 52 #[.int .i64 a, .int .i64 h] w fun e w' => e = .returned (.agg #[.int .i64 0, .int .i64 0, .int .i64 0]) ∧ Below w.heap.size w w' := by
  go_enter Tryd.func52, Tryd.ntmps52
  go_wp2_with (go_at_call 39; refine (l01In_b _ _ _ _ (by assumption) _).mono ?_; rintro e wq ⟨rfl, hwq⟩; subst wq)
  refine bodyPost_ret (v := .agg #[.int .i64 0, .int .i64 0, .int .i64 0]) (by simp [results, Tryd.results52, go_sem]) rfl ⟨rfl, below1 _ _⟩

theorem specRectangle_2 (a h : Int) (w : World) (h1 : inB a 1 7 = true) (h2 : inB h 1 7 = false) :
    Calls Tryd.prog 52 #[.int .i64 a, .int .i64 h] w fun e w' => e = .returned (.agg #[.int .i64 0, .int .i64 0, .int .i64 0]) ∧ Below w.heap.size w w' := by
  go_enter Tryd.func52, Tryd.ntmps52
  go_wp2_with (go_at_call 39; refine (l01In_b _ _ _ _ (by assumption) _).mono ?_; rintro e wq ⟨rfl, hwq⟩; subst wq)
  refine bodyPost_ret (v := .agg #[.int .i64 0, .int .i64 0, .int .i64 0]) (by simp [results, Tryd.results52, go_sem]) rfl ⟨rfl, below1 _ _⟩

theorem specRectangle_3 (W H : Nat) (hW : W ≤ 7) (hH : H ≤ 7) (w : World) (h1 : inB W 1 7 = true) (h2 : inB H 1 7 = true) :
    Calls Tryd.prog 52 #[.int .i64 W, .int .i64 H] w fun e w' => e = .returned (.agg #[.int .i64 W, .int .i64 H, .int .i64 (2 ^ (W * H) - 1)]) ∧ Below w.heap.size w w' := by
  have ha := area_le hW hH
  go_enter Tryd.func52, Tryd.ntmps52
  go_wp2_with (go_at_call 39; refine (l01In_b _ _ _ _ (by assumption) _).mono ?_; rintro e wq ⟨rfl, hwq⟩; subst wq)
  rw [wrap_full _ ha]
  refine bodyPost_ret (v := .agg #[.int .i64 W, .int .i64 H, .int .i64 (2 ^ (W * H) - 1)]) (by simp [results, Tryd.results52, go_sem]) rfl ⟨rfl, below1 _ _⟩

theorem specRectangle_any (a h : Int) (w : World) :
    Calls Tryd.prog 52 #[.int .i64 a, .int .i64 h] w fun e w' => e = .returned (.agg #[.int .i64 (rectW a h), .int .i64 (rectH a h), .int .i64 (rectS a h)]) ∧ Below w.heap.size w w' := by
  cases h1 : inB a 1 7
  · have e : rectOk a h = false := by simp [rectOk, h1]
    simp only [rectW, rectH, rectS, e]
    exact specRectangle_1 a h w h1
  · cases h2 : inB h 1 7
    · have e : rectOk a h = false := by simp [rectOk, h2]
      simp only [rectW, rectH, rectS, e]
      exact specRectangle_2 a h w h1 h2
    · have e : rectOk a h = true := by simp [rectOk, h1, h2]
      simp only [rectW, rectH, rectS, e]
      have k1 : 1 ≤ a ∧ a ≤ 7 := by simpa [inB] using h1
      have k2 : 1 ≤ h ∧ h ≤ 7 := by simpa [inB] using h2
      obtain ⟨A, rfl⟩ := Int.eq_ofNat_of_zero_le (show 0 ≤ a by omega)
      obtain ⟨B, rfl⟩ := Int.eq_ofNat_of_zero_le (show 0 ≤ h by omega)
      have e : ((A : Int) * (B : Int)).toNat = A * B := by rw [← Int.natCast_mul, Int.toNat_natCast]
      simp only [if_true, e]
      exact specRectangle_3 A B (by omega) (by omega) w h1 h2

def hasP (a h s p k : Int) : Bool := pOk a h s p && (hasB a h s k && p.toNat.testBit k.toNat)
def fullF (a h s k : Int) : Int := if hasB a h s k then s - 2 ^ k.toNat else -1
def singleF (a h s k : Int) : Int := if hasB a h s k then 2 ^ k.toNat else -1
def setOk (a h s p k : Int) : Bool := pOk a h s p && hasB a h s k
def setF (a h s p k : Int) (on : Bool) : Int := if setOk a h s p k then (if on then ((p.toNat ||| 2 ^ k.toNat : Nat) : Int) else ((Bit.diff p.toNat (2 ^ k.toNat) : Nat) : Int)) else p
theorem cast_pow (K : Nat) : ((2 : Int) ^ K) = ((2 ^ K : Nat) : Int) := by simp

theorem has_nat {a h s k : Int} (h1 : hasB a h s k = true) : ∃ W H S K : Nat, a = W ∧ h = H ∧ s = S ∧ k = K ∧ Ok W H S ∧ K ≤ 48 ∧ S.testBit K = true := by
  have hb : bOk a h s = true := by unfold hasB at h1; simp only [Bool.and_eq_true] at h1; exact h1.1
  obtain ⟨W, H, S, rfl, rfl, rfl, ok⟩ := (bOk_iff _ _ _).1 hb
  obtain ⟨K, rfl, hk, ht⟩ := (hasB_iff ok k).1 h1
  have := ok.area
  exact ⟨W, H, S, K, rfl, rfl, rfl, rfl, ok, by omega, ht⟩
theorem pk_nat {a h s p k : Int} (h1 : pOk a h s p = true) (h2 : hasB a h s k = true) : ∃ P K : Nat, p = P ∧ k = K ∧ K ≤ 48 := by
  obtain ⟨W, H, S, K, rfl, rfl, rfl, rfl, ok, hK, _⟩ := has_nat h2
  obtain ⟨P, rfl, _⟩ := (pOk_iff ok p).1 h1
  exact ⟨P, K, rfl, rfl, hK⟩
theorem pow48 (K : Nat) (hK : K ≤ 48) : 2 ^ K < 2 ^ 63 := Nat.pow_lt_pow_right (by decide) (by omega)
theorem full_andNot (S K : Nat) (hS : S < 2 ^ 63) (hK : K ≤ 48) (hb : S.testBit K = true) : bits BinOp.andNot IntKind.i64 (S : Int) (wrap64 (2 ^ K)) = (S : Int) - 2 ^ K := by
  have h := Bit.diff_two_pow_of_set K S hb
  rw [wrap_pow K (by omega), cast_pow, Bit.i64_andNot S _ hS (pow48 K hK)]
  omega
theorem full_sub (S K : Nat) (hS : S < 2 ^ 63) (hK : K ≤ 48) (hb : S.testBit K = true) : wrap64 ((S : Int) - wrap64 (2 ^ K)) = (S : Int) - 2 ^ K := by
  have h := Bit.diff_two_pow_of_set K S hb
  have hp := pow48 K hK
  rw [wrap_pow K (by omega), cast_pow]
  generalize Bit.diff S (2 ^ K) = D at *
  generalize 2 ^ K = X at *
  unfold wrap64; omega
theorem set_or (P K : Nat) (hP : P < 2 ^ 63) (hK : K ≤ 48) : bits BinOp.or IntKind.i64 (P : Int) (wrap64 (2 ^ K)) = ((P ||| 2 ^ K : Nat) : Int) := by
  rw [wrap_pow K (by omega), cast_pow, Bit.i64_or P _ hP (pow48 K hK)]
theorem set_clear (P K : Nat) (hP : P < 2 ^ 63) (hK : K ≤ 48) : bits BinOp.andNot IntKind.i64 (P : Int) (wrap64 (2 ^ K)) = ((Bit.diff P (2 ^ K) : Nat) : Int) := by
  rw [wrap_pow K (by omega), cast_pow, Bit.i64_andNot P _ hP (pow48 K hK)]
theorem set_sub (P K : Nat) (hP : P < 2 ^ 63) (hK : K ≤ 48) : wrap64 (bits BinOp.or IntKind.i64 (P : Int) (wrap64 (2 ^ K)) - wrap64 (2 ^ K)) = ((Bit.diff P (2 ^ K) : Nat) : Int) := by
  rw [set_or P K hP hK, wrap_pow K (by omega), cast_pow]
  have hp := pow48 K hK
  have hd := Bit.diff_le P (2 ^ K)
  have e : P ||| 2 ^ K = Bit.diff P (2 ^ K) + 2 ^ K := by
    cases hb : P.testBit K
    · rw [Bit.or_two_pow_of_unset K P hb, Bit.diff_two_pow_of_unset K P hb]
    · rw [Bit.or_two_pow_of_set K P hb, Bit.diff_two_pow_of_set K P hb]
  rw [e]
  unfold wrap64; omega

end Go.Proofs.YtnnoahoepljejaaDoor
