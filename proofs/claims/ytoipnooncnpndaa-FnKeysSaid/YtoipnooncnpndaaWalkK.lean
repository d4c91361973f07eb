/-
  The walks of beside (impl) and l03Step (spec): the hole beside a place in a direction.
-/
import Derived.Test.YtoipnooncnpndaaLine
import Derived.Test.YtoipnooncnpndaaWalkA
namespace Go.Proofs.Ytoipnooncnpndaa
open Go.RowKit
open Peg
set_option linter.unusedVariables false

theorem hasBit_d (b : Bool) (S : Nat) (k : Int) (hS : S < 2 ^ 63) (h0 : 0 ≤ k) (h1 : k ≤ 62) (hb : S.testBit k.toNat = b) (w : World) :
    Calls Try.prog 58 #[.int .i64 S, .int .i64 k] w fun e w' => e = .returned (.bool b) ∧ w' = w := by
  obtain ⟨K, rfl⟩ := Int.eq_ofNat_of_zero_le h0
  exact hasBit_c b S K hS (by omega) hb w

theorem mod_bd {W H S K : Nat} (ok : Ok W H S) (hk : K < W * H) : (0 : Int) ≤ (K : Int) % (W : Int) ∧ (K : Int) % (W : Int) ≤ 6 ∧ (0 : Int) ≤ (K : Int) / (W : Int) ∧ (K : Int) / (W : Int) ≤ 6 := by
  have h1 := Nat.mod_lt K (show W > 0 from ok.w1)
  have h2 : K / W < H := Nat.div_lt_of_lt_mul hk
  have e1 : ((K : Int) % (W : Int)) = ((K % W : Nat) : Int) := by simp
  have e2 : ((K : Int) / (W : Int)) = ((K / W : Nat) : Int) := by simp
  have := ok.w7
  have := ok.h7
  rw [e1, e2]
  generalize K % W = r at *
  generalize K / W = q at *
  omega
theorem place_bd {W H S : Nat} (ok : Ok W H S) {x y : Int} (h1 : inB x 0 ((W : Int) - 1) = true) (h2 : inB y 0 ((H : Int) - 1) = true) : 0 ≤ y * (W : Int) ∧ y * (W : Int) ≤ 42 ∧ 0 ≤ x ∧ x ≤ 6 := by
  simp only [inB, Bool.and_eq_true, decide_eq_true_eq] at h1 h2
  have a1 := ok.w7
  have a2 := ok.h7
  obtain ⟨Y, rfl⟩ := Int.eq_ofNat_of_zero_le h2.1
  have hY : Y ≤ 6 := by omega
  have hm : Y * W ≤ 6 * 7 := Nat.mul_le_mul hY a1
  have e : ((Y : Int) * (W : Int)) = ((Y * W : Nat) : Int) := by simp
  rw [e]; omega
/-- The bit at a place of the board, as the reference asks for it. -/
theorem bit_zero (S : Nat) (k : Int) (hS : S < 2 ^ 63) (h0 : 0 ≤ k) (h1 : k ≤ 62) : (bits BinOp.and IntKind.i64 ((S : Int) / 2 ^ k.toNat) 1 == 0) = !S.testBit k.toNat := by
  obtain ⟨K, rfl⟩ := Int.eq_ofNat_of_zero_le h0
  rw [Int.toNat_natCast]
  have e : ((S : Int) / 2 ^ K) = ((S / 2 ^ K : Nat) : Int) := by simp
  have h1 : S / 2 ^ K < 2 ^ 63 := Nat.lt_of_le_of_lt (Nat.div_le_self _ _) hS
  rw [e, show (1 : Int) = ((1 : Nat) : Int) from rfl, Bit.i64_and _ _ h1 (by decide), Nat.testBit_eq_decide_div_mod_eq, Nat.and_one_is_mod, Bool.eq_iff_iff]
  simp
  omega

theorem beside_no (a h s k way : Int) (w : World) (h1 : hasB a h s k = false) :
    Calls Try.prog 63 #[.agg #[.int .i64 a, .int .i64 h, .int .i64 s], .int .i64 k, .int .i64 way] w fun e w' => e = .returned (.int .i64 (-1)) ∧ Below w.heap.size w w' := by
  go_enter Try.func63, Try.ntmps63
  go_wp2_with fail
  refine (HasHole_b _ _ _ _ _ (by assumption) _).mono ?_
  rintro e w1 ⟨rfl, hB1⟩
  go_wp2
  go_ret
  exact ⟨rfl, (below1 _ _).andThen hB1⟩

set_option maxHeartbeats 800000 in
theorem beside_0_x (W H S K : Nat) (ok : Ok W H S) (hk : K < W * H) (hh : hasB W H S K = true) (x y : Int) (hx : (K : Int) % (W : Int) + 1 = x) (hy : (K : Int) / (W : Int) = y) (h1 : inB x 0 ((W : Int) - 1) = false) (w : World) :
    Calls Try.prog 63 #[.agg #[.int .i64 W, .int .i64 H, .int .i64 S], .int .i64 K, .int .i64 0] w fun e w' => e = .returned (.int .i64 (-1)) ∧ Below w.heap.size w w' := by
  have hS := ok.lt63
  have hbd := mod_bd ok hk
  have hw1 : (1 : Int) ≤ (W : Int) := by have := ok.w1; omega
  have hw7 : (W : Int) ≤ 7 := by have := ok.w7; omega
  have hh1 : (1 : Int) ≤ (H : Int) := by have := ok.h1; omega
  have hh7 : (H : Int) ≤ 7 := by have := ok.h7; omega
  have hxb : -1 ≤ x ∧ x ≤ 7 := by omega
  have hyb : -1 ≤ y ∧ y ≤ 7 := by omega
  go_enter Try.func63, Try.ntmps63
  have hz0 : w.heap.size < (w.alloc (.cells #[.int .i64 W, .int .i64 H, .int .i64 S] 26)).heap.size := by simp
  go_wp2_with fail
  refine (HasHole_b _ _ _ _ _ hh _).mono ?_
  rintro e w1 ⟨rfl, hB1⟩
  obtain ⟨hc1, hf1, hz1⟩ := bcell3 hB1 hz0
  clear hh
  go_wp2
  go_region
  all_goals (try go_wp2)
  all_goals go_region
  all_goals (try go_wp2_with (go_at_call 66; refine (within_b _ _ _ _ (by assumption) _).mono ?_; rintro e wq ⟨rfl, hwq⟩; subst wq))
  all_goals go_ret
  all_goals exact ⟨rfl, ((((below1 _ _).andThen hB1).more _).more _).drew.drew⟩

set_option maxHeartbeats 800000 in
theorem beside_0_y (W H S K : Nat) (ok : Ok W H S) (hk : K < W * H) (hh : hasB W H S K = true) (x y : Int) (hx : (K : Int) % (W : Int) + 1 = x) (hy : (K : Int) / (W : Int) = y) (h1 : inB x 0 ((W : Int) - 1) = true) (h2 : inB y 0 ((H : Int) - 1) = false) (w : World) :
    Calls Try.prog 63 #[.agg #[.int .i64 W, .int .i64 H, .int .i64 S], .int .i64 K, .int .i64 0] w fun e w' => e = .returned (.int .i64 (-1)) ∧ Below w.heap.size w w' := by
  have hS := ok.lt63
  have hbd := mod_bd ok hk
  have hw1 : (1 : Int) ≤ (W : Int) := by have := ok.w1; omega
  have hw7 : (W : Int) ≤ 7 := by have := ok.w7; omega
  have hh1 : (1 : Int) ≤ (H : Int) := by have := ok.h1; omega
  have hh7 : (H : Int) ≤ 7 := by have := ok.h7; omega
  have hxb : -1 ≤ x ∧ x ≤ 7 := by omega
  have hyb : -1 ≤ y ∧ y ≤ 7 := by omega
  go_enter Try.func63, Try.ntmps63
  have hz0 : w.heap.size < (w.alloc (.cells #[.int .i64 W, .int .i64 H, .int .i64 S] 26)).heap.size := by simp
  go_wp2_with fail
  refine (HasHole_b _ _ _ _ _ hh _).mono ?_
  rintro e w1 ⟨rfl, hB1⟩
  obtain ⟨hc1, hf1, hz1⟩ := bcell3 hB1 hz0
  clear hh
  go_wp2
  go_region
  all_goals (try go_wp2)
  all_goals go_region
  all_goals (try go_wp2_with (go_at_call 66; refine (within_b _ _ _ _ (by assumption) _).mono ?_; rintro e wq ⟨rfl, hwq⟩; subst wq))
  all_goals go_ret
  all_goals exact ⟨rfl, ((((below1 _ _).andThen hB1).more _).more _).drew.drew⟩

set_option maxHeartbeats 800000 in
theorem beside_0_n (W H S K : Nat) (ok : Ok W H S) (hk : K < W * H) (hh : hasB W H S K = true) (x y : Int) (hx : (K : Int) % (W : Int) + 1 = x) (hy : (K : Int) / (W : Int) = y) (h1 : inB x 0 ((W : Int) - 1) = true) (h2 : inB y 0 ((H : Int) - 1) = true) (h3 : S.testBit (y * W + x).toNat = false) (w : World) :
    Calls Try.prog 63 #[.agg #[.int .i64 W, .int .i64 H, .int .i64 S], .int .i64 K, .int .i64 0] w fun e w' => e = .returned (.int .i64 (-1)) ∧ Below w.heap.size w w' := by
  have hS := ok.lt63
  have hbd := mod_bd ok hk
  have hw1 : (1 : Int) ≤ (W : Int) := by have := ok.w1; omega
  have hw7 : (W : Int) ≤ 7 := by have := ok.w7; omega
  have hh1 : (1 : Int) ≤ (H : Int) := by have := ok.h1; omega
  have hh7 : (H : Int) ≤ 7 := by have := ok.h7; omega
  have hxb : -1 ≤ x ∧ x ≤ 7 := by omega
  have hyb : -1 ≤ y ∧ y ≤ 7 := by omega
  have hpb := place_bd ok h1 h2
  go_enter Try.func63, Try.ntmps63
  have hz0 : w.heap.size < (w.alloc (.cells #[.int .i64 W, .int .i64 H, .int .i64 S] 26)).heap.size := by simp
  go_wp2_with fail
  refine (HasHole_b _ _ _ _ _ hh _).mono ?_
  rintro e w1 ⟨rfl, hB1⟩
  obtain ⟨hc1, hf1, hz1⟩ := bcell3 hB1 hz0
  clear hh
  go_wp2
  go_region
  all_goals (try go_wp2)
  all_goals go_region
  all_goals (try go_wp2_with (first | (go_at_call 66; refine (within_b _ _ _ _ (by assumption) _).mono ?_; rintro e wq ⟨rfl, hwq⟩; subst wq) | (go_at_call 58; refine (hasBit_d false S _ (by assumption) (by omega) (by omega) (by assumption) _).mono ?_; rintro e wq ⟨rfl, hwq⟩; subst wq)))
  all_goals go_ret
  all_goals exact ⟨rfl, ((((below1 _ _).andThen hB1).more _).more _).drew.drew⟩

set_option maxHeartbeats 800000 in
theorem beside_0_j (W H S K : Nat) (ok : Ok W H S) (hk : K < W * H) (hh : hasB W H S K = true) (x y : Int) (hx : (K : Int) % (W : Int) + 1 = x) (hy : (K : Int) / (W : Int) = y) (h1 : inB x 0 ((W : Int) - 1) = true) (h2 : inB y 0 ((H : Int) - 1) = true) (h3 : S.testBit (y * W + x).toNat = true) (w : World) :
    Calls Try.prog 63 #[.agg #[.int .i64 W, .int .i64 H, .int .i64 S], .int .i64 K, .int .i64 0] w fun e w' => e = .returned (.int .i64 (y * W + x)) ∧ Below w.heap.size w w' := by
  have hS := ok.lt63
  have hbd := mod_bd ok hk
  have hw1 : (1 : Int) ≤ (W : Int) := by have := ok.w1; omega
  have hw7 : (W : Int) ≤ 7 := by have := ok.w7; omega
  have hh1 : (1 : Int) ≤ (H : Int) := by have := ok.h1; omega
  have hh7 : (H : Int) ≤ 7 := by have := ok.h7; omega
  have hxb : -1 ≤ x ∧ x ≤ 7 := by omega
  have hyb : -1 ≤ y ∧ y ≤ 7 := by omega
  have hpb := place_bd ok h1 h2
  go_enter Try.func63, Try.ntmps63
  have hz0 : w.heap.size < (w.alloc (.cells #[.int .i64 W, .int .i64 H, .int .i64 S] 26)).heap.size := by simp
  go_wp2_with fail
  refine (HasHole_b _ _ _ _ _ hh _).mono ?_
  rintro e w1 ⟨rfl, hB1⟩
  obtain ⟨hc1, hf1, hz1⟩ := bcell3 hB1 hz0
  clear hh
  go_wp2
  go_region
  all_goals (try go_wp2)
  all_goals go_region
  all_goals (try go_wp2_with (first | (go_at_call 66; refine (within_b _ _ _ _ (by assumption) _).mono ?_; rintro e wq ⟨rfl, hwq⟩; subst wq) | (go_at_call 58; refine (hasBit_d true S _ (by assumption) (by omega) (by omega) (by assumption) _).mono ?_; rintro e wq ⟨rfl, hwq⟩; subst wq)))
  all_goals go_ret
  all_goals exact ⟨rfl, ((((below1 _ _).andThen hB1).more _).more _).drew.drew⟩

set_option maxHeartbeats 800000 in
theorem beside_1_x (W H S K : Nat) (ok : Ok W H S) (hk : K < W * H) (hh : hasB W H S K = true) (x y : Int) (hx : (K : Int) % (W : Int) = x) (hy : (K : Int) / (W : Int) + 1 = y) (h1 : inB x 0 ((W : Int) - 1) = false) (w : World) :
    Calls Try.prog 63 #[.agg #[.int .i64 W, .int .i64 H, .int .i64 S], .int .i64 K, .int .i64 1] w fun e w' => e = .returned (.int .i64 (-1)) ∧ Below w.heap.size w w' := by
  have hS := ok.lt63
  have hbd := mod_bd ok hk
  have hw1 : (1 : Int) ≤ (W : Int) := by have := ok.w1; omega
  have hw7 : (W : Int) ≤ 7 := by have := ok.w7; omega
  have hh1 : (1 : Int) ≤ (H : Int) := by have := ok.h1; omega
  have hh7 : (H : Int) ≤ 7 := by have := ok.h7; omega
  have hxb : -1 ≤ x ∧ x ≤ 7 := by omega
  have hyb : -1 ≤ y ∧ y ≤ 7 := by omega
  go_enter Try.func63, Try.ntmps63
  have hz0 : w.heap.size < (w.alloc (.cells #[.int .i64 W, .int .i64 H, .int .i64 S] 26)).heap.size := by simp
  go_wp2_with fail
  refine (HasHole_b _ _ _ _ _ hh _).mono ?_
  rintro e w1 ⟨rfl, hB1⟩
  obtain ⟨hc1, hf1, hz1⟩ := bcell3 hB1 hz0
  clear hh
  go_wp2
  go_region
  all_goals (try go_wp2)
  all_goals go_region
  all_goals (try go_wp2_with (go_at_call 66; refine (within_b _ _ _ _ (by assumption) _).mono ?_; rintro e wq ⟨rfl, hwq⟩; subst wq))
  all_goals go_ret
  all_goals exact ⟨rfl, ((((below1 _ _).andThen hB1).more _).more _).drew.drew⟩

set_option maxHeartbeats 800000 in
theorem beside_1_y (W H S K : Nat) (ok : Ok W H S) (hk : K < W * H) (hh : hasB W H S K = true) (x y : Int) (hx : (K : Int) % (W : Int) = x) (hy : (K : Int) / (W : Int) + 1 = y) (h1 : inB x 0 ((W : Int) - 1) = true) (h2 : inB y 0 ((H : Int) - 1) = false) (w : World) :
    Calls Try.prog 63 #[.agg #[.int .i64 W, .int .i64 H, .int .i64 S], .int .i64 K, .int .i64 1] w fun e w' => e = .returned (.int .i64 (-1)) ∧ Below w.heap.size w w' := by
  have hS := ok.lt63
  have hbd := mod_bd ok hk
  have hw1 : (1 : Int) ≤ (W : Int) := by have := ok.w1; omega
  have hw7 : (W : Int) ≤ 7 := by have := ok.w7; omega
  have hh1 : (1 : Int) ≤ (H : Int) := by have := ok.h1; omega
  have hh7 : (H : Int) ≤ 7 := by have := ok.h7; omega
  have hxb : -1 ≤ x ∧ x ≤ 7 := by omega
  have hyb : -1 ≤ y ∧ y ≤ 7 := by omega
  go_enter Try.func63, Try.ntmps63
  have hz0 : w.heap.size < (w.alloc (.cells #[.int .i64 W, .int .i64 H, .int .i64 S] 26)).heap.size := by simp
  go_wp2_with fail
  refine (HasHole_b _ _ _ _ _ hh _).mono ?_
  rintro e w1 ⟨rfl, hB1⟩
  obtain ⟨hc1, hf1, hz1⟩ := bcell3 hB1 hz0
  clear hh
  go_wp2
  go_region
  all_goals (try go_wp2)
  all_goals go_region
  all_goals (try go_wp2_with (go_at_call 66; refine (within_b _ _ _ _ (by assumption) _).mono ?_; rintro e wq ⟨rfl, hwq⟩; subst wq))
  all_goals go_ret
  all_goals exact ⟨rfl, ((((below1 _ _).andThen hB1).more _).more _).drew.drew⟩

set_option maxHeartbeats 800000 in
theorem beside_1_n (W H S K : Nat) (ok : Ok W H S) (hk : K < W * H) (hh : hasB W H S K = true) (x y : Int) (hx : (K : Int) % (W : Int) = x) (hy : (K : Int) / (W : Int) + 1 = y) (h1 : inB x 0 ((W : Int) - 1) = true) (h2 : inB y 0 ((H : Int) - 1) = true) (h3 : S.testBit (y * W + x).toNat = false) (w : World) :
    Calls Try.prog 63 #[.agg #[.int .i64 W, .int .i64 H, .int .i64 S], .int .i64 K, .int .i64 1] w fun e w' => e = .returned (.int .i64 (-1)) ∧ Below w.heap.size w w' := by
  have hS := ok.lt63
  have hbd := mod_bd ok hk
  have hw1 : (1 : Int) ≤ (W : Int) := by have := ok.w1; omega
  have hw7 : (W : Int) ≤ 7 := by have := ok.w7; omega
  have hh1 : (1 : Int) ≤ (H : Int) := by have := ok.h1; omega
  have hh7 : (H : Int) ≤ 7 := by have := ok.h7; omega
  have hxb : -1 ≤ x ∧ x ≤ 7 := by omega
  have hyb : -1 ≤ y ∧ y ≤ 7 := by omega
  have hpb := place_bd ok h1 h2
  go_enter Try.func63, Try.ntmps63
  have hz0 : w.heap.size < (w.alloc (.cells #[.int .i64 W, .int .i64 H, .int .i64 S] 26)).heap.size := by simp
  go_wp2_with fail
  refine (HasHole_b _ _ _ _ _ hh _).mono ?_
  rintro e w1 ⟨rfl, hB1⟩
  obtain ⟨hc1, hf1, hz1⟩ := bcell3 hB1 hz0
  clear hh
  go_wp2
  go_region
  all_goals (try go_wp2)
  all_goals go_region
  all_goals (try go_wp2_with (first | (go_at_call 66; refine (within_b _ _ _ _ (by assumption) _).mono ?_; rintro e wq ⟨rfl, hwq⟩; subst wq) | (go_at_call 58; refine (hasBit_d false S _ (by assumption) (by omega) (by omega) (by assumption) _).mono ?_; rintro e wq ⟨rfl, hwq⟩; subst wq)))
  all_goals go_ret
  all_goals exact ⟨rfl, ((((below1 _ _).andThen hB1).more _).more _).drew.drew⟩

set_option maxHeartbeats 800000 in
theorem beside_1_j (W H S K : Nat) (ok : Ok W H S) (hk : K < W * H) (hh : hasB W H S K = true) (x y : Int) (hx : (K : Int) % (W : Int) = x) (hy : (K : Int) / (W : Int) + 1 = y) (h1 : inB x 0 ((W : Int) - 1) = true) (h2 : inB y 0 ((H : Int) - 1) = true) (h3 : S.testBit (y * W + x).toNat = true) (w : World) :
    Calls Try.prog 63 #[.agg #[.int .i64 W, .int .i64 H, .int .i64 S], .int .i64 K, .int .i64 1] w fun e w' => e = .returned (.int .i64 (y * W + x)) ∧ Below w.heap.size w w' := by
  have hS := ok.lt63
  have hbd := mod_bd ok hk
  have hw1 : (1 : Int) ≤ (W : Int) := by have := ok.w1; omega
  have hw7 : (W : Int) ≤ 7 := by have := ok.w7; omega
  have hh1 : (1 : Int) ≤ (H : Int) := by have := ok.h1; omega
  have hh7 : (H : Int) ≤ 7 := by have := ok.h7; omega
  have hxb : -1 ≤ x ∧ x ≤ 7 := by omega
  have hyb : -1 ≤ y ∧ y ≤ 7 := by omega
  have hpb := place_bd ok h1 h2
  go_enter Try.func63, Try.ntmps63
  have hz0 : w.heap.size < (w.alloc (.cells #[.int .i64 W, .int .i64 H, .int .i64 S] 26)).heap.size := by simp
  go_wp2_with fail
  refine (HasHole_b _ _ _ _ _ hh _).mono ?_
  rintro e w1 ⟨rfl, hB1⟩
  obtain ⟨hc1, hf1, hz1⟩ := bcell3 hB1 hz0
  clear hh
  go_wp2
  go_region
  all_goals (try go_wp2)
  all_goals go_region
  all_goals (try go_wp2_with (first | (go_at_call 66; refine (within_b _ _ _ _ (by assumption) _).mono ?_; rintro e wq ⟨rfl, hwq⟩; subst wq) | (go_at_call 58; refine (hasBit_d true S _ (by assumption) (by omega) (by omega) (by assumption) _).mono ?_; rintro e wq ⟨rfl, hwq⟩; subst wq)))
  all_goals go_ret
  all_goals exact ⟨rfl, ((((below1 _ _).andThen hB1).more _).more _).drew.drew⟩

set_option maxHeartbeats 800000 in
theorem beside_2_x (W H S K : Nat) (ok : Ok W H S) (hk : K < W * H) (hh : hasB W H S K = true) (x y : Int) (hx : (K : Int) % (W : Int) + -1 = x) (hy : (K : Int) / (W : Int) = y) (h1 : inB x 0 ((W : Int) - 1) = false) (w : World) :
    Calls Try.prog 63 #[.agg #[.int .i64 W, .int .i64 H, .int .i64 S], .int .i64 K, .int .i64 2] w fun e w' => e = .returned (.int .i64 (-1)) ∧ Below w.heap.size w w' := by
  have hS := ok.lt63
  have hbd := mod_bd ok hk
  have hw1 : (1 : Int) ≤ (W : Int) := by have := ok.w1; omega
  have hw7 : (W : Int) ≤ 7 := by have := ok.w7; omega
  have hh1 : (1 : Int) ≤ (H : Int) := by have := ok.h1; omega
  have hh7 : (H : Int) ≤ 7 := by have := ok.h7; omega
  have hxb : -1 ≤ x ∧ x ≤ 7 := by omega
  have hyb : -1 ≤ y ∧ y ≤ 7 := by omega
  go_enter Try.func63, Try.ntmps63
  have hz0 : w.heap.size < (w.alloc (.cells #[.int .i64 W, .int .i64 H, .int .i64 S] 26)).heap.size := by simp
  go_wp2_with fail
  refine (HasHole_b _ _ _ _ _ hh _).mono ?_
  rintro e w1 ⟨rfl, hB1⟩
  obtain ⟨hc1, hf1, hz1⟩ := bcell3 hB1 hz0
  clear hh
  go_wp2
  go_region
  all_goals (try go_wp2)
  all_goals go_region
  all_goals (try go_wp2_with (go_at_call 66; refine (within_b _ _ _ _ (by assumption) _).mono ?_; rintro e wq ⟨rfl, hwq⟩; subst wq))
  all_goals go_ret
  all_goals exact ⟨rfl, ((((below1 _ _).andThen hB1).more _).more _).drew.drew⟩

set_option maxHeartbeats 800000 in
theorem beside_2_y (W H S K : Nat) (ok : Ok W H S) (hk : K < W * H) (hh : hasB W H S K = true) (x y : Int) (hx : (K : Int) % (W : Int) + -1 = x) (hy : (K : Int) / (W : Int) = y) (h1 : inB x 0 ((W : Int) - 1) = true) (h2 : inB y 0 ((H : Int) - 1) = false) (w : World) :
    Calls Try.prog 63 #[.agg #[.int .i64 W, .int .i64 H, .int .i64 S], .int .i64 K, .int .i64 2] w fun e w' => e = .returned (.int .i64 (-1)) ∧ Below w.heap.size w w' := by
  have hS := ok.lt63
  have hbd := mod_bd ok hk
  have hw1 : (1 : Int) ≤ (W : Int) := by have := ok.w1; omega
  have hw7 : (W : Int) ≤ 7 := by have := ok.w7; omega
  have hh1 : (1 : Int) ≤ (H : Int) := by have := ok.h1; omega
  have hh7 : (H : Int) ≤ 7 := by have := ok.h7; omega
  have hxb : -1 ≤ x ∧ x ≤ 7 := by omega
  have hyb : -1 ≤ y ∧ y ≤ 7 := by omega
  go_enter Try.func63, Try.ntmps63
  have hz0 : w.heap.size < (w.alloc (.cells #[.int .i64 W, .int .i64 H, .int .i64 S] 26)).heap.size := by simp
  go_wp2_with fail
  refine (HasHole_b _ _ _ _ _ hh _).mono ?_
  rintro e w1 ⟨rfl, hB1⟩
  obtain ⟨hc1, hf1, hz1⟩ := bcell3 hB1 hz0
  clear hh
  go_wp2
  go_region
  all_goals (try go_wp2)
  all_goals go_region
  all_goals (try go_wp2_with (go_at_call 66; refine (within_b _ _ _ _ (by assumption) _).mono ?_; rintro e wq ⟨rfl, hwq⟩; subst wq))
  all_goals go_ret
  all_goals exact ⟨rfl, ((((below1 _ _).andThen hB1).more _).more _).drew.drew⟩

set_option maxHeartbeats 800000 in
theorem beside_2_n (W H S K : Nat) (ok : Ok W H S) (hk : K < W * H) (hh : hasB W H S K = true) (x y : Int) (hx : (K : Int) % (W : Int) + -1 = x) (hy : (K : Int) / (W : Int) = y) (h1 : inB x 0 ((W : Int) - 1) = true) (h2 : inB y 0 ((H : Int) - 1) = true) (h3 : S.testBit (y * W + x).toNat = false) (w : World) :
    Calls Try.prog 63 #[.agg #[.int .i64 W, .int .i64 H, .int .i64 S], .int .i64 K, .int .i64 2] w fun e w' => e = .returned (.int .i64 (-1)) ∧ Below w.heap.size w w' := by
  have hS := ok.lt63
  have hbd := mod_bd ok hk
  have hw1 : (1 : Int) ≤ (W : Int) := by have := ok.w1; omega
  have hw7 : (W : Int) ≤ 7 := by have := ok.w7; omega
  have hh1 : (1 : Int) ≤ (H : Int) := by have := ok.h1; omega
  have hh7 : (H : Int) ≤ 7 := by have := ok.h7; omega
  have hxb : -1 ≤ x ∧ x ≤ 7 := by omega
  have hyb : -1 ≤ y ∧ y ≤ 7 := by omega
  have hpb := place_bd ok h1 h2
  go_enter Try.func63, Try.ntmps63
  have hz0 : w.heap.size < (w.alloc (.cells #[.int .i64 W, .int .i64 H, .int .i64 S] 26)).heap.size := by simp
  go_wp2_with fail
  refine (HasHole_b _ _ _ _ _ hh _).mono ?_
  rintro e w1 ⟨rfl, hB1⟩
  obtain ⟨hc1, hf1, hz1⟩ := bcell3 hB1 hz0
  clear hh
  go_wp2
  go_region
  all_goals (try go_wp2)
  all_goals go_region
  all_goals (try go_wp2_with (first | (go_at_call 66; refine (within_b _ _ _ _ (by assumption) _).mono ?_; rintro e wq ⟨rfl, hwq⟩; subst wq) | (go_at_call 58; refine (hasBit_d false S _ (by assumption) (by omega) (by omega) (by assumption) _).mono ?_; rintro e wq ⟨rfl, hwq⟩; subst wq)))
  all_goals go_ret
  all_goals exact ⟨rfl, ((((below1 _ _).andThen hB1).more _).more _).drew.drew⟩

set_option maxHeartbeats 800000 in
theorem beside_2_j (W H S K : Nat) (ok : Ok W H S) (hk : K < W * H) (hh : hasB W H S K = true) (x y : Int) (hx : (K : Int) % (W : Int) + -1 = x) (hy : (K : Int) / (W : Int) = y) (h1 : inB x 0 ((W : Int) - 1) = true) (h2 : inB y 0 ((H : Int) - 1) = true) (h3 : S.testBit (y * W + x).toNat = true) (w : World) :
    Calls Try.prog 63 #[.agg #[.int .i64 W, .int .i64 H, .int .i64 S], .int .i64 K, .int .i64 2] w fun e w' => e = .returned (.int .i64 (y * W + x)) ∧ Below w.heap.size w w' := by
  have hS := ok.lt63
  have hbd := mod_bd ok hk
  have hw1 : (1 : Int) ≤ (W : Int) := by have := ok.w1; omega
  have hw7 : (W : Int) ≤ 7 := by have := ok.w7; omega
  have hh1 : (1 : Int) ≤ (H : Int) := by have := ok.h1; omega
  have hh7 : (H : Int) ≤ 7 := by have := ok.h7; omega
  have hxb : -1 ≤ x ∧ x ≤ 7 := by omega
  have hyb : -1 ≤ y ∧ y ≤ 7 := by omega
  have hpb := place_bd ok h1 h2
  go_enter Try.func63, Try.ntmps63
  have hz0 : w.heap.size < (w.alloc (.cells #[.int .i64 W, .int .i64 H, .int .i64 S] 26)).heap.size := by simp
  go_wp2_with fail
  refine (HasHole_b _ _ _ _ _ hh _).mono ?_
  rintro e w1 ⟨rfl, hB1⟩
  obtain ⟨hc1, hf1, hz1⟩ := bcell3 hB1 hz0
  clear hh
  go_wp2
  go_region
  all_goals (try go_wp2)
  all_goals go_region
  all_goals (try go_wp2_with (first | (go_at_call 66; refine (within_b _ _ _ _ (by assumption) _).mono ?_; rintro e wq ⟨rfl, hwq⟩; subst wq) | (go_at_call 58; refine (hasBit_d true S _ (by assumption) (by omega) (by omega) (by assumption) _).mono ?_; rintro e wq ⟨rfl, hwq⟩; subst wq)))
  all_goals go_ret
  all_goals exact ⟨rfl, ((((below1 _ _).andThen hB1).more _).more _).drew.drew⟩

set_option maxHeartbeats 800000 in
theorem beside_3_x (W H S K : Nat) (ok : Ok W H S) (hk : K < W * H) (hh : hasB W H S K = true) (x y : Int) (hx : (K : Int) % (W : Int) = x) (hy : (K : Int) / (W : Int) + -1 = y) (h1 : inB x 0 ((W : Int) - 1) = false) (w : World) :
    Calls Try.prog 63 #[.agg #[.int .i64 W, .int .i64 H, .int .i64 S], .int .i64 K, .int .i64 3] w fun e w' => e = .returned (.int .i64 (-1)) ∧ Below w.heap.size w w' := by
  have hS := ok.lt63
  have hbd := mod_bd ok hk
  have hw1 : (1 : Int) ≤ (W : Int) := by have := ok.w1; omega
  have hw7 : (W : Int) ≤ 7 := by have := ok.w7; omega
  have hh1 : (1 : Int) ≤ (H : Int) := by have := ok.h1; omega
  have hh7 : (H : Int) ≤ 7 := by have := ok.h7; omega
  have hxb : -1 ≤ x ∧ x ≤ 7 := by omega
  have hyb : -1 ≤ y ∧ y ≤ 7 := by omega
  go_enter Try.func63, Try.ntmps63
  have hz0 : w.heap.size < (w.alloc (.cells #[.int .i64 W, .int .i64 H, .int .i64 S] 26)).heap.size := by simp
  go_wp2_with fail
  refine (HasHole_b _ _ _ _ _ hh _).mono ?_
  rintro e w1 ⟨rfl, hB1⟩
  obtain ⟨hc1, hf1, hz1⟩ := bcell3 hB1 hz0
  clear hh
  go_wp2
  go_region
  all_goals (try go_wp2)
  all_goals go_region
  all_goals (try go_wp2_with (go_at_call 66; refine (within_b _ _ _ _ (by assumption) _).mono ?_; rintro e wq ⟨rfl, hwq⟩; subst wq))
  all_goals go_ret
  all_goals exact ⟨rfl, ((((below1 _ _).andThen hB1).more _).more _).drew.drew⟩

set_option maxHeartbeats 800000 in
theorem beside_3_y (W H S K : Nat) (ok : Ok W H S) (hk : K < W * H) (hh : hasB W H S K = true) (x y : Int) (hx : (K : Int) % (W : Int) = x) (hy : (K : Int) / (W : Int) + -1 = y) (h1 : inB x 0 ((W : Int) - 1) = true) (h2 : inB y 0 ((H : Int) - 1) = false) (w : World) :
    Calls Try.prog 63 #[.agg #[.int .i64 W, .int .i64 H, .int .i64 S], .int .i64 K, .int .i64 3] w fun e w' => e = .returned (.int .i64 (-1)) ∧ Below w.heap.size w w' := by
  have hS := ok.lt63
  have hbd := mod_bd ok hk
  have hw1 : (1 : Int) ≤ (W : Int) := by have := ok.w1; omega
  have hw7 : (W : Int) ≤ 7 := by have := ok.w7; omega
  have hh1 : (1 : Int) ≤ (H : Int) := by have := ok.h1; omega
  have hh7 : (H : Int) ≤ 7 := by have := ok.h7; omega
  have hxb : -1 ≤ x ∧ x ≤ 7 := by omega
  have hyb : -1 ≤ y ∧ y ≤ 7 := by omega
  go_enter Try.func63, Try.ntmps63
  have hz0 : w.heap.size < (w.alloc (.cells #[.int .i64 W, .int .i64 H, .int .i64 S] 26)).heap.size := by simp
  go_wp2_with fail
  refine (HasHole_b _ _ _ _ _ hh _).mono ?_
  rintro e w1 ⟨rfl, hB1⟩
  obtain ⟨hc1, hf1, hz1⟩ := bcell3 hB1 hz0
  clear hh
  go_wp2
  go_region
  all_goals (try go_wp2)
  all_goals go_region
  all_goals (try go_wp2_with (go_at_call 66; refine (within_b _ _ _ _ (by assumption) _).mono ?_; rintro e wq ⟨rfl, hwq⟩; subst wq))
  all_goals go_ret
  all_goals exact ⟨rfl, ((((below1 _ _).andThen hB1).more _).more _).drew.drew⟩

set_option maxHeartbeats 800000 in
theorem beside_3_n (W H S K : Nat) (ok : Ok W H S) (hk : K < W * H) (hh : hasB W H S K = true) (x y : Int) (hx : (K : Int) % (W : Int) = x) (hy : (K : Int) / (W : Int) + -1 = y) (h1 : inB x 0 ((W : Int) - 1) = true) (h2 : inB y 0 ((H : Int) - 1) = true) (h3 : S.testBit (y * W + x).toNat = false) (w : World) :
    Calls Try.prog 63 #[.agg #[.int .i64 W, .int .i64 H, .int .i64 S], .int .i64 K, .int .i64 3] w fun e w' => e = .returned (.int .i64 (-1)) ∧ Below w.heap.size w w' := by
  have hS := ok.lt63
  have hbd := mod_bd ok hk
  have hw1 : (1 : Int) ≤ (W : Int) := by have := ok.w1; omega
  have hw7 : (W : Int) ≤ 7 := by have := ok.w7; omega
  have hh1 : (1 : Int) ≤ (H : Int) := by have := ok.h1; omega
  have hh7 : (H : Int) ≤ 7 := by have := ok.h7; omega
  have hxb : -1 ≤ x ∧ x ≤ 7 := by omega
  have hyb : -1 ≤ y ∧ y ≤ 7 := by omega
  have hpb := place_bd ok h1 h2
  go_enter Try.func63, Try.ntmps63
  have hz0 : w.heap.size < (w.alloc (.cells #[.int .i64 W, .int .i64 H, .int .i64 S] 26)).heap.size := by simp
  go_wp2_with fail
  refine (HasHole_b _ _ _ _ _ hh _).mono ?_
  rintro e w1 ⟨rfl, hB1⟩
  obtain ⟨hc1, hf1, hz1⟩ := bcell3 hB1 hz0
  clear hh
  go_wp2
  go_region
  all_goals (try go_wp2)
  all_goals go_region
  all_goals (try go_wp2_with (first | (go_at_call 66; refine (within_b _ _ _ _ (by assumption) _).mono ?_; rintro e wq ⟨rfl, hwq⟩; subst wq) | (go_at_call 58; refine (hasBit_d false S _ (by assumption) (by omega) (by omega) (by assumption) _).mono ?_; rintro e wq ⟨rfl, hwq⟩; subst wq)))
  all_goals go_ret
  all_goals exact ⟨rfl, ((((below1 _ _).andThen hB1).more _).more _).drew.drew⟩

set_option maxHeartbeats 800000 in
theorem beside_3_j (W H S K : Nat) (ok : Ok W H S) (hk : K < W * H) (hh : hasB W H S K = true) (x y : Int) (hx : (K : Int) % (W : Int) = x) (hy : (K : Int) / (W : Int) + -1 = y) (h1 : inB x 0 ((W : Int) - 1) = true) (h2 : inB y 0 ((H : Int) - 1) = true) (h3 : S.testBit (y * W + x).toNat = true) (w : World) :
    Calls Try.prog 63 #[.agg #[.int .i64 W, .int .i64 H, .int .i64 S], .int .i64 K, .int .i64 3] w fun e w' => e = .returned (.int .i64 (y * W + x)) ∧ Below w.heap.size w w' := by
  have hS := ok.lt63
  have hbd := mod_bd ok hk
  have hw1 : (1 : Int) ≤ (W : Int) := by have := ok.w1; omega
  have hw7 : (W : Int) ≤ 7 := by have := ok.w7; omega
  have hh1 : (1 : Int) ≤ (H : Int) := by have := ok.h1; omega
  have hh7 : (H : Int) ≤ 7 := by have := ok.h7; omega
  have hxb : -1 ≤ x ∧ x ≤ 7 := by omega
  have hyb : -1 ≤ y ∧ y ≤ 7 := by omega
  have hpb := place_bd ok h1 h2
  go_enter Try.func63, Try.ntmps63
  have hz0 : w.heap.size < (w.alloc (.cells #[.int .i64 W, .int .i64 H, .int .i64 S] 26)).heap.size := by simp
  go_wp2_with fail
  refine (HasHole_b _ _ _ _ _ hh _).mono ?_
  rintro e w1 ⟨rfl, hB1⟩
  obtain ⟨hc1, hf1, hz1⟩ := bcell3 hB1 hz0
  clear hh
  go_wp2
  go_region
  all_goals (try go_wp2)
  all_goals go_region
  all_goals (try go_wp2_with (first | (go_at_call 66; refine (within_b _ _ _ _ (by assumption) _).mono ?_; rintro e wq ⟨rfl, hwq⟩; subst wq) | (go_at_call 58; refine (hasBit_d true S _ (by assumption) (by omega) (by omega) (by assumption) _).mono ?_; rintro e wq ⟨rfl, hwq⟩; subst wq)))
  all_goals go_ret
  all_goals exact ⟨rfl, ((((below1 _ _).andThen hB1).more _).more _).drew.drew⟩

set_option maxHeartbeats 800000 in
theorem l03Step_0_x (W H S K : Nat) (ok : Ok W H S) (hk : K < W * H) (x y : Int) (hx : (K : Int) % (W : Int) + 1 = x) (hy : (K : Int) / (W : Int) = y) (h1 : inB x 0 ((W : Int) - 1) = false) (w : World) :
    Calls Try.prog 86 #[.agg #[.int .i64 W, .int .i64 H, .int .i64 S], .int .i64 K, .int .i64 0] w fun e w' => e = .returned (.int .i64 (-1)) ∧ Below w.heap.size w w' := by
  have hS := ok.lt63
  have hbd := mod_bd ok hk
  have hw1 : (1 : Int) ≤ (W : Int) := by have := ok.w1; omega
  have hw7 : (W : Int) ≤ 7 := by have := ok.w7; omega
  have hh1 : (1 : Int) ≤ (H : Int) := by have := ok.h1; omega
  have hh7 : (H : Int) ≤ 7 := by have := ok.h7; omega
  have hxb : -1 ≤ x ∧ x ≤ 7 := by omega
  have hyb : -1 ≤ y ∧ y ≤ 7 := by omega
  go_enter Try.func86, Try.ntmps86
  have hz0 : w.heap.size < (w.alloc (.cells #[.int .i64 W, .int .i64 H, .int .i64 S] 26)).heap.size := by simp
  go_wp2
  go_region
  all_goals (try go_wp2)
  all_goals go_region
  all_goals (try go_wp2_with (go_at_call 84; refine (l01In_b _ _ _ _ (by assumption) _).mono ?_; rintro e wq ⟨rfl, hwq⟩; subst wq))
  all_goals go_ret
  all_goals exact ⟨rfl, (((below1 _ _).more _).more _).drew.drew⟩

set_option maxHeartbeats 800000 in
theorem l03Step_0_y (W H S K : Nat) (ok : Ok W H S) (hk : K < W * H) (x y : Int) (hx : (K : Int) % (W : Int) + 1 = x) (hy : (K : Int) / (W : Int) = y) (h1 : inB x 0 ((W : Int) - 1) = true) (h2 : inB y 0 ((H : Int) - 1) = false) (w : World) :
    Calls Try.prog 86 #[.agg #[.int .i64 W, .int .i64 H, .int .i64 S], .int .i64 K, .int .i64 0] w fun e w' => e = .returned (.int .i64 (-1)) ∧ Below w.heap.size w w' := by
  have hS := ok.lt63
  have hbd := mod_bd ok hk
  have hw1 : (1 : Int) ≤ (W : Int) := by have := ok.w1; omega
  have hw7 : (W : Int) ≤ 7 := by have := ok.w7; omega
  have hh1 : (1 : Int) ≤ (H : Int) := by have := ok.h1; omega
  have hh7 : (H : Int) ≤ 7 := by have := ok.h7; omega
  have hxb : -1 ≤ x ∧ x ≤ 7 := by omega
  have hyb : -1 ≤ y ∧ y ≤ 7 := by omega
  go_enter Try.func86, Try.ntmps86
  have hz0 : w.heap.size < (w.alloc (.cells #[.int .i64 W, .int .i64 H, .int .i64 S] 26)).heap.size := by simp
  go_wp2
  go_region
  all_goals (try go_wp2)
  all_goals go_region
  all_goals (try go_wp2_with (go_at_call 84; refine (l01In_b _ _ _ _ (by assumption) _).mono ?_; rintro e wq ⟨rfl, hwq⟩; subst wq))
  all_goals go_ret
  all_goals exact ⟨rfl, (((below1 _ _).more _).more _).drew.drew⟩

set_option maxHeartbeats 800000 in
theorem l03Step_0_n (W H S K : Nat) (ok : Ok W H S) (hk : K < W * H) (x y : Int) (hx : (K : Int) % (W : Int) + 1 = x) (hy : (K : Int) / (W : Int) = y) (h1 : inB x 0 ((W : Int) - 1) = true) (h2 : inB y 0 ((H : Int) - 1) = true) (h3 : S.testBit (y * W + x).toNat = false) (w : World) :
    Calls Try.prog 86 #[.agg #[.int .i64 W, .int .i64 H, .int .i64 S], .int .i64 K, .int .i64 0] w fun e w' => e = .returned (.int .i64 (-1)) ∧ Below w.heap.size w w' := by
  have hS := ok.lt63
  have hbd := mod_bd ok hk
  have hw1 : (1 : Int) ≤ (W : Int) := by have := ok.w1; omega
  have hw7 : (W : Int) ≤ 7 := by have := ok.w7; omega
  have hh1 : (1 : Int) ≤ (H : Int) := by have := ok.h1; omega
  have hh7 : (H : Int) ≤ 7 := by have := ok.h7; omega
  have hxb : -1 ≤ x ∧ x ≤ 7 := by omega
  have hyb : -1 ≤ y ∧ y ≤ 7 := by omega
  have hpb := place_bd ok h1 h2
  have hz := bit_zero S (y * W + x) hS (by omega) (by omega)
  rw [h3] at hz
  have H3 := Lib.hid h3
  clear h3
  go_enter Try.func86, Try.ntmps86
  have hz0 : w.heap.size < (w.alloc (.cells #[.int .i64 W, .int .i64 H, .int .i64 S] 26)).heap.size := by simp
  go_wp2
  go_region
  all_goals (try go_wp2)
  all_goals go_region
  all_goals (try go_wp2_with (go_at_call 84; refine (l01In_b _ _ _ _ (by assumption) _).mono ?_; rintro e wq ⟨rfl, hwq⟩; subst wq))
  all_goals go_ret
  all_goals exact ⟨rfl, (((below1 _ _).more _).more _).drew.drew⟩

set_option maxHeartbeats 800000 in
theorem l03Step_0_j (W H S K : Nat) (ok : Ok W H S) (hk : K < W * H) (x y : Int) (hx : (K : Int) % (W : Int) + 1 = x) (hy : (K : Int) / (W : Int) = y) (h1 : inB x 0 ((W : Int) - 1) = true) (h2 : inB y 0 ((H : Int) - 1) = true) (h3 : S.testBit (y * W + x).toNat = true) (w : World) :
    Calls Try.prog 86 #[.agg #[.int .i64 W, .int .i64 H, .int .i64 S], .int .i64 K, .int .i64 0] w fun e w' => e = .returned (.int .i64 (y * W + x)) ∧ Below w.heap.size w w' := by
  have hS := ok.lt63
  have hbd := mod_bd ok hk
  have hw1 : (1 : Int) ≤ (W : Int) := by have := ok.w1; omega
  have hw7 : (W : Int) ≤ 7 := by have := ok.w7; omega
  have hh1 : (1 : Int) ≤ (H : Int) := by have := ok.h1; omega
  have hh7 : (H : Int) ≤ 7 := by have := ok.h7; omega
  have hxb : -1 ≤ x ∧ x ≤ 7 := by omega
  have hyb : -1 ≤ y ∧ y ≤ 7 := by omega
  have hpb := place_bd ok h1 h2
  have hz := bit_zero S (y * W + x) hS (by omega) (by omega)
  rw [h3] at hz
  have H3 := Lib.hid h3
  clear h3
  go_enter Try.func86, Try.ntmps86
  have hz0 : w.heap.size < (w.alloc (.cells #[.int .i64 W, .int .i64 H, .int .i64 S] 26)).heap.size := by simp
  go_wp2
  go_region
  all_goals (try go_wp2)
  all_goals go_region
  all_goals (try go_wp2_with (go_at_call 84; refine (l01In_b _ _ _ _ (by assumption) _).mono ?_; rintro e wq ⟨rfl, hwq⟩; subst wq))
  all_goals go_ret
  all_goals exact ⟨rfl, (((below1 _ _).more _).more _).drew.drew⟩

set_option maxHeartbeats 800000 in
theorem l03Step_1_x (W H S K : Nat) (ok : Ok W H S) (hk : K < W * H) (x y : Int) (hx : (K : Int) % (W : Int) = x) (hy : (K : Int) / (W : Int) + 1 = y) (h1 : inB x 0 ((W : Int) - 1) = false) (w : World) :
    Calls Try.prog 86 #[.agg #[.int .i64 W, .int .i64 H, .int .i64 S], .int .i64 K, .int .i64 1] w fun e w' => e = .returned (.int .i64 (-1)) ∧ Below w.heap.size w w' := by
  have hS := ok.lt63
  have hbd := mod_bd ok hk
  have hw1 : (1 : Int) ≤ (W : Int) := by have := ok.w1; omega
  have hw7 : (W : Int) ≤ 7 := by have := ok.w7; omega
  have hh1 : (1 : Int) ≤ (H : Int) := by have := ok.h1; omega
  have hh7 : (H : Int) ≤ 7 := by have := ok.h7; omega
  have hxb : -1 ≤ x ∧ x ≤ 7 := by omega
  have hyb : -1 ≤ y ∧ y ≤ 7 := by omega
  go_enter Try.func86, Try.ntmps86
  have hz0 : w.heap.size < (w.alloc (.cells #[.int .i64 W, .int .i64 H, .int .i64 S] 26)).heap.size := by simp
  go_wp2
  go_region
  all_goals (try go_wp2)
  all_goals go_region
  all_goals (try go_wp2_with (go_at_call 84; refine (l01In_b _ _ _ _ (by assumption) _).mono ?_; rintro e wq ⟨rfl, hwq⟩; subst wq))
  all_goals go_ret
  all_goals exact ⟨rfl, (((below1 _ _).more _).more _).drew.drew⟩

set_option maxHeartbeats 800000 in
theorem l03Step_1_y (W H S K : Nat) (ok : Ok W H S) (hk : K < W * H) (x y : Int) (hx : (K : Int) % (W : Int) = x) (hy : (K : Int) / (W : Int) + 1 = y) (h1 : inB x 0 ((W : Int) - 1) = true) (h2 : inB y 0 ((H : Int) - 1) = false) (w : World) :
    Calls Try.prog 86 #[.agg #[.int .i64 W, .int .i64 H, .int .i64 S], .int .i64 K, .int .i64 1] w fun e w' => e = .returned (.int .i64 (-1)) ∧ Below w.heap.size w w' := by
  have hS := ok.lt63
  have hbd := mod_bd ok hk
  have hw1 : (1 : Int) ≤ (W : Int) := by have := ok.w1; omega
  have hw7 : (W : Int) ≤ 7 := by have := ok.w7; omega
  have hh1 : (1 : Int) ≤ (H : Int) := by have := ok.h1; omega
  have hh7 : (H : Int) ≤ 7 := by have := ok.h7; omega
  have hxb : -1 ≤ x ∧ x ≤ 7 := by omega
  have hyb : -1 ≤ y ∧ y ≤ 7 := by omega
  go_enter Try.func86, Try.ntmps86
  have hz0 : w.heap.size < (w.alloc (.cells #[.int .i64 W, .int .i64 H, .int .i64 S] 26)).heap.size := by simp
  go_wp2
  go_region
  all_goals (try go_wp2)
  all_goals go_region
  all_goals (try go_wp2_with (go_at_call 84; refine (l01In_b _ _ _ _ (by assumption) _).mono ?_; rintro e wq ⟨rfl, hwq⟩; subst wq))
  all_goals go_ret
  all_goals exact ⟨rfl, (((below1 _ _).more _).more _).drew.drew⟩

set_option maxHeartbeats 800000 in
theorem l03Step_1_n (W H S K : Nat) (ok : Ok W H S) (hk : K < W * H) (x y : Int) (hx : (K : Int) % (W : Int) = x) (hy : (K : Int) / (W : Int) + 1 = y) (h1 : inB x 0 ((W : Int) - 1) = true) (h2 : inB y 0 ((H : Int) - 1) = true) (h3 : S.testBit (y * W + x).toNat = false) (w : World) :
    Calls Try.prog 86 #[.agg #[.int .i64 W, .int .i64 H, .int .i64 S], .int .i64 K, .int .i64 1] w fun e w' => e = .returned (.int .i64 (-1)) ∧ Below w.heap.size w w' := by
  have hS := ok.lt63
  have hbd := mod_bd ok hk
  have hw1 : (1 : Int) ≤ (W : Int) := by have := ok.w1; omega
  have hw7 : (W : Int) ≤ 7 := by have := ok.w7; omega
  have hh1 : (1 : Int) ≤ (H : Int) := by have := ok.h1; omega
  have hh7 : (H : Int) ≤ 7 := by have := ok.h7; omega
  have hxb : -1 ≤ x ∧ x ≤ 7 := by omega
  have hyb : -1 ≤ y ∧ y ≤ 7 := by omega
  have hpb := place_bd ok h1 h2
  have hz := bit_zero S (y * W + x) hS (by omega) (by omega)
  rw [h3] at hz
  have H3 := Lib.hid h3
  clear h3
  go_enter Try.func86, Try.ntmps86
  have hz0 : w.heap.size < (w.alloc (.cells #[.int .i64 W, .int .i64 H, .int .i64 S] 26)).heap.size := by simp
  go_wp2
  go_region
  all_goals (try go_wp2)
  all_goals go_region
  all_goals (try go_wp2_with (go_at_call 84; refine (l01In_b _ _ _ _ (by assumption) _).mono ?_; rintro e wq ⟨rfl, hwq⟩; subst wq))
  all_goals go_ret
  all_goals exact ⟨rfl, (((below1 _ _).more _).more _).drew.drew⟩

set_option maxHeartbeats 800000 in
theorem l03Step_1_j (W H S K : Nat) (ok : Ok W H S) (hk : K < W * H) (x y : Int) (hx : (K : Int) % (W : Int) = x) (hy : (K : Int) / (W : Int) + 1 = y) (h1 : inB x 0 ((W : Int) - 1) = true) (h2 : inB y 0 ((H : Int) - 1) = true) (h3 : S.testBit (y * W + x).toNat = true) (w : World) :
    Calls Try.prog 86 #[.agg #[.int .i64 W, .int .i64 H, .int .i64 S], .int .i64 K, .int .i64 1] w fun e w' => e = .returned (.int .i64 (y * W + x)) ∧ Below w.heap.size w w' := by
  have hS := ok.lt63
  have hbd := mod_bd ok hk
  have hw1 : (1 : Int) ≤ (W : Int) := by have := ok.w1; omega
  have hw7 : (W : Int) ≤ 7 := by have := ok.w7; omega
  have hh1 : (1 : Int) ≤ (H : Int) := by have := ok.h1; omega
  have hh7 : (H : Int) ≤ 7 := by have := ok.h7; omega
  have hxb : -1 ≤ x ∧ x ≤ 7 := by omega
  have hyb : -1 ≤ y ∧ y ≤ 7 := by omega
  have hpb := place_bd ok h1 h2
  have hz := bit_zero S (y * W + x) hS (by omega) (by omega)
  rw [h3] at hz
  have H3 := Lib.hid h3
  clear h3
  go_enter Try.func86, Try.ntmps86
  have hz0 : w.heap.size < (w.alloc (.cells #[.int .i64 W, .int .i64 H, .int .i64 S] 26)).heap.size := by simp
  go_wp2
  go_region
  all_goals (try go_wp2)
  all_goals go_region
  all_goals (try go_wp2_with (go_at_call 84; refine (l01In_b _ _ _ _ (by assumption) _).mono ?_; rintro e wq ⟨rfl, hwq⟩; subst wq))
  all_goals go_ret
  all_goals exact ⟨rfl, (((below1 _ _).more _).more _).drew.drew⟩

set_option maxHeartbeats 800000 in
theorem l03Step_2_x (W H S K : Nat) (ok : Ok W H S) (hk : K < W * H) (x y : Int) (hx : (K : Int) % (W : Int) + -1 = x) (hy : (K : Int) / (W : Int) = y) (h1 : inB x 0 ((W : Int) - 1) = false) (w : World) :
    Calls Try.prog 86 #[.agg #[.int .i64 W, .int .i64 H, .int .i64 S], .int .i64 K, .int .i64 2] w fun e w' => e = .returned (.int .i64 (-1)) ∧ Below w.heap.size w w' := by
  have hS := ok.lt63
  have hbd := mod_bd ok hk
  have hw1 : (1 : Int) ≤ (W : Int) := by have := ok.w1; omega
  have hw7 : (W : Int) ≤ 7 := by have := ok.w7; omega
  have hh1 : (1 : Int) ≤ (H : Int) := by have := ok.h1; omega
  have hh7 : (H : Int) ≤ 7 := by have := ok.h7; omega
  have hxb : -1 ≤ x ∧ x ≤ 7 := by omega
  have hyb : -1 ≤ y ∧ y ≤ 7 := by omega
  go_enter Try.func86, Try.ntmps86
  have hz0 : w.heap.size < (w.alloc (.cells #[.int .i64 W, .int .i64 H, .int .i64 S] 26)).heap.size := by simp
  go_wp2
  go_region
  all_goals (try go_wp2)
  all_goals go_region
  all_goals (try go_wp2_with (go_at_call 84; refine (l01In_b _ _ _ _ (by assumption) _).mono ?_; rintro e wq ⟨rfl, hwq⟩; subst wq))
  all_goals go_ret
  all_goals exact ⟨rfl, (((below1 _ _).more _).more _).drew.drew⟩

set_option maxHeartbeats 800000 in
theorem l03Step_2_y (W H S K : Nat) (ok : Ok W H S) (hk : K < W * H) (x y : Int) (hx : (K : Int) % (W : Int) + -1 = x) (hy : (K : Int) / (W : Int) = y) (h1 : inB x 0 ((W : Int) - 1) = true) (h2 : inB y 0 ((H : Int) - 1) = false) (w : World) :
    Calls Try.prog 86 #[.agg #[.int .i64 W, .int .i64 H, .int .i64 S], .int .i64 K, .int .i64 2] w fun e w' => e = .returned (.int .i64 (-1)) ∧ Below w.heap.size w w' := by
  have hS := ok.lt63
  have hbd := mod_bd ok hk
  have hw1 : (1 : Int) ≤ (W : Int) := by have := ok.w1; omega
  have hw7 : (W : Int) ≤ 7 := by have := ok.w7; omega
  have hh1 : (1 : Int) ≤ (H : Int) := by have := ok.h1; omega
  have hh7 : (H : Int) ≤ 7 := by have := ok.h7; omega
  have hxb : -1 ≤ x ∧ x ≤ 7 := by omega
  have hyb : -1 ≤ y ∧ y ≤ 7 := by omega
  go_enter Try.func86, Try.ntmps86
  have hz0 : w.heap.size < (w.alloc (.cells #[.int .i64 W, .int .i64 H, .int .i64 S] 26)).heap.size := by simp
  go_wp2
  go_region
  all_goals (try go_wp2)
  all_goals go_region
  all_goals (try go_wp2_with (go_at_call 84; refine (l01In_b _ _ _ _ (by assumption) _).mono ?_; rintro e wq ⟨rfl, hwq⟩; subst wq))
  all_goals go_ret
  all_goals exact ⟨rfl, (((below1 _ _).more _).more _).drew.drew⟩

set_option maxHeartbeats 800000 in
theorem l03Step_2_n (W H S K : Nat) (ok : Ok W H S) (hk : K < W * H) (x y : Int) (hx : (K : Int) % (W : Int) + -1 = x) (hy : (K : Int) / (W : Int) = y) (h1 : inB x 0 ((W : Int) - 1) = true) (h2 : inB y 0 ((H : Int) - 1) = true) (h3 : S.testBit (y * W + x).toNat = false) (w : World) :
    Calls Try.prog 86 #[.agg #[.int .i64 W, .int .i64 H, .int .i64 S], .int .i64 K, .int .i64 2] w fun e w' => e = .returned (.int .i64 (-1)) ∧ Below w.heap.size w w' := by
  have hS := ok.lt63
  have hbd := mod_bd ok hk
  have hw1 : (1 : Int) ≤ (W : Int) := by have := ok.w1; omega
  have hw7 : (W : Int) ≤ 7 := by have := ok.w7; omega
  have hh1 : (1 : Int) ≤ (H : Int) := by have := ok.h1; omega
  have hh7 : (H : Int) ≤ 7 := by have := ok.h7; omega
  have hxb : -1 ≤ x ∧ x ≤ 7 := by omega
  have hyb : -1 ≤ y ∧ y ≤ 7 := by omega
  have hpb := place_bd ok h1 h2
  have hz := bit_zero S (y * W + x) hS (by omega) (by omega)
  rw [h3] at hz
  have H3 := Lib.hid h3
  clear h3
  go_enter Try.func86, Try.ntmps86
  have hz0 : w.heap.size < (w.alloc (.cells #[.int .i64 W, .int .i64 H, .int .i64 S] 26)).heap.size := by simp
  go_wp2
  go_region
  all_goals (try go_wp2)
  all_goals go_region
  all_goals (try go_wp2_with (go_at_call 84; refine (l01In_b _ _ _ _ (by assumption) _).mono ?_; rintro e wq ⟨rfl, hwq⟩; subst wq))
  all_goals go_ret
  all_goals exact ⟨rfl, (((below1 _ _).more _).more _).drew.drew⟩

set_option maxHeartbeats 800000 in
theorem l03Step_2_j (W H S K : Nat) (ok : Ok W H S) (hk : K < W * H) (x y : Int) (hx : (K : Int) % (W : Int) + -1 = x) (hy : (K : Int) / (W : Int) = y) (h1 : inB x 0 ((W : Int) - 1) = true) (h2 : inB y 0 ((H : Int) - 1) = true) (h3 : S.testBit (y * W + x).toNat = true) (w : World) :
    Calls Try.prog 86 #[.agg #[.int .i64 W, .int .i64 H, .int .i64 S], .int .i64 K, .int .i64 2] w fun e w' => e = .returned (.int .i64 (y * W + x)) ∧ Below w.heap.size w w' := by
  have hS := ok.lt63
  have hbd := mod_bd ok hk
  have hw1 : (1 : Int) ≤ (W : Int) := by have := ok.w1; omega
  have hw7 : (W : Int) ≤ 7 := by have := ok.w7; omega
  have hh1 : (1 : Int) ≤ (H : Int) := by have := ok.h1; omega
  have hh7 : (H : Int) ≤ 7 := by have := ok.h7; omega
  have hxb : -1 ≤ x ∧ x ≤ 7 := by omega
  have hyb : -1 ≤ y ∧ y ≤ 7 := by omega
  have hpb := place_bd ok h1 h2
  have hz := bit_zero S (y * W + x) hS (by omega) (by omega)
  rw [h3] at hz
  have H3 := Lib.hid h3
  clear h3
  go_enter Try.func86, Try.ntmps86
  have hz0 : w.heap.size < (w.alloc (.cells #[.int .i64 W, .int .i64 H, .int .i64 S] 26)).heap.size := by simp
  go_wp2
  go_region
  all_goals (try go_wp2)
  all_goals go_region
  all_goals (try go_wp2_with (go_at_call 84; refine (l01In_b _ _ _ _ (by assumption) _).mono ?_; rintro e wq ⟨rfl, hwq⟩; subst wq))
  all_goals go_ret
  all_goals exact ⟨rfl, (((below1 _ _).more _).more _).drew.drew⟩

set_option maxHeartbeats 800000 in
theorem l03Step_3_x (W H S K : Nat) (ok : Ok W H S) (hk : K < W * H) (x y : Int) (hx : (K : Int) % (W : Int) = x) (hy : (K : Int) / (W : Int) + -1 = y) (h1 : inB x 0 ((W : Int) - 1) = false) (w : World) :
    Calls Try.prog 86 #[.agg #[.int .i64 W, .int .i64 H, .int .i64 S], .int .i64 K, .int .i64 3] w fun e w' => e = .returned (.int .i64 (-1)) ∧ Below w.heap.size w w' := by
  have hS := ok.lt63
  have hbd := mod_bd ok hk
  have hw1 : (1 : Int) ≤ (W : Int) := by have := ok.w1; omega
  have hw7 : (W : Int) ≤ 7 := by have := ok.w7; omega
  have hh1 : (1 : Int) ≤ (H : Int) := by have := ok.h1; omega
  have hh7 : (H : Int) ≤ 7 := by have := ok.h7; omega
  have hxb : -1 ≤ x ∧ x ≤ 7 := by omega
  have hyb : -1 ≤ y ∧ y ≤ 7 := by omega
  go_enter Try.func86, Try.ntmps86
  have hz0 : w.heap.size < (w.alloc (.cells #[.int .i64 W, .int .i64 H, .int .i64 S] 26)).heap.size := by simp
  go_wp2
  go_region
  all_goals (try go_wp2)
  all_goals go_region
  all_goals (try go_wp2_with (go_at_call 84; refine (l01In_b _ _ _ _ (by assumption) _).mono ?_; rintro e wq ⟨rfl, hwq⟩; subst wq))
  all_goals go_ret
  all_goals exact ⟨rfl, (((below1 _ _).more _).more _).drew.drew⟩

set_option maxHeartbeats 800000 in
theorem l03Step_3_y (W H S K : Nat) (ok : Ok W H S) (hk : K < W * H) (x y : Int) (hx : (K : Int) % (W : Int) = x) (hy : (K : Int) / (W : Int) + -1 = y) (h1 : inB x 0 ((W : Int) - 1) = true) (h2 : inB y 0 ((H : Int) - 1) = false) (w : World) :
    Calls Try.prog 86 #[.agg #[.int .i64 W, .int .i64 H, .int .i64 S], .int .i64 K, .int .i64 3] w fun e w' => e = .returned (.int .i64 (-1)) ∧ Below w.heap.size w w' := by
  have hS := ok.lt63
  have hbd := mod_bd ok hk
  have hw1 : (1 : Int) ≤ (W : Int) := by have := ok.w1; omega
  have hw7 : (W : Int) ≤ 7 := by have := ok.w7; omega
  have hh1 : (1 : Int) ≤ (H : Int) := by have := ok.h1; omega
  have hh7 : (H : Int) ≤ 7 := by have := ok.h7; omega
  have hxb : -1 ≤ x ∧ x ≤ 7 := by omega
  have hyb : -1 ≤ y ∧ y ≤ 7 := by omega
  go_enter Try.func86, Try.ntmps86
  have hz0 : w.heap.size < (w.alloc (.cells #[.int .i64 W, .int .i64 H, .int .i64 S] 26)).heap.size := by simp
  go_wp2
  go_region
  all_goals (try go_wp2)
  all_goals go_region
  all_goals (try go_wp2_with (go_at_call 84; refine (l01In_b _ _ _ _ (by assumption) _).mono ?_; rintro e wq ⟨rfl, hwq⟩; subst wq))
  all_goals go_ret
  all_goals exact ⟨rfl, (((below1 _ _).more _).more _).drew.drew⟩

set_option maxHeartbeats 800000 in
theorem l03Step_3_n (W H S K : Nat) (ok : Ok W H S) (hk : K < W * H) (x y : Int) (hx : (K : Int) % (W : Int) = x) (hy : (K : Int) / (W : Int) + -1 = y) (h1 : inB x 0 ((W : Int) - 1) = true) (h2 : inB y 0 ((H : Int) - 1) = true) (h3 : S.testBit (y * W + x).toNat = false) (w : World) :
    Calls Try.prog 86 #[.agg #[.int .i64 W, .int .i64 H, .int .i64 S], .int .i64 K, .int .i64 3] w fun e w' => e = .returned (.int .i64 (-1)) ∧ Below w.heap.size w w' := by
  have hS := ok.lt63
  have hbd := mod_bd ok hk
  have hw1 : (1 : Int) ≤ (W : Int) := by have := ok.w1; omega
  have hw7 : (W : Int) ≤ 7 := by have := ok.w7; omega
  have hh1 : (1 : Int) ≤ (H : Int) := by have := ok.h1; omega
  have hh7 : (H : Int) ≤ 7 := by have := ok.h7; omega
  have hxb : -1 ≤ x ∧ x ≤ 7 := by omega
  have hyb : -1 ≤ y ∧ y ≤ 7 := by omega
  have hpb := place_bd ok h1 h2
  have hz := bit_zero S (y * W + x) hS (by omega) (by omega)
  rw [h3] at hz
  have H3 := Lib.hid h3
  clear h3
  go_enter Try.func86, Try.ntmps86
  have hz0 : w.heap.size < (w.alloc (.cells #[.int .i64 W, .int .i64 H, .int .i64 S] 26)).heap.size := by simp
  go_wp2
  go_region
  all_goals (try go_wp2)
  all_goals go_region
  all_goals (try go_wp2_with (go_at_call 84; refine (l01In_b _ _ _ _ (by assumption) _).mono ?_; rintro e wq ⟨rfl, hwq⟩; subst wq))
  all_goals go_ret
  all_goals exact ⟨rfl, (((below1 _ _).more _).more _).drew.drew⟩

set_option maxHeartbeats 800000 in
theorem l03Step_3_j (W H S K : Nat) (ok : Ok W H S) (hk : K < W * H) (x y : Int) (hx : (K : Int) % (W : Int) = x) (hy : (K : Int) / (W : Int) + -1 = y) (h1 : inB x 0 ((W : Int) - 1) = true) (h2 : inB y 0 ((H : Int) - 1) = true) (h3 : S.testBit (y * W + x).toNat = true) (w : World) :
    Calls Try.prog 86 #[.agg #[.int .i64 W, .int .i64 H, .int .i64 S], .int .i64 K, .int .i64 3] w fun e w' => e = .returned (.int .i64 (y * W + x)) ∧ Below w.heap.size w w' := by
  have hS := ok.lt63
  have hbd := mod_bd ok hk
  have hw1 : (1 : Int) ≤ (W : Int) := by have := ok.w1; omega
  have hw7 : (W : Int) ≤ 7 := by have := ok.w7; omega
  have hh1 : (1 : Int) ≤ (H : Int) := by have := ok.h1; omega
  have hh7 : (H : Int) ≤ 7 := by have := ok.h7; omega
  have hxb : -1 ≤ x ∧ x ≤ 7 := by omega
  have hyb : -1 ≤ y ∧ y ≤ 7 := by omega
  have hpb := place_bd ok h1 h2
  have hz := bit_zero S (y * W + x) hS (by omega) (by omega)
  rw [h3] at hz
  have H3 := Lib.hid h3
  clear h3
  go_enter Try.func86, Try.ntmps86
  have hz0 : w.heap.size < (w.alloc (.cells #[.int .i64 W, .int .i64 H, .int .i64 S] 26)).heap.size := by simp
  go_wp2
  go_region
  all_goals (try go_wp2)
  all_goals go_region
  all_goals (try go_wp2_with (go_at_call 84; refine (l01In_b _ _ _ _ (by assumption) _).mono ?_; rintro e wq ⟨rfl, hwq⟩; subst wq))
  all_goals go_ret
  all_goals exact ⟨rfl, (((below1 _ _).more _).more _).drew.drew⟩

end Go.Proofs.Ytoipnooncnpndaa
