/-
  The walks of math/bits.OnesCount, OnesCount64, and what leans on them: CountHoles, CountPegs.
-/
import Derived.Test.YtnnoahoepljejaaDoorKept
import Derived.Test.YtnnoahoepljejaaDoorWalkI
import Derived.Test.YtnnoahoepljejaaDoorWalkJ
import Derived.Test.YtnnoahoepljejaaDoorWalkB
import Derived.Test.YtnnoahoepljejaaDoorPop
namespace Go.Proofs.YtnnoahoepljejaaDoor
open Go.RowKit
open Peg
set_option linter.unusedVariables false

theorem u64_wrap (n : Int) (h0 : 0 ≤ n) (h1 : n < 18446744073709551616) : IntKind.u64.wrap n = n := by
  unfold IntKind.wrap
  simp [IntKind.bits, IntKind.signed]
  omega
theorem u64_andN (a : Int) (A B : Nat) (ha : a = A) (h1 : A < 18446744073709551616) (h2 : B < 18446744073709551616) : bits .and .u64 a (B : Int) = ((A &&& B : Nat) : Int) := by
  subst ha; exact u64_and_nat A B h1 h2
theorem stepA (X M c : Nat) (hX : X < 18446744073709551616) (hM : 2 * M < 18446744073709551616) (hc : 0 < c) :
    IntKind.u64.wrap (bits .and .u64 ((X : Int) / (c : Int)) (M : Int) + bits .and .u64 (X : Int) (M : Int)) = (((X / c &&& M) + (X &&& M) : Nat) : Int) := by
  have hd : X / c ≤ X := Nat.div_le_self _ _
  have h1 : (X / c &&& M) ≤ M := Nat.and_le_right
  have h2 : (X &&& M) ≤ M := Nat.and_le_right
  rw [u64_andN _ (X / c) M (by simp) (by omega) (by omega), u64_andN _ X M rfl hX (by omega), u64_wrap _ (by omega) (by omega)]
  simp
theorem stepB (x c : Nat) (hc : 0 < c) (h : x + x / c < 18446744073709551616) : IntKind.u64.wrap ((x : Int) + (x : Int) / (c : Int)) = ((x + x / c : Nat) : Int) := by
  rw [u64_wrap]
  · simp
  · have : (0 : Int) ≤ (x : Int) / (c : Int) := Int.ediv_nonneg (by omega) (by omega)
    omega
  · have : ((x / c : Nat) : Int) = (x : Int) / (c : Int) := by simp
    omega
set_option maxHeartbeats 800000 in
theorem ones64 (X : Nat) (h : X < 2 ^ 63) (w : World) :
    Calls Tryd.prog 55 #[.int .u64 X] w fun e w' => e = .returned (.int .i64 (Pop.pc 64 X : Nat)) ∧ w' = w := by
  obtain ⟨x1, hx1⟩ : ∃ x1, Pop.S1 X = x1 := ⟨_, rfl⟩
  obtain ⟨x2, hx2⟩ : ∃ x2, Pop.S2 x1 = x2 := ⟨_, rfl⟩
  obtain ⟨x3, hx3⟩ : ∃ x3, Pop.S3 x2 = x3 := ⟨_, rfl⟩
  obtain ⟨y, hy⟩ : ∃ y, x3 + x3 / 256 = y := ⟨_, rfl⟩
  obtain ⟨z, hz⟩ : ∃ z, y + y / 65536 = z := ⟨_, rfl⟩
  obtain ⟨u, hu⟩ : ∃ u, z + z / 4294967296 = u := ⟨_, rfl⟩
  obtain ⟨p, hp⟩ : ∃ p, Pop.pc 64 X = p := ⟨_, rfl⟩
  obtain ⟨ly, lz, lu, hm⟩ := Pop.ones X y z u (by omega) (by rw [hx1, hx2, hx3]; exact hy.symm) hz.symm hu.symm
  rw [hp] at hm ⊢
  have hM0 : Pop.M0 = 6148914691236517205 := rfl
  have hM1 : Pop.M1 = 3689348814741910323 := rfl
  have hM2 : Pop.M2 = 1085102592571150095 := rfl
  have l1 : x1 ≤ 2 * 6148914691236517205 := by
    rw [← hx1]; unfold Pop.S1
    have a1 : (X / 2 &&& Pop.M0) ≤ Pop.M0 := Nat.and_le_right
    have a2 : (X &&& Pop.M0) ≤ Pop.M0 := Nat.and_le_right
    omega
  have l2 : x2 ≤ 2 * 3689348814741910323 := by
    rw [← hx2]; unfold Pop.S2
    have a1 : (x1 / 4 &&& Pop.M1) ≤ Pop.M1 := Nat.and_le_right
    have a2 : (x1 &&& Pop.M1) ≤ Pop.M1 := Nat.and_le_right
    omega
  have l3 : x3 ≤ 1085102592571150095 := by rw [← hx3]; exact Nat.and_le_right
  have e1 : IntKind.u64.wrap (bits .and .u64 ((X : Int) / 2) 6148914691236517205 + bits .and .u64 (X : Int) 6148914691236517205) = (x1 : Int) := by
    rw [← hx1]; exact stepA X Pop.M0 2 (by omega) (by decide) (by decide)
  have e2 : IntKind.u64.wrap (bits .and .u64 ((x1 : Int) / 4) 3689348814741910323 + bits .and .u64 (x1 : Int) 3689348814741910323) = (x2 : Int) := by
    rw [← hx2]; exact stepA x1 Pop.M1 4 (by omega) (by decide) (by decide)
  have e3 : bits .and .u64 (IntKind.u64.wrap ((x2 : Int) / 16 + (x2 : Int))) 1085102592571150095 = (x3 : Int) := by
    rw [← hx3, u64_wrap _ (by omega) (by omega)]
    exact u64_andN _ (x2 / 16 + x2) Pop.M2 (by simp) (by omega) (by decide)
  have e4 : IntKind.u64.wrap ((x3 : Int) + (x3 : Int) / 256) = (y : Int) := by rw [← hy]; exact stepB x3 256 (by decide) (by omega)
  have e5 : IntKind.u64.wrap ((y : Int) + (y : Int) / 65536) = (z : Int) := by rw [← hz]; exact stepB y 65536 (by decide) (by omega)
  have e6 : IntKind.u64.wrap ((z : Int) + (z : Int) / 4294967296) = (u : Int) := by rw [← hu]; exact stepB z 4294967296 (by decide) (by omega)
  have e7 : bits .and .i64 (u : Int) 127 = (p : Int) := by
    have := Bit.i64_and u 127 lu (by decide)
    rw [show ((127 : Nat) : Int) = 127 from rfl] at this
    rw [this, Nat.and_two_pow_sub_one_eq_mod u 7, ← hm]
  have e8 : wrap64 (u : Int) = (u : Int) := by unfold wrap64; omega
  have H := Lib.hid (And.intro e1 (And.intro e2 (And.intro e3 (And.intro e4 (And.intro e5 (And.intro e6 (And.intro e7 e8)))))))
  clear e1 e2 e3 e4 e5 e6 e7 e8 hx1 hx2 hx3 hy hz hu hp hm ly lz lu l1 l2 l3 hM0 hM1 hM2 h
  go_enter Tryd.func55, Tryd.ntmps55
  go_wp2
  obtain ⟨e1, e2, e3, e4, e5, e6, e7, e8⟩ := H.out
  simp only [e1, e2, e3, e4, e5, e6]
  go_ret
  refine ⟨?_, rfl⟩
  show Ending.returned (.int .i64 (bits .and .i64 (wrap64 (u : Int)) 127)) = _
  rw [show wrap64 (u : Int) = (u : Int) from e8, e7]

theorem ones_any (X : Nat) (h : X < 2 ^ 63) (w : World) :
    Calls Tryd.prog 41 #[.int .u64 X] w fun e w' => e = .returned (.int .i64 (Pop.pc 64 X : Nat)) ∧ w' = w := by
  go_enter Tryd.func41, Tryd.ntmps41
  go_wp2_with fail
  refine (ones64 X h _).mono ?_
  rintro e w1 ⟨rfl, hw1⟩
  subst hw1
  go_wp2
  go_ret
  exact ⟨rfl, rfl⟩

theorem pc_zero : ∀ n, Pop.pc n 0 = 0
  | 0 => rfl
  | n + 1 => by rw [Pop.pc, pc_zero n]
theorem pc_bits (S : Nat) (h : S < 2 ^ 49) : (bitsTo S 49).length = Pop.pc 64 S := by
  have h1 := Pop.pc_add 49 15 S
  rw [Nat.div_eq_of_lt h, pc_zero] at h1
  rw [show 64 = 49 + 15 from rfl, h1, Pop.pc_count]
  simp [bitsTo]
def countH (a h s : Int) : Nat := if bOk a h s then Pop.pc 64 s.toNat else 0
theorem countH_ok {W H S : Nat} (ok : Ok W H S) : countH W H S = Pop.pc 64 S := by unfold countH; rw [bOk_of ok]; rfl
theorem countH_no {a h s : Int} (hb : bOk a h s = false) : countH a h s = 0 := by unfold countH; rw [hb]; rfl
def countP (a h s q : Int) : Int := if pOk a h s q then (Pop.pc 64 q.toNat : Nat) else -1
theorem countP_ok {a h s : Int} {P : Nat} (hb : pOk a h s P = true) : countP a h s P = (Pop.pc 64 P : Nat) := by unfold countP; rw [hb]; rfl
theorem countP_no {a h s q : Int} (hb : pOk a h s q = false) : countP a h s q = -1 := by unfold countP; rw [hb]; rfl

theorem u64_of (S : Nat) (h : S < 2 ^ 63) : IntKind.u64.wrap (S : Int) = (S : Int) := u64_wrap _ (by omega) (by omega)

theorem CountHoles_any (a h s : Int) (w : World) :
    Calls Tryd.prog 18 #[.agg #[.int .i64 a, .int .i64 h, .int .i64 s]] w fun e w' => e = .returned (.int .i64 (countH a h s : Nat)) ∧ Below w.heap.size w w' := by
  cases hb : bOk a h s
  · have hc := Lib.hid (countH_no hb)
    go_enter Tryd.func18, Tryd.ntmps18
    go_wp2_with fail
    refine (BoardOk_b false _ _ _ hb _).mono ?_
    rintro e w1 ⟨rfl, hB1⟩
    go_wp2
    go_ret
    exact ⟨by rw [hc.out]; rfl, (below1 _ _).andThen hB1⟩
  · obtain ⟨W, H, S, rfl, rfl, rfl, ok⟩ := (bOk_iff _ _ _).1 hb
    have hS := ok.lt63
    have hu := u64_of S hS
    have hc := Lib.hid (countH_ok ok)
    go_enter Tryd.func18, Tryd.ntmps18
    obtain ⟨b0, b1, b2, bz⟩ := BoxAt.new w W H S 25
    go_wp2_with fail
    refine (BoardOk_b true _ _ _ hb _).mono ?_
    rintro e w1 ⟨rfl, hB1⟩
    replace b0 := cell_kept b0 hB1
    replace b1 := cell_kept b1 hB1
    replace b2 := cell_kept b2 hB1
    go_wp2_with fail
    refine (ones_any S hS _).mono ?_
    rintro e w2 ⟨rfl, hw2⟩
    subst hw2
    go_wp2
    go_ret
    exact ⟨by rw [hc.out]; rfl, (below1 _ _).andThen hB1⟩
end Go.Proofs.YtnnoahoepljejaaDoor
