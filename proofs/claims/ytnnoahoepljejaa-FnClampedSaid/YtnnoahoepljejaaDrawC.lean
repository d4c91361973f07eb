/-
  The draw of a clamp, and the law Clamped.
-/
import Derived.Test.YtnnoahoepljejaaDraw
namespace Go.Proofs.Ytnnoahoepljejaa
open Go.RowKit
set_option linter.unusedVariables false
set_option linter.unusedSimpArgs false

set_option maxHeartbeats 400000 in
theorem DrawClamp_any (ad : Option Addr) (len cap : Nat) (hlen : len ≤ 1048576) (w : World) (h : IsCode w ad len) :
    Calls Try.prog 12 #[.slice ad len cap] w fun e w' => ∃ x y z : Int, e = .returned (.tuple #[.int .i64 x, .int .i64 y, .int .i64 z]) ∧ Below w.heap.size w w' := by
  have HC := Lib.hid h
  clear h
  go_enter Try.func12, Try.ntmps12
  go_wp2_with fail
  refine (l01New_any ad len cap hlen _ HC.out).mono ?_
  rintro e w1 hr
  obtain ⟨n, rfl, hn, hc1, hB1⟩ := hr
  have hz1 := hB1.size
  go_wp2_with fail
  refine (l01Once_any n ad len cap 4 (by decide) _ hc1).mono ?_
  rintro e w2 ⟨b, rfl, hD2⟩
  have hc2 := hD2.cur
  have hB2 := hB1.trans (hD2.below hz1 hn)
  have hz2 := hB2.size
  clear hD2 hc1 hB1
  cases b
  · go_wp2_with fail
    refine (l01Below_any n ad len cap 40 (by decide) _ hc2).mono ?_
    rintro e w3 ⟨x, hx0, hx1, _, _, rfl, hD3⟩
    have hc3 := hD3.cur
    have hB3 := hB2.trans (hD3.below hz2 hn)
    have hz3 := hB3.size
    have hx2 := hx1 (by decide)
    clear hD3 hc2 hB2 hx1
    go_wp2_with fail
    refine (l01Below_any n ad len cap 80 (by decide) _ hc3).mono ?_
    rintro e w4 ⟨y, hy0, hy1, _, _, rfl, hD4⟩
    have hc4 := hD4.cur
    have hB4 := hB3.trans (hD4.below hz3 hn)
    have hz4 := hB4.size
    have hy2 := hy1 (by decide)
    clear hD4 hc3 hB3 hy1
    go_wp2_with fail
    refine (l01Below_any n ad len cap 30 (by decide) _ hc4).mono ?_
    rintro e w5 ⟨z, hz0, hz1, _, _, rfl, hD5⟩
    have hB5 := Lib.hid (hB4.trans (hD5.below hz4 hn))
    have hz2' := hz1 (by decide)
    clear hD5 hc4 hB4 hz1
    go_wp2
    go_ret3
    exact ⟨_, _, _, rfl, hB5.out⟩
  · go_wp2_with fail
    refine (l01Number_any n ad len cap w.heap.size _ hc2 hn hz2).mono ?_
    rintro e w3 ⟨x, rfl, hc3, hD3⟩
    have hB3 := hB2.trans hD3
    have hz3 := hB3.size
    clear hD3 hc2 hB2
    go_wp2_with fail
    refine (l01Number_any n ad len cap w.heap.size _ hc3 hn hz3).mono ?_
    rintro e w4 ⟨y, rfl, hc4, hD4⟩
    have hB4 := hB3.trans hD4
    have hz4 := hB4.size
    clear hD4 hc3 hB3
    go_wp2_with fail
    refine (l01Number_any n ad len cap w.heap.size _ hc4 hn hz4).mono ?_
    rintro e w5 ⟨z, rfl, hc5, hD5⟩
    have hB5 := Lib.hid (hB4.trans hD5)
    clear hD5 hc4 hc5 hB4
    go_wp2
    go_ret3
    exact ⟨_, _, _, rfl, hB5.out⟩

def clampG (n l h : Int) : Int := if h < l ∨ n < l then l else if h < n then h else n

theorem ClampG_any (n l h : Int) (w : World) :
    Calls Try.prog 13 #[.int .i64 n, .int .i64 l, .int .i64 h] w fun e w' => e = .returned (.int .i64 (clampG n l h)) ∧ w' = w := by
  by_cases h1 : h < l <;> by_cases h2 : n < l <;> by_cases h3 : h < n
  all_goals
    go_enter Try.func13, Try.ntmps13
    go_wp2
    all_goals
      go_ret
      refine ⟨ret_int ?_, rfl⟩
      show _ = clampG n l h
      unfold clampG
      (repeat' split) <;> omega

set_option maxHeartbeats 800000 in
theorem walkFnClamped (ad : Option Addr) (len cap : Nat) (w : World) (h : IsCode w ad len) :
    Calls Try.prog 5 #[.slice ad len cap] w fun e w' => e = .returned (.bool true) ∧ Below w.heap.size w w' := by
  have HC := Lib.hid h
  clear h
  by_cases hle : ¬ len ≤ 1048576
  · have hb : decide ((1048576 : Int) < (len : Int)) = true := by simp; omega
    go_enter Try.func5, Try.ntmps5
    go_wp2_with fail
    refine (big_any ad len cap true hb _).mono ?_
    rintro e w1 ⟨rfl, hw1⟩
    subst w1
    go_wp2
    go_ret
    exact ⟨rfl, Below.refl _ _⟩
  have hle : len ≤ 1048576 := by omega
  have hb : decide ((1048576 : Int) < (len : Int)) = false := by simp; omega
  have hd := fun w (h : IsCode w ad len) => DrawClamp_any ad len cap hle w h
  have HD := Lib.hid hd
  clear hd
  have h5 : clampG 7 3 5 = 5 := by decide
  go_enter Try.func5, Try.ntmps5
  go_wp2_with fail
  refine (big_any ad len cap false hb _).mono ?_
  rintro e w1 ⟨rfl, hw1⟩
  subst w1
  go_wp2_with fail
  refine (HD.out _ HC.out).mono ?_
  rintro e w2 ⟨n, a, b, rfl, hB2⟩
  have HB := Lib.hid hB2
  clear hB2 hb
  by_cases hba : b < a
  · have hx : clampG n a b = a := by unfold clampG; rw [if_pos (.inl hba)]
    have q1 : (a == a) = true := by simp
    go_wp2_with (go_at_call 13; refine (ClampG_any _ _ _ _).mono ?_; rintro e wx ⟨rfl, hwx⟩; subst wx)
    go_ret
    exact ⟨rfl, HB.out⟩
  have hba2 : a ≤ b := by omega
  by_cases hna : n < a
  · have hx : clampG n a b = a := by unfold clampG; rw [if_pos (.inr hna)]
    have hx2 : clampG a a b = a := by unfold clampG; rw [if_neg (by omega), if_neg (by omega)]
    go_wp2_with (go_at_call 13; refine (ClampG_any _ _ _ _).mono ?_; rintro e wx ⟨rfl, hwx⟩; subst wx)
    go_ret
    exact ⟨rfl, HB.out⟩
  by_cases hnb : b < n
  · have hx : clampG n a b = b := by unfold clampG; rw [if_neg (by omega), if_pos hnb]
    have hx2 : clampG b a b = b := by unfold clampG; rw [if_neg (by omega), if_neg (by omega)]
    go_wp2_with (go_at_call 13; refine (ClampG_any _ _ _ _).mono ?_; rintro e wx ⟨rfl, hwx⟩; subst wx)
    go_ret
    exact ⟨rfl, HB.out⟩
  have hx : clampG n a b = n := by unfold clampG; rw [if_neg (by omega), if_neg hnb]
  have hna2 : a ≤ n := by omega
  have hnb2 : n ≤ b := by omega
  go_wp2_with (go_at_call 13; refine (ClampG_any _ _ _ _).mono ?_; rintro e wx ⟨rfl, hwx⟩; subst wx)
  go_ret
  exact ⟨rfl, HB.out⟩
end Go.Proofs.Ytnnoahoepljejaa
