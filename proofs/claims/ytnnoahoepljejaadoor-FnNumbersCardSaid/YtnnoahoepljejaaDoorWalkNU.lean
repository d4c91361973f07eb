/-
  The draw of a number with its bounds; the walk of the law FnNumbers.
-/
import Derived.Test.YtnnoahoepljejaaDoorWalkPX
import Derived.Test.YtnnoahoepljejaaDoorDraw
import Derived.Lib.ItoaLen
namespace Go.Proofs.YtnnoahoepljejaaDoor
open Go.RowKit
set_option linter.unusedVariables false
set_option linter.unusedSimpArgs false

def in64 (u : Int) : Prop := -9223372036854775808 ≤ u ∧ u ≤ 9223372036854775807
theorem l01PickIntB_any (n : Nat) (ad : Option Addr) (len cap : Nat) (g L c2 : Nat) (hL : 0 < L) (hL2 : L ≤ 1048576) (hgn : g ≠ n) (w : World) (hc : Cur n ad len cap w) (hat : ∀ j, j < L → ∃ u : Int, in64 u ∧ w.cell? ⟨g, j, none⟩ = some (.int .i64 u)) :
    Calls Tryd.prog 59 #[.pointer (some ⟨n, 0, none⟩), .slice (some ⟨g, 0, none⟩) L c2] w fun e w' => ∃ u : Int, in64 u ∧ e = .returned (.int .i64 u) ∧ Drew n ad len cap w w' := by
  have HAT := Lib.hid hat
  clear hat
  go_enter Tryd.func59, Tryd.ntmps59
  go_wp2_with fail
  refine (l01Below_any n ad len cap L (by omega) _ hc).mono ?_
  rintro e w1 ⟨r, hr0, hr1, _, _, rfl, hD⟩
  obtain ⟨k, rfl⟩ := Int.eq_ofNat_of_zero_le hr0
  have hk : (k : Int) < (L : Int) := hr1 (by omega)
  obtain ⟨u, hub, hu⟩ := HAT.out k (by omega)
  have hu1 := hD.gr.cell hu (by simpa using hgn)
  have HD := Lib.hid hD
  have HU := Lib.hid hub
  clear hD hu hr1 hub
  go_wp2
  go_ret
  exact ⟨u, HU.out, rfl, HD.out⟩

theorem row_tenB (w : World) (t : TypeId) : ∀ j, j < 10 → ∃ u : Int, in64 u ∧ (w.alloc (.cells #[.int .i64 (-1), .int .i64 0, .int .i64 127, .int .i64 128, .int .i64 16383, .int .i64 16384, .int .i64 1000000000, .int .i64 1000000001, .int .i64 9223372036854775807, .int .i64 (-9223372036854775808)] t)).cell? ⟨w.heap.size, j, none⟩ = some (.int .i64 u) := by
  intro j hj
  rw [World.cell?_alloc_at _ _ _ _ rfl]
  have : j = 0 ∨ j = 1 ∨ j = 2 ∨ j = 3 ∨ j = 4 ∨ j = 5 ∨ j = 6 ∨ j = 7 ∨ j = 8 ∨ j = 9 := by omega
  rcases this with rfl | rfl | rfl | rfl | rfl | rfl | rfl | rfl | rfl | rfl <;> exact ⟨_, by unfold in64; omega, rfl⟩

set_option maxHeartbeats 400000 in
theorem l01NumberB_any (n : Nat) (ad : Option Addr) (len cap : Nat) (B : Nat) (w : World) (hc : Cur n ad len cap w) (hB : B ≤ n) (hBw : B ≤ w.heap.size) :
    Calls Tryd.prog 45 #[.pointer (some ⟨n, 0, none⟩)] w fun e w' => ∃ u : Int, in64 u ∧ e = .returned (.int .i64 u) ∧ Below B w w' := by
  go_enter Tryd.func45, Tryd.ntmps45
  go_wp2_with fail
  refine (l01Below_any n ad len cap 4 (by decide) _ hc).mono ?_
  rintro e w1 ⟨r, hr0, hr1, _, _, rfl, hD1⟩
  have hsz := hD1.gr.size
  have hz1 := hD1.cur.sz
  have hb1 := Lib.hid (hD1.below hBw hB)
  by_cases h0 : r = 0
  · have q0 : (r == 0) = true := by simpa using h0
    have hc1 := hD1.cur.kept (below1 w1 (.cells #[.int .i64 (-1), .int .i64 0, .int .i64 127, .int .i64 128, .int .i64 16383, .int .i64 16384, .int .i64 1000000000, .int .i64 1000000001, .int .i64 9223372036854775807, .int .i64 (-9223372036854775808)] 3))
    have hat := row_tenB w1 3
    clear hD1 hc
    go_wp2_with fail
    refine (l01PickIntB_any n ad len cap w1.heap.size 10 10 (by decide) (by decide) (by omega) _ hc1 hat).mono ?_
    rintro e w2 ⟨u, hu, rfl, hD2⟩
    have hu2 := Lib.hid hu
    have hbf := Lib.hid ((hb1.out.alloc (by omega) _).trans (hD2.below (by simp; omega) hB))
    clear hD2 hu
    go_wp2
    go_ret
    exact ⟨u, hu2.out, rfl, hbf.out⟩
  · have q0 : (r == 0) = false := by simpa using h0
    by_cases h1 : r = 1
    · have q1 : (r == 1) = true := by simpa using h1
      go_wp2_with fail
      refine (l01Below_any n ad len cap 1000000000 (by decide) _ hD1.cur).mono ?_
      rintro e w2 ⟨u, hu0, _, _, hu1, rfl, hD2⟩
      have hu2 := Lib.hid (show in64 u from ⟨by omega, by omega⟩)
      have hbf := Lib.hid (hb1.out.trans (hD2.below (by omega) hB))
      clear hD2 hD1 hc
      go_wp2
      go_ret
      exact ⟨u, hu2.out, rfl, hbf.out⟩
    · have q1 : (r == 1) = false := by simpa using h1
      go_wp2_with fail
      refine (l01Below_any n ad len cap 400 (by decide) _ hD1.cur).mono ?_
      rintro e w2 ⟨u, hu0, _, _, hu1, rfl, hD2⟩
      have hu2 := Lib.hid (show in64 u from ⟨by omega, by omega⟩)
      have hbf := Lib.hid (hb1.out.trans (hD2.below (by omega) hB))
      clear hD2 hD1 hc
      go_wp2
      go_ret
      exact ⟨u, hu2.out, rfl, hbf.out⟩

set_option maxHeartbeats 400000 in
theorem DrawFormatInt_any (ad : Option Addr) (len cap : Nat) (hlen : len ≤ 1048576) (w : World) (h : IsCode w ad len) :
    Calls Tryd.prog 23 #[.slice ad len cap] w fun e w' => ∃ u : Int, in64 u ∧ e = .returned (.int .i64 u) ∧ Below w.heap.size w w' := by
  go_enter Tryd.func23, Tryd.ntmps23
  go_wp2_with fail
  refine (l01New_any ad len cap hlen _ h).mono ?_
  rintro e w1 hr
  obtain ⟨n, rfl, hn, hc1, hB1⟩ := hr
  clear h
  go_wp2_with fail
  refine (l01Once_any n ad len cap 3 (by decide) _ hc1).mono ?_
  rintro e w2 ⟨c, rfl, hD2⟩
  have hB2 := hB1.trans (hD2.below hB1.size hn)
  have hc2 := hD2.cur
  clear hB1 hD2 hc1
  cases c
  · go_wp2_with fail
    refine (l01NumberB_any n ad len cap w.heap.size _ hc2 hn hB2.size).mono ?_
    rintro e w3 ⟨u, hu, rfl, hB3⟩
    have HU := Lib.hid hu
    have HB := Lib.hid (hB2.trans hB3)
    clear hu hB2 hB3 hc2
    go_wp2
    go_ret
    exact ⟨u, HU.out, rfl, HB.out⟩
  · go_wp2_with fail
    refine (l01Below_any n ad len cap 1000000 (by decide) _ hc2).mono ?_
    rintro e w3 ⟨a, ha0, ha1, -, -, rfl, hD3⟩
    have ha2 : a < 1000000 := ha1 (by decide)
    have hB3 := hB2.trans (hD3.below hB2.size hn)
    have hc3 := hD3.cur
    clear hD3 hB2 hc2 ha1
    go_wp2_with fail
    refine (l01Below_any n ad len cap 2000000 (by decide) _ hc3).mono ?_
    rintro e w4 ⟨b, hb0, hb1, -, -, rfl, hD4⟩
    have hb2 : b < 2000000 := hb1 (by decide)
    have HB := Lib.hid (hB3.trans (hD4.below hB3.size hn))
    clear hD4 hB3 hc3 hb1
    obtain ⟨d, hd⟩ : ∃ d, b - 1000000 = d := ⟨_, rfl⟩
    have hdw : IntKind.i64.wrap d = d := Bit.i64_wrap _ (by omega) (by omega)
    have hp1 : a * d ≤ a * 1000000 := Int.mul_le_mul_of_nonneg_left (by omega) ha0
    have hp2 : a * (-1000000) ≤ a * d := Int.mul_le_mul_of_nonneg_left (by omega) ha0
    obtain ⟨p, hp⟩ : ∃ p, a * d = p := ⟨_, rfl⟩
    rw [hp] at hp1 hp2
    have HU := Lib.hid (show in64 p from ⟨by omega, by omega⟩)
    have hpw : IntKind.i64.wrap p = p := Bit.i64_wrap _ (by omega) (by omega)
    clear hp1 hp2
    go_wp2
    go_ret
    exact ⟨p, HU.out, rfl, HB.out⟩

theorem itoa_sm (n : Int) (h0 : -9223372036854775808 ≤ n) (h1 : n ≤ 9223372036854775807) : (itoaB n).size ≤ 281474976710656 := by
  have := Lib.itoa_length_le n h0 h1
  unfold itoaB
  show (Lib.itoa n).toArray.size ≤ 281474976710656
  have e : (Lib.itoa n).toArray.size = (Lib.itoa n).length := by simp
  omega
theorem itoa_some (n : Int) : ¬ (itoaB n).toList = [] := by
  rw [ByteArray.toList_eq]
  unfold itoaB Lib.itoa
  split
  · simp
  · simpa using digits_ne _

set_option maxHeartbeats 800000 in
theorem walkFnNumbers (ad : Option Addr) (len cap : Nat) (w : World) (h : IsCode w ad len) (htab : Tab w) (herr : Errs w) :
    Calls Tryd.prog 5 #[.slice ad len cap] w fun e w' => e = .returned (.bool true) ∧ Below w.heap.size w w' := by
  have HC := Lib.hid h
  have HT := Lib.hid htab
  have HE := Lib.hid herr
  clear h htab herr
  by_cases hle : ¬ len ≤ 1048576
  · have hb : decide ((1048576 : Int) < (len : Int)) = true := by simp; omega
    go_enter Tryd.func5, Tryd.ntmps5
    go_wp2_with fail
    refine (big_any ad len cap true hb _).mono ?_
    rintro e w1 ⟨rfl, hw1⟩
    subst w1
    go_wp2
    go_ret
    exact ⟨rfl, Below.refl _ _⟩
  have hle : len ≤ 1048576 := by omega
  have hb : decide ((1048576 : Int) < (len : Int)) = false := by simp; omega
  have HLE := Lib.hid hle
  go_enter Tryd.func5, Tryd.ntmps5
  go_wp2_with fail
  refine (big_any ad len cap false hb _).mono ?_
  rintro e w1 ⟨rfl, hw1⟩
  subst w1
  clear hb hle
  go_wp2_with fail
  refine (DrawFormatInt_any ad len cap HLE.out _ HC.out).mono ?_
  rintro e w2 ⟨n, hn, rfl, hB2⟩
  have HT2 := Lib.hid (tab_kept HT.out hB2)
  have HE2 := Lib.hid (errs_kept HE.out hB2)
  have HB2 := Lib.hid hB2
  clear hB2 HT HE HC
  obtain ⟨hn0, hn1⟩ := hn
  have HS := Lib.hid (itoa_sm n hn0 hn1)
  have hneL := itoa_some n
  have HJ := Lib.hid (fun (N : Nat) (h : isPar (itoaB n) N) => itoa_inj h.2)
  have HJ2 := Lib.hid (fun (N : Nat) (h0 : N ≤ 1000000000) (h1 : n = N) => show isPar (itoaB n) N from ⟨h0, by rw [h1]⟩)
  have HJ3 := Lib.hid (fun (N : Nat) (h : isPar (itoaB n) N) => h.1)
  go_wp2_with fail
  refine (FormatInt_any n hn0 hn1 _ HT2.out).mono ?_
  rintro e w3 ⟨rfl, hB3⟩
  have HT3 := Lib.hid (tab_kept HT2.out hB3)
  have HE3 := Lib.hid (errs_kept HE2.out hB3)
  have HB3 := Lib.hid (HB2.out.andThen hB3)
  clear hB3
  obtain ⟨T, hT⟩ : ∃ T, itoaB n = T := ⟨_, rfl⟩
  rw [hT] at HS HJ HJ2 HJ3 hneL ⊢
  have hneB : (T.toList == []) = false := beq_eq_false_iff_ne.2 hneL
  clear hT
  by_cases hin : 0 ≤ n ∧ n ≤ 1000000000
  · obtain ⟨hi0, hi1⟩ := hin
    obtain ⟨N, rfl⟩ := Int.eq_ofNat_of_zero_le hi0
    have hR : ParR T N true := .inl ⟨N, HJ2.out N (by omega) rfl, rfl, rfl⟩
    have HI := Lib.hid (ParseUint_any T HS.out _ _ hR _ HT3.out HE3.out)
    clear hR
    have hi1n : N ≤ 1000000000 ↔ True := by constructor <;> intros <;> first | trivial | omega
    go_wp2_with fail
    refine HI.out.mono ?_
    rintro e w4 ⟨rfl, hB4⟩
    have HB := Lib.hid (HB3.out.andThen hB4)
    clear hB4 HI
    go_wp2
    go_ret
    exact ⟨by first | rfl | simp, HB.out⟩
  · have hR : ParR T 0 false := .inr ⟨fun N hN => hin (by have := HJ.out N hN; have := HJ3.out N hN; omega), rfl, rfl⟩
    have HI := Lib.hid (ParseUint_any T HS.out _ _ hR _ HT3.out HE3.out)
    clear hR
    by_cases hi0 : 0 ≤ n
    · have hi1 : ¬ n ≤ 1000000000 := by omega
      clear hin
      go_wp2_with fail
      refine HI.out.mono ?_
      rintro e w4 ⟨rfl, hB4⟩
      have HB := Lib.hid (HB3.out.andThen hB4)
      clear hB4 HI
      go_wp2
      go_ret
      exact ⟨by first | rfl | simp, HB.out⟩
    · clear hin
      go_wp2_with fail
      refine HI.out.mono ?_
      rintro e w4 ⟨rfl, hB4⟩
      have HB := Lib.hid (HB3.out.andThen hB4)
      clear hB4 HI
      go_wp2
      go_ret
      exact ⟨by first | rfl | simp, HB.out⟩
end Go.Proofs.YtnnoahoepljejaaDoor
