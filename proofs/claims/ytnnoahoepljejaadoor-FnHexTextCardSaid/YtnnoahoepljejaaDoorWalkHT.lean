/-
  The walk of the law FnHexText.
-/
import Derived.Test.YtnnoahoepljejaaDoorHexLaw
import Derived.Test.YtnnoahoepljejaaDoorTextD
import Derived.Test.YtnnoahoepljejaaDoorLawFmt
namespace Go.Proofs.YtnnoahoepljejaaDoor
open Go.RowKit
set_option linter.unusedVariables false
set_option linter.unusedSimpArgs false

theorem itoa_ten : itoaB 10 = ⟨#[49, 48]⟩ := by
  unfold itoaB Lib.itoa
  rw [if_neg (by decide), show (10 : Int).toNat = 10 from rfl, Lib.decDigits, dif_neg (by decide), Lib.decDigits, dif_pos (by decide)]
  rfl

set_option maxHeartbeats 800000 in
theorem walkFnHexText (ad : Option Addr) (len cap : Nat) (w : World) (h : IsCode w ad len) (htab : Tab w) :
    Calls Tryd.prog 8 #[.slice ad len cap] w fun e w' => e = .returned (.bool true) ∧ Below w.heap.size w w' := by
  have HC := Lib.hid h
  have HT := Lib.hid htab
  clear h htab
  by_cases hle : ¬ len ≤ 1048576
  · have hb : decide ((1048576 : Int) < (len : Int)) = true := by simp; omega
    go_enter Tryd.func8, Tryd.ntmps8
    go_wp2_with fail
    refine (big_any ad len cap true hb _).mono ?_
    rintro e w1 ⟨rfl, hw1⟩
    subst w1
    go_wp2
    go_ret
    exact ⟨rfl, Below.refl _ _⟩
  have hle : len ≤ 1048576 := by omega
  have hb : decide ((1048576 : Int) < (len : Int)) = false := by simp; omega
  have HLE := Lib.hid hle
  go_enter Tryd.func8, Tryd.ntmps8
  go_wp2_with fail
  refine (big_any ad len cap false hb _).mono ?_
  rintro e w1 ⟨rfl, hw1⟩
  subst w1
  clear hb hle
  go_wp2_with fail
  refine (DrawEncodeHex_any ad len cap HLE.out _ HC.out).mono ?_
  rintro e w2 ⟨s, hs, rfl, hB2⟩
  have ht2 := Lib.hid (tab_kept HT.out hB2)
  have HB2 := Lib.hid hB2
  clear hB2 HC
  by_cases h2 : s.size ≤ 20000
  · have hn : ¬ (20000 : Int) < (s.size : Int) := by omega
    have hd := dec_enc s h2
    have hl : (strOfNums (encI s s.size)).size = 2 * s.size := by rw [strOf_size, encI_len]
    have he := fun w => EncodeHex_yes s h2 w
    have hde := fun w => DecodeHex_any (strOfNums (encI s s.size)) (by rw [hl]; unfold maxLen; omega) w
    obtain ⟨t, ht⟩ : ∃ t, strOfNums (encI s s.size) = t := ⟨_, rfl⟩
    rw [ht] at hd hl he hde
    have HE := Lib.hid he
    have HD := Lib.hid (fun w => show Calls Tryd.prog 30 #[.string t] w (fun e w' => e = .returned (.tuple #[.string s, .bool true]) ∧ Below w.heap.size w w') from by
      have := hde w
      unfold Dec at this
      rw [hd] at this
      exact this)
    have hli : (t.size : Int) = 2 * (s.size : Int) := by omega
    have hlw : IntKind.i64.wrap (2 * (s.size : Int)) = 2 * (s.size : Int) := Bit.i64_wrap _ (by omega) (by omega)
    clear ht hd hl he hde
    go_wp2_with fail
    refine (HE.out _).mono ?_
    rintro e w3 ⟨rfl, hB3⟩
    go_wp2_with fail
    refine (HD.out _).mono ?_
    rintro e w4 ⟨rfl, hB4⟩
    have HB := Lib.hid ((HB2.out.andThen hB3).andThen hB4)
    clear hB3 hB4
    go_wp2
    go_ret
    exact ⟨by first | rfl | simp, HB.out⟩
  · have hn : (20000 : Int) < (s.size : Int) := by omega
    go_wp2_with fail
    refine (EncodeHex_no s h2 _).mono ?_
    rintro e w3 ⟨rfl, hB3⟩
    have ht3 := tab_kept ht2.out hB3
    have HB := Lib.hid (HB2.out.andThen hB3)
    clear hB3
    go_wp2_with fail
    refine (FormatInt_any 10 (by decide) (by decide) _ ht3).mono ?_
    rintro e w4 ⟨rfl, hB4⟩
    have HB4 := Lib.hid (HB.out.andThen hB4)
    rw [itoa_ten]
    clear hB4
    go_wp2
    go_ret
    exact ⟨by first | rfl | simp, HB4.out⟩
end Go.Proofs.YtnnoahoepljejaaDoor
