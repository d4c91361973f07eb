/-
  The walk of the law FnFieldsAgain.
-/
import Derived.Test.YtnnoahoepljejaaDoorSplLaw
import Derived.Test.YtnnoahoepljejaaDoorTextF
import Derived.Test.YtnnoahoepljejaaDoorLawFmt
namespace Go.Proofs.YtnnoahoepljejaaDoor
open Go.RowKit
set_option linter.unusedVariables false
set_option linter.unusedSimpArgs false

theorem sameTexts_nil (a b : Option Addr) (c d : Nat) (w : World) :
    Calls Tryd.prog 34 #[.slice a 0 c, .slice b 0 d] w fun e w' => e = .returned (.bool true) ∧ Below w.heap.size w w' := by
  go_enter Tryd.func34, Tryd.ntmps34
  go_wp2_with fail
  refine wp_loop_rounds 1 ?_
  rw [rounds_succ]
  go_wp2
  go_ret
  exact ⟨rfl, Below.refl _ _⟩

set_option maxHeartbeats 400000 in
theorem sameTexts_pos (g g' cap cap' n : Nat) (f : Nat → ByteArray) (w : World) (hn : n ≤ 9223372036854775807) (h1 : ∀ j, j < n → w.cell? ⟨g, j, none⟩ = some (.string (f j))) (h2 : ∀ j, j < n → w.cell? ⟨g', j, none⟩ = some (.string (f j))) :
    Calls Tryd.prog 34 #[.slice (some ⟨g, 0, none⟩) n cap, .slice (some ⟨g', 0, none⟩) n cap'] w fun e w' => e = .returned (.bool true) ∧ Below w.heap.size w w' := by
  have H1 := Lib.hid h1
  have H2 := Lib.hid h2
  clear h1 h2
  go_enter Tryd.func34, Tryd.ntmps34
  go_wp2_with fail
  go_loopw [5] (fun i wr => ∃ k m : Nat, k ≤ n ∧ i = .int .i64 k ∧ wr = w.drewN m) (fun i _ => n - (intOf i).toNat)
  case atStart => exact ⟨0, 0, by omega, rfl, rfl⟩
  case round =>
    obtain ⟨k, m, hk, rfl, rfl⟩ := hrel
    by_cases hlt : k < n
    · have c1 := H1.out k hlt
      have c2 := H2.out k hlt
      go_wp2
      go_quiet (fail)
      go_wp2
      go_roundw
      case rel => exact ⟨k + 1, _, by omega, by go_num, rfl⟩
      case measure => simp [intOf]; omega
    · go_wp2
      go_ret
      exact ⟨rfl, Joins.below_draws _ _ _⟩

theorem sameTexts_same (xs : List ByteArray) (a b : Value) (A B : Nat) (w : World) (h1 : RowS w A a xs) (h2 : RowS w B b xs) :
    Calls Tryd.prog 34 #[a, b] w fun e w' => e = .returned (.bool true) ∧ Below w.heap.size w w' := by
  rcases h1.forms with ⟨rfl, p, c, rfl⟩ | ⟨hx, g, c, rfl, _, _, hl⟩
  · rcases h2.forms with ⟨_, q, d, rfl⟩ | ⟨hx, _⟩
    · exact sameTexts_nil p q c d w
    · simp at hx
  · rcases h2.forms with ⟨rfl, _⟩ | ⟨_, g', d, rfl, _⟩
    · simp at hx
    · exact sameTexts_pos g g' c d xs.length (fun j => xs[j]?.getD ByteArray.empty) w hl (fun j hj => h1.at j hj) (fun j hj => h2.at j hj)

theorem itoa_m3 : itoaB (-3) = ⟨#[45, 51]⟩ := by
  unfold itoaB Lib.itoa
  rw [if_pos (by decide), show (-3 : Int).natAbs = 3 from rfl, Lib.decDigits, dif_pos (by decide)]
  rfl

set_option maxHeartbeats 1600000 in
set_option maxRecDepth 100000 in
theorem walkFnFieldsAgain (ad : Option Addr) (len cap : Nat) (w : World) (h : IsCode w ad len) (htab : Tab w) :
    Calls Tryd.prog 9 #[.slice ad len cap] w fun e w' => e = .returned (.bool true) ∧ Below w.heap.size w w' := by
  have HC := Lib.hid h
  have HT := Lib.hid htab
  clear h htab
  by_cases hle : ¬ len ≤ 1048576
  · have hb : decide ((1048576 : Int) < (len : Int)) = true := by simp; omega
    go_enter Tryd.func9, Tryd.ntmps9
    go_wp2_with fail
    refine (big_any ad len cap true hb _).mono ?_
    rintro e w1 ⟨rfl, hw1⟩
    subst w1
    go_wp2
    go_ret
    exact ⟨rfl, Below.refl _ _⟩
  have hle : len ≤ 1048576 := by omega
  have hb : decide ((1048576 : Int) < (len : Int)) = false := by simp; omega
  have HLE := Lib.hid hle
  go_enter Tryd.func9, Tryd.ntmps9
  go_wp2_with fail
  refine (big_any ad len cap false hb _).mono ?_
  rintro e w1 ⟨rfl, hw1⟩
  subst w1
  clear hb hle
  go_wp2_with fail
  refine (DrawSplitFields_any ad len cap HLE.out _ HC.out).mono ?_
  rintro e w2 hr
  obtain ⟨s, hs, rfl, hB2⟩ := hr
  have HT2 := Lib.hid (tab_kept HT.out hB2)
  clear HC HT
  obtain ⟨⟨Fs, ok⟩, hR⟩ : ∃ R, splR s = R := ⟨_, rfl⟩
  go_wp2_with fail
  refine (SplitFields_any s _).mono ?_
  rintro e w3 hr
  rw [hR] at hr
  obtain ⟨v, rfl, hrow, hB3⟩ := hr
  have HT3 := Lib.hid (tab_kept HT2.out hB3)
  have HB3 := hB2.andThen hB3
  clear hB2 hB3
  go_wp2_with fail
  refine (specSplitFields_any s _).mono ?_
  rintro e w4 hr
  rw [hR] at hr
  obtain ⟨v2, rfl, _, hB4⟩ := hr
  have HT4 := Lib.hid (tab_kept HT3.out hB4)
  have HB4 := HB3.andThen hB4
  have hrow4 := hrow.kept hB4
  clear HB3 hB4 hrow HT2 HT3
  cases ok
  · obtain rfl := splR_false hR
    obtain ⟨pa, pc, rfl⟩ := hrow4.nil
    have HB := Lib.hid HB4
    clear HB4 hrow4 hR
    go_wp2_with fail
    refine (FormatInt_any (-3) (by decide) (by decide) _ HT4.out).mono ?_
    rintro e w5 ⟨rfl, hB5⟩
    have HB5 := Lib.hid (HB.out.andThen hB5)
    rw [itoa_m3]
    clear hB5
    go_wp2
    go_ret
    exact ⟨by first | rfl | simp, HB5.out⟩
  obtain ⟨hl24, hgood⟩ := splR_good hR
  have HG := Lib.hid hgood
  have HROW := Lib.hid hrow4
  have HB := Lib.hid HB4
  have HJL := Lib.hid (joinK_le hgood)
  clear hgood hR HB4 HT4 HLE
  rcases hrow4.forms with ⟨rfl, pa, pc, rfl⟩ | ⟨hx, g, cap1, rfl, _, _, hl⟩
  · clear hrow4
    obtain ⟨T, hT⟩ : ∃ T : ByteArray, (⟨#[]⟩ : ByteArray) = T := ⟨_, rfl⟩
    have HJ := Lib.hid (show joinK [] ([] : List ByteArray).length = T from hT)
    go_wp2_with fail
    refine wp_loop_rounds 1 ?_
    rw [rounds_succ]
    go_wp2_with fail
    rw [hT]
    clear hT
    go_wp2_with fail
    refine (SplitFields_any T _).mono ?_
    rintro e w5 hr
    by_cases h6 : T.size ≤ 600
    · have h6i : ¬ (600 : Int) < (T.size : Int) := by omega
      rw [splR_join HG.out hl24 T HJ.out h6] at hr
      obtain ⟨v3, rfl, hrow3, hB5⟩ := hr
      have HB5 := Lib.hid (HB.out.andThen hB5)
      have HR3 := Lib.hid hrow3
      have HR1 := Lib.hid (HROW.out.kept hB5)
      clear hrow3 hB5
      go_wp2_with fail
      refine (sameTexts_same _ _ _ _ _ _ HR1.out HR3.out).mono ?_
      rintro e w6 ⟨rfl, hB6⟩
      have HB6 := Lib.hid (HB5.out.andThen hB6)
      clear hB6
      go_wp2
      go_ret
      exact ⟨by first | rfl | simp, HB6.out⟩
    · have h6i : (600 : Int) < (T.size : Int) := by omega
      rw [splR_no1 h6] at hr
      obtain ⟨v3, rfl, -, hB5⟩ := hr
      have HB5 := Lib.hid (HB.out.andThen hB5)
      clear hB5
      go_wp2
      go_ret
      exact ⟨by first | rfl | simp, HB5.out⟩
  · have HAT := Lib.hid (fun j (hj : j < Fs.length) => hrow4.at j hj)
    clear hrow4
    go_wp2_with fail
    go_loopw [8, 9] (fun t j wr => ∃ k : Nat, k ≤ Fs.length ∧ j = .int .i64 k ∧ t = .string (joinK Fs k) ∧ wr = w4) (fun _ j _ => Fs.length - (intOf j).toNat)
    case atStart => exact ⟨0, by omega, rfl, rfl, rfl⟩
    case round =>
      obtain ⟨k, hk, rfl, rfl, rfl⟩ := hrel
      by_cases hlt : k < Fs.length
      · have hI0 : (0 : Int) ≤ (k : Int) := by omega
        have hI1 : (k : Int) < (Fs.length : Int) := by omega
        have c0 := HAT.out k hlt
        obtain ⟨f, hf⟩ : ∃ f, Fs[k]?.getD ByteArray.empty = f := ⟨_, rfl⟩
        rw [hf] at c0
        have hs1 := HJL.out k (by omega)
        have hs2 := HJL.out (k + 1) (by omega)
        rw [joinK_size, hf] at hs2
        have HJK := Lib.hid (show joinK Fs (k + 1) = joinK Fs k ++ f ++ ⟨#[32]⟩ by rw [← hf]; rfl)
        obtain ⟨t, ht⟩ : ∃ t, joinK Fs k = t := ⟨_, rfl⟩
        rw [ht] at hs1 hs2 HJK
        rw [ht]
        have hov : ¬ 9223372036854775807 < t.size + f.size := by omega
        have hsa : (t ++ f).size = t.size + f.size := ByteArray.size_append
        have hov2 : ¬ 9223372036854775807 < (t ++ f).size + 1 := by rw [hsa]; omega
        have hov3 : ¬ 9223372036854775807 < (t ++ f).size + (⟨#[32]⟩ : ByteArray).size := hov2
        clear ht hf
        go_wp2
        go_roundw
        case rel => exact ⟨k + 1, by omega, by go_num, by rw [HJK.out], by first | rfl | trivial⟩
        case measure => simp [intOf]; omega
      · have hI1 : ¬ (k : Int) < (Fs.length : Int) := by omega
        have hkN : k = Fs.length := by omega
        obtain ⟨T, hT⟩ : ∃ T : ByteArray, joinK Fs k = T := ⟨_, rfl⟩
        have HJ := Lib.hid (show joinK Fs Fs.length = T by rw [← hkN]; exact hT)
        rw [hT]
        clear hT hkN
        go_wp2_with fail
        refine (SplitFields_any T _).mono ?_
        rintro e w5 hr
        by_cases h6 : T.size ≤ 600
        · have h6i : ¬ (600 : Int) < (T.size : Int) := by omega
          rw [splR_join HG.out hl24 T HJ.out h6] at hr
          obtain ⟨v3, rfl, hrow3, hB5⟩ := hr
          have HB5 := Lib.hid (HB.out.andThen hB5)
          have HR3 := Lib.hid hrow3
          have HR1 := Lib.hid (HROW.out.kept hB5)
          clear hrow3 hB5
          go_wp2_with fail
          refine (sameTexts_same _ _ _ _ _ _ HR1.out HR3.out).mono ?_
          rintro e w6 ⟨rfl, hB6⟩
          have HB6 := Lib.hid (HB5.out.andThen hB6)
          clear hB6
          go_wp2
          go_ret
          exact ⟨by first | rfl | simp, HB6.out⟩
        · have h6i : (600 : Int) < (T.size : Int) := by omega
          rw [splR_no1 h6] at hr
          obtain ⟨v3, rfl, -, hB5⟩ := hr
          have HB5 := Lib.hid (HB.out.andThen hB5)
          clear hB5
          go_wp2
          go_ret
          exact ⟨by first | rfl | simp, HB5.out⟩
end Go.Proofs.YtnnoahoepljejaaDoor
