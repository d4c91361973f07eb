/-
  The walks of ParseUint (impl and spec).
-/
import Derived.Test.YtnnoahoepljejaaDoorParLaw
import Derived.Test.YtnnoahoepljejaaDoorLaid
import Derived.Test.YtnnoahoepljejaaDoorShelfB
import Derived.Test.YtnnoahoepljejaaDoorHexI
namespace Go.Proofs.YtnnoahoepljejaaDoor
open Go.RowKit
set_option linter.unusedVariables false
set_option linter.unusedSimpArgs false

set_option maxHeartbeats 800000 in
set_option maxRecDepth 100000 in
theorem ParseUint_yes (s : ByteArray) (N : Nat) (h : isPar s N) (w : World) (htab : Tab w) :
    Calls Tryd.prog 22 #[.string s] w fun e w' => e = .returned (.tuple #[.int .i64 N, .bool true]) ∧ Below w.heap.size w w' := by
  have hN := h.1
  have hsz := par_size h
  have HA := Lib.hid (fun w => Tryd.strconv_Atoi_ok s (by omega) N (par_atoi h) w)
  have hs := h.2
  have HT := Lib.hid htab
  have h0 : ¬ (N : Int) < 0 := by omega
  have h1 : ¬ (1000000000 : Int) < (N : Int) := by omega
  have hub : (N : Int) ≤ 9223372036854775807 := by omega
  have HS := Lib.hid hs
  clear htab h hN hsz hs
  go_enter Tryd.func22, Tryd.ntmps22
  go_wp2_with fail
  refine (HA.out _).mono ?_
  rintro e w1 ⟨rfl, hw⟩
  have hB1 : Below w.heap.size w w1 := by
    rcases hw with rfl | ⟨t, rfl⟩
    · exact Below.refl _ _
    · exact Lib.bytesWorld_below _ _ _
  have HB1 := Lib.hid hB1
  have HT1 := Lib.hid (tab_kept HT.out hB1)
  clear hw hB1
  go_wp2_with fail
  refine (FormatInt_any N (by omega) hub _ HT1.out).mono ?_
  rintro e w2 ⟨rfl, hB2⟩
  rw [← HS.out]
  have HB := Lib.hid (HB1.out.andThen hB2)
  clear hB2
  go_wp2
  go_ret2
  exact ⟨rfl, HB.out⟩

set_option maxHeartbeats 800000 in
theorem ParseUint_no (s : ByteArray) (hlim : s.size ≤ 281474976710656) (h : ∀ N, ¬ isPar s N) (w : World) (htab : Tab w) (herr : Errs w) :
    Calls Tryd.prog 22 #[.string s] w fun e w' => e = .returned (.tuple #[.int .i64 0, .bool false]) ∧ Below w.heap.size w w' := by
  have HT := Lib.hid htab
  clear htab
  obtain ⟨⟨te, pe, he⟩, ⟨te2, pe2, he2⟩⟩ := herr
  cases ha : Lib.atoiAll s.data.toList with
  | ok v =>
    have HA := Lib.hid (fun w => Tryd.strconv_Atoi_ok s (by omega) v ha w)
    have hvb := Lib.atoiAll_bounds ha
    have HBD := Lib.hid hvb
    clear ha he he2
    have hF : ∀ w1 : World, Below w.heap.size w w1 → True := fun _ _ => trivial
    by_cases h0 : v < 0
    · go_enter Tryd.func22, Tryd.ntmps22
      go_wp2_with fail
      refine (HA.out _).mono ?_
      rintro e w1 ⟨rfl, hw⟩
      have hB1 : Below w.heap.size w w1 := by
        rcases hw with rfl | ⟨t, rfl⟩
        · exact Below.refl _ _
        · exact Lib.bytesWorld_below _ _ _
      have HB1 := Lib.hid hB1
      clear hw hB1
      go_wp2
      go_ret2
      exact ⟨rfl, HB1.out⟩
    by_cases h1 : 1000000000 < v
    · go_enter Tryd.func22, Tryd.ntmps22
      go_wp2_with fail
      refine (HA.out _).mono ?_
      rintro e w1 ⟨rfl, hw⟩
      have hB1 : Below w.heap.size w w1 := by
        rcases hw with rfl | ⟨t, rfl⟩
        · exact Below.refl _ _
        · exact Lib.bytesWorld_below _ _ _
      have HB1 := Lib.hid hB1
      clear hw hB1
      go_wp2
      go_ret2
      exact ⟨rfl, HB1.out⟩
    obtain ⟨N, rfl⟩ := Int.eq_ofNat_of_zero_le (show 0 ≤ v by omega)
    have hne : itoaB (N : Int) ≠ s := fun e => h N ⟨by omega, e.symm⟩
    obtain ⟨T, hT⟩ : ∃ T, itoaB (N : Int) = T := ⟨_, rfl⟩
    rw [hT] at hne
    have hneL : ¬ T.toList = s.toList := fun e => hne (by rw [ByteArray.toList_eq, ByteArray.toList_eq] at e; exact ByteArray.ext (Array.toList_inj.1 e))
    have hneB : (T.toList == s.toList) = false := beq_eq_false_iff_ne.2 hneL
    have HTT := Lib.hid hT
    clear hT h
    go_enter Tryd.func22, Tryd.ntmps22
    go_wp2_with fail
    refine (HA.out _).mono ?_
    rintro e w1 ⟨rfl, hw⟩
    have hB1 : Below w.heap.size w w1 := by
      rcases hw with rfl | ⟨t, rfl⟩
      · exact Below.refl _ _
      · exact Lib.bytesWorld_below _ _ _
    have HB1 := Lib.hid hB1
    have HT1 := Lib.hid (tab_kept HT.out hB1)
    clear hw hB1
    go_wp2_with fail
    refine (FormatInt_any N (by omega) (by omega) _ HT1.out).mono ?_
    rintro e w2 ⟨rfl, hB2⟩
    rw [HTT.out]
    have HB := Lib.hid (HB1.out.andThen hB2)
    clear hB2
    go_wp2
    go_ret2
    exact ⟨rfl, HB.out⟩
  | range =>
    have HA := Lib.hid (Tryd.strconv_Atoi_range s hlim ha _ w he2 (.inr ⟨_, _, rfl⟩))
    clear ha he he2 h
    go_enter Tryd.func22, Tryd.ntmps22
    go_wp2_with fail
    refine HA.out.mono ?_
    rintro e w1 ⟨n, rfl, -, -, hB1⟩
    have HB1 := Lib.hid hB1
    clear hB1 HA
    go_wp2
    go_ret2
    exact ⟨rfl, HB1.out⟩
  | _ =>
    have HA := Lib.hid (Tryd.strconv_Atoi_syntax s hlim ha _ w he (.inr ⟨_, _, rfl⟩))
    clear ha he he2 h
    go_enter Tryd.func22, Tryd.ntmps22
    go_wp2_with fail
    refine HA.out.mono ?_
    rintro e w1 ⟨n, rfl, -, -, hB1⟩
    have HB1 := Lib.hid hB1
    clear hB1 HA
    go_wp2
    go_ret2
    exact ⟨rfl, HB1.out⟩

/-- What both functions answer. -/
def ParR (s : ByteArray) (r : Int) (b : Bool) : Prop := (∃ N : Nat, isPar s N ∧ r = N ∧ b = true) ∨ ((∀ N, ¬ isPar s N) ∧ r = 0 ∧ b = false)
theorem parR_ex (s : ByteArray) : ∃ r b, ParR s r b := by
  by_cases h : ∃ N, isPar s N
  · obtain ⟨N, h⟩ := h
    exact ⟨N, true, .inl ⟨N, h, rfl, rfl⟩⟩
  · exact ⟨0, false, .inr ⟨fun N hN => h ⟨N, hN⟩, rfl, rfl⟩⟩
theorem ParseUint_any (s : ByteArray) (hlim : s.size ≤ 281474976710656) (r : Int) (b : Bool) (h : ParR s r b) (w : World) (htab : Tab w) (herr : Errs w) :
    Calls Tryd.prog 22 #[.string s] w fun e w' => e = .returned (.tuple #[.int .i64 r, .bool b]) ∧ Below w.heap.size w w' := by
  rcases h with ⟨N, h, rfl, rfl⟩ | ⟨h, rfl, rfl⟩
  · exact ParseUint_yes s N h w htab
  · exact ParseUint_no s hlim h w htab herr
theorem par_dec {s : ByteArray} {N : Nat} (h : isPar s N) : Lib.decFrom 0 s.data.toList = some N := by rw [par_list h]; exact decFrom_digits N
theorem parR_no {s : ByteArray} {r : Int} {b : Bool} (h : ParR s r b) (hn : ∀ N, ¬ isPar s N) : r = 0 ∧ b = false := by
  rcases h with ⟨N, h, _, _⟩ | ⟨_, h1, h2⟩
  · exact absurd h (hn N)
  · exact ⟨h1, h2⟩
theorem parR_yes {s : ByteArray} {r : Int} {b : Bool} {N : Nat} (h : ParR s r b) (hn : isPar s N) : r = N ∧ b = true := by
  rcases h with ⟨M, h, h1, h2⟩ | ⟨h, _, _⟩
  · have e1 := par_dec h
    rw [par_dec hn] at e1
    injection e1 with e1
    exact ⟨by rw [h1, e1], h2⟩
  · exact absurd hn (h N)
theorem byte_isP (s : ByteArray) (k : Nat) (hk : k < s.size) : ∃ c : UInt8, s.data.toList[k]? = some c ∧ (s[k].toNat : Int) = (c.toNat : Int) := by
  refine ⟨s[k], ?_, rfl⟩
  rw [Array.getElem?_toList, Array.getElem?_eq_getElem (by exact hk)]
  rfl

set_option maxHeartbeats 800000 in
set_option maxRecDepth 100000 in
theorem specParseUint_any (s : ByteArray) (r : Int) (b : Bool) (h : ParR s r b) (w : World) :
    Calls Tryd.prog 21 #[.string s] w fun e w' => e = .returned (.tuple #[.int .i64 r, .bool b]) ∧ Below w.heap.size w w' := by
  by_cases hsz : ¬ s.size ≤ 10
  · obtain ⟨rfl, rfl⟩ := parR_no h (fun N hN => hsz (par_size hN))
    have h1 : (10 : Int) < (s.size : Int) := by omega
    go_enter Tryd.func21, Tryd.ntmps21
    go_wp2
    go_ret2
    exact ⟨rfl, Below.refl _ _⟩
  have hsz : s.size ≤ 10 := by omega
  have h1 : ¬ (10 : Int) < (s.size : Int) := by omega
  have HR := Lib.hid h
  clear h
  have hll : s.data.toList.length = s.size := by rw [Array.length_toList]; rfl
  have HLL := Lib.hid hll
  clear hll
  go_enter Tryd.func21, Tryd.ntmps21
  go_wp2_with fail
  go_loopw [4, 5] (fun v j wr => ∃ (i n : Nat), i ≤ s.size ∧ j = .int .i64 i ∧ v = .int .i64 n ∧ n < 10 ^ i ∧ Lib.decFrom 0 (s.data.toList.take i) = some n ∧ wr = w) (fun _ j _ => s.size - (intOf j).toNat)
  case atStart => exact ⟨0, 0, by omega, rfl, rfl, by decide, rfl, rfl⟩
  case round =>
    obtain ⟨i, n, hi, rfl, rfl, hn, hd, rfl⟩ := hrel
    have hp : 10 ^ i ≤ 10 ^ 10 := Nat.pow_le_pow_right (by decide) (by omega)
    have hn10 : n < 10000000000 := Nat.lt_of_lt_of_le hn hp
    have HN := Lib.hid hn
    have HD := Lib.hid hd
    clear hn hd hp
    by_cases hlt : i < s.size
    · have hI0 : (0 : Int) ≤ (i : Int) := by omega
      have hI1 : (i : Int) < (s.size : Int) := by omega
      obtain ⟨c, hc, hbx⟩ := byte_isP s i hlt
      obtain ⟨x, hx⟩ : ∃ x : Nat, c.toNat = x := ⟨_, rfl⟩
      rw [hx] at hbx
      have HC := Lib.hid hc
      have HX := Lib.hid hx
      clear hc hx
      by_cases hb1 : (x : Int) < 48
      · obtain ⟨rfl, rfl⟩ := parR_no HR.out (fun N hN => by
          obtain ⟨d, hd⟩ := Lib.digit_of_decFrom _ _ _ (par_dec hN) i c HC.out
          unfold Lib.digitVal at hd
          rw [if_neg (by rw [HX.out]; omega)] at hd
          cases hd)
        have hb1n : x < 48 := by omega
        go_wp2
        go_ret2
        exact ⟨rfl, Below.refl _ _⟩
      by_cases hb2 : 57 < (x : Int)
      · obtain ⟨rfl, rfl⟩ := parR_no HR.out (fun N hN => by
          obtain ⟨d, hd⟩ := Lib.digit_of_decFrom _ _ _ (par_dec hN) i c HC.out
          unfold Lib.digitVal at hd
          rw [if_neg (by rw [HX.out]; omega)] at hd
          cases hd)
        have hb1n : ¬ x < 48 := by omega
        have hb2n : 57 < x := by omega
        go_wp2
        go_ret2
        exact ⟨rfl, Below.refl _ _⟩
      have hb1n : ¬ x < 48 := by omega
      have hb2n : ¬ 57 < x := by omega
      have hstep := Lib.hid (Lib.decFrom_take s.data.toList i 0 n c (x - 48) HD.out HC.out (by unfold Lib.digitVal; rw [HX.out, if_pos (by omega)]))
      have hn2 := Lib.hid (show n * 10 + (x - 48) < 10 ^ (i + 1) by have := HN.out; rw [Nat.pow_succ]; omega)
      obtain ⟨m, hm⟩ : ∃ m : Nat, 10 * (n : Int) = m := ⟨10 * n, by omega⟩
      obtain ⟨p, hp⟩ : ∃ p : Nat, (m : Int) + (x : Int) = p := ⟨m + x, by omega⟩
      obtain ⟨q, hq⟩ : ∃ q : Nat, (p : Int) - 48 = q := ⟨n * 10 + (x - 48), by omega⟩
      have hqq : q = n * 10 + (x - 48) := by omega
      rw [← hqq] at hstep hn2
      have hmw : IntKind.i64.wrap (m : Int) = m := Bit.i64_wrap _ (by omega) (by omega)
      have hpw : IntKind.i64.wrap (p : Int) = p := Bit.i64_wrap _ (by omega) (by omega)
      have hqw : IntKind.i64.wrap (q : Int) = q := Bit.i64_wrap _ (by omega) (by omega)
      have hxw : IntKind.i64.wrap (x : Int) = x := Bit.i64_wrap _ (by omega) (by omega)
      clear hqq
      go_wp2
      go_roundw
      case rel => exact ⟨i + 1, q, by omega, by go_num, rfl, hn2.out, hstep.out, by first | rfl | trivial⟩
      case measure => simp [intOf]; omega
    · have hI1 : ¬ (i : Int) < (s.size : Int) := by omega
      obtain rfl : i = s.size := by omega
      have hda : Lib.decFrom 0 s.data.toList = some n := by
        have := HD.out
        rw [List.take_of_length_le (by rw [HLL.out]; exact Nat.le_refl _)] at this
        exact this
      have HDA := Lib.hid hda
      clear hda
      by_cases h9 : 1000000000 < (n : Int)
      · obtain ⟨rfl, rfl⟩ := parR_no HR.out (fun N hN => by
          have := par_dec hN
          rw [HDA.out] at this
          injection this with this
          have := hN.1
          omega)
        have h9n : 1000000000 < n := by omega
        go_wp2
        go_ret2
        exact ⟨rfl, Below.refl _ _⟩
      have h9n : ¬ 1000000000 < n := by omega
      by_cases he : itoaB (n : Int) = s
      · obtain ⟨rfl, rfl⟩ := parR_yes HR.out ⟨by omega, he.symm⟩
        have HE := Lib.hid he
        clear he
        go_wp2_with fail
        refine (specFormatInt_any n (by omega) (by omega) _).mono ?_
        rintro e w2 ⟨rfl, hB2⟩
        rw [HE.out]
        have HB := Lib.hid hB2
        clear hB2
        go_wp2
        go_ret2
        exact ⟨rfl, HB.out⟩
      · obtain ⟨rfl, rfl⟩ := parR_no HR.out (fun N hN => by
          have := par_dec hN
          rw [HDA.out] at this
          injection this with this
          exact he (by rw [this]; exact hN.2.symm))
        obtain ⟨T, hT⟩ : ∃ T, itoaB (n : Int) = T := ⟨_, rfl⟩
        rw [hT] at he
        have hneL : ¬ T.toList = s.toList := fun e => he (by rw [ByteArray.toList_eq, ByteArray.toList_eq] at e; exact ByteArray.ext (Array.toList_inj.1 e))
        have hneB : (T.toList == s.toList) = false := beq_eq_false_iff_ne.2 hneL
        have HTT := Lib.hid hT
        clear hT
        go_wp2_with fail
        refine (specFormatInt_any n (by omega) (by omega) _).mono ?_
        rintro e w2 ⟨rfl, hB2⟩
        rw [HTT.out]
        have HB := Lib.hid hB2
        clear hB2
        go_wp2
        go_ret2
        exact ⟨rfl, HB.out⟩
end Go.Proofs.YtnnoahoepljejaaDoor
