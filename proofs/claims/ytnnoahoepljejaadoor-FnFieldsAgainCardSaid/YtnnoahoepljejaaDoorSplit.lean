/-
  The walks of SplitFields (impl and spec).
-/
import Derived.Test.YtnnoahoepljejaaDoorMarkS
import Derived.Test.YtnnoahoepljejaaDoorHexI
import Derived.Maps.AppendAt
namespace Go.Proofs.YtnnoahoepljejaaDoor
open Go.RowKit
set_option linter.unusedVariables false
set_option linter.unusedSimpArgs false

def badC (x : Int) : Bool := decide (x < 32) || decide (126 < x)
/-- The fields and the start, once the first i places are read. -/
def splitS (s : ByteArray) : Nat → List ByteArray × Nat
  | 0 => ([], 0)
  | i + 1 => if i = s.size ∨ byteI s i = 32 then (if (splitS s i).2 < i then (splitS s i).1 ++ [s.extract (splitS s i).2 i] else (splitS s i).1, i + 1) else splitS s i
theorem splitS_le (s : ByteArray) : ∀ i, (splitS s i).2 ≤ i ∧ (splitS s i).1.length ≤ i
  | 0 => ⟨Nat.le_refl _, Nat.le_refl _⟩
  | i + 1 => by
    have := splitS_le s i
    unfold splitS
    split
    · constructor
      · exact Nat.le_refl _
      · dsimp only
        split
        · rw [List.length_append]; simp; omega
        · omega
    · omega
theorem splitS_sep {s : ByteArray} {i b : Nat} {Fs : List ByteArray} (h : splitS s i = (Fs, b)) (hs : i = s.size ∨ byteI s i = 32) (hb : b < i) : splitS s (i + 1) = (Fs ++ [s.extract b i], i + 1) := by
  rw [splitS, if_pos hs, h]; dsimp only; rw [if_pos hb]
theorem splitS_sep0 {s : ByteArray} {i b : Nat} {Fs : List ByteArray} (h : splitS s i = (Fs, b)) (hs : i = s.size ∨ byteI s i = 32) (hb : ¬ b < i) : splitS s (i + 1) = (Fs, i + 1) := by
  rw [splitS, if_pos hs, h]; dsimp only; rw [if_neg hb]
theorem splitS_in {s : ByteArray} {i b : Nat} {Fs : List ByteArray} (h : splitS s i = (Fs, b)) (hs : ¬ (i = s.size ∨ byteI s i = 32)) : splitS s (i + 1) = (Fs, b) := by
  rw [splitS, if_neg hs, h]
def splR (s : ByteArray) : List ByteArray × Bool :=
  if s.size ≤ 600 ∧ (∀ j, j < s.size → badC (byteI s j) = false) ∧ (splitS s (s.size + 1)).1.length ≤ 24 then ((splitS s (s.size + 1)).1, true) else ([], false)
theorem splR_no1 {s : ByteArray} (h : ¬ s.size ≤ 600) : splR s = ([], false) := by unfold splR; rw [if_neg (fun e => h e.1)]
theorem splR_no2 {s : ByteArray} {j : Nat} (hj : j < s.size) (h : badC (byteI s j) = true) : splR s = ([], false) := by
  unfold splR; rw [if_neg (fun e => by have := e.2.1 j hj; rw [h] at this; cases this)]
theorem splR_no3 {s : ByteArray} (h : ¬ (splitS s (s.size + 1)).1.length ≤ 24) : splR s = ([], false) := by unfold splR; rw [if_neg (fun e => h e.2.2)]
theorem splR_yes {s : ByteArray} (h1 : s.size ≤ 600) (h2 : ∀ j, j < s.size → badC (byteI s j) = false) (h3 : (splitS s (s.size + 1)).1.length ≤ 24) : splR s = ((splitS s (s.size + 1)).1, true) := by unfold splR; rw [if_pos ⟨h1, h2, h3⟩]
def RetF (w : World) (R : List ByteArray × Bool) (e : Ending) (w' : World) : Prop := ∃ v, e = .returned (.tuple #[v, .bool R.2]) ∧ RowS w' w.heap.size v R.1 ∧ Below w.heap.size w w'
theorem byte_is2 (s : ByteArray) (k : Nat) (hk : k < s.size) : (s[k].toNat : Int) = byteI s k := by
  unfold byteI
  have : s.data[k]? = some s[k] := by
    rw [Array.getElem?_eq_getElem (by exact hk)]; rfl
  rw [this]; rfl
theorem nilS (w : World) (B : Nat) : RowS w B (.slice none 0 0) [] := ⟨rfl, .inl ⟨rfl, rfl⟩⟩

theorem SplitFields_no (s : ByteArray) (hs : ¬ s.size ≤ 600) (w : World) :
    Calls Tryd.prog 32 #[.string s] w (RetF w (splR s)) := by
  rw [splR_no1 hs]
  have h1 : (600 : Int) < (s.size : Int) := by omega
  go_enter Tryd.func32, Tryd.ntmps32
  go_wp2
  go_ret2
  exact ⟨_, rfl, nilS _ _, Below.refl _ _⟩

set_option maxHeartbeats 800000 in
set_option maxRecDepth 100000 in
theorem SplitFields_yes (s : ByteArray) (hs : s.size ≤ 600) (w : World) :
    Calls Tryd.prog 32 #[.string s] w (RetF w (splR s)) := by
  obtain ⟨i0, hi, hz0, hz1, hz2⟩ := info_parts info_str
  obtain ⟨R, hR⟩ : ∃ R, splR s = R := ⟨_, rfl⟩
  have HR := Lib.hid hR
  rw [hR]
  clear hR
  have h6 : ¬ (600 : Int) < (s.size : Int) := by omega
  have R0 := rowNilS w w.heap.size w.heap.size (Nat.le_refl _) rfl
  have hBel : Below w.heap.size w (w.alloc (.cells #[] 9)) := (Below.refl _ _).alloc (Nat.le_refl _) _
  go_enter Tryd.func32, Tryd.ntmps32
  go_wp2_with fail
  go_loopw [4, 5, 6] (fun v a j wr => ∃ (i b : Nat) (Fs : List ByteArray), i ≤ s.size + 1 ∧ j = .int .i64 i ∧ a = .int .i64 b ∧ splitS s i = (Fs, b) ∧ (∀ j, j < i → j < s.size → badC (byteI s j) = false) ∧ RowS wr w.heap.size v Fs ∧ Below w.heap.size w wr) (fun _ _ j _ => s.size + 1 - (intOf j).toNat)
  case atStart => exact ⟨0, 0, [], by omega, rfl, rfl, rfl, fun j hj => by omega, R0, hBel⟩
  case round =>
    obtain ⟨i, b, Fs, hi1, rfl, rfl, hst, hno, hrow, hB⟩ := hrel
    have hle := splitS_le s i
    rw [hst] at hle
    obtain ⟨hbi, hFi⟩ := hle
    dsimp only at hbi hFi
    have hszr := hB.size
    by_cases hx : ¬ i ≤ s.size
    · have hie : i = s.size + 1 := by omega
      have hx1 : ¬ (i : Int) ≤ (s.size : Int) := by omega
      have HST := Lib.hid (show splitS s (s.size + 1) = (Fs, b) by rw [← hie]; exact hst)
      have HNO := Lib.hid (fun j (hj : j < s.size) => hno j (by omega) hj)
      clear hst hno
      rcases hrow.forms with ⟨rfl, pa, cap, rfl⟩ | ⟨hxx, g, cap, rfl, _⟩
      · have hr := Lib.hid (splR_yes hs HNO.out (by rw [HST.out]; exact Nat.zero_le _))
        go_wp2
        go_ret2
        have e := HR.out
        rw [hr.out, HST.out] at e
        subst e
        exact ⟨_, rfl, hrow, hB⟩
      · by_cases h24 : Fs.length ≤ 24
        · have h24i : ¬ (24 : Int) < (Fs.length : Int) := by omega
          have hr := Lib.hid (splR_yes hs HNO.out (by rw [HST.out]; exact h24))
          go_wp2
          go_ret2
          have e := HR.out
          rw [hr.out, HST.out] at e
          subst e
          exact ⟨_, rfl, hrow, hB⟩
        · have h24i : (24 : Int) < (Fs.length : Int) := by omega
          have hr := Lib.hid (splR_no3 (s := s) (by rw [HST.out]; exact h24))
          go_wp2
          go_ret2
          have e := HR.out
          rw [hr.out] at e
          subst e
          exact ⟨_, rfl, nilS _ _, hB⟩
    have hx1 : (i : Int) ≤ (s.size : Int) := by omega
    have hI0 : (0 : Int) ≤ (i : Int) := by omega
    have HNO := Lib.hid hno
    have hown := hrow
    unfold RowS at hown
    clear hno hx
    by_cases hlt : ¬ i < s.size
    · have hie : i = s.size := by omega
      have hlt1 : ¬ (i : Int) < (s.size : Int) := by omega
      have q1 : ((i : Int) == (s.size : Int)) = true := by simp; omega
      have hno2 := Lib.hid (fun j (hj : j < i + 1) (hj2 : j < s.size) => HNO.out j (by omega) hj2)
      have HIE := Lib.hid hie
      have hi2 : i ≤ s.size := by omega
      clear hie hlt
      by_cases hbl : b < i
      · have hbl1 : (b : Int) < (i : Int) := by omega
        have HN := Lib.hid (splitS_sep hst (.inl HIE.out) hbl)
        have hJ0 : (0 : Int) ≤ (b : Int) := by omega
        have hJ1 : (b : Int) ≤ (i : Int) := by omega
        clear hst
        go_wp2_with (at_builtin; refine wpList_append_own_at _ rfl _ _ 48 rfl w.heap.size 9 i0 (.string ByteArray.empty) 1 16 Tryd.underlying48 hi hz0 hz1 hz2 rfl (by decide) _ _ _ rfl (hown.alloc _) ⟨wr.heap.size, 0, none⟩ 1 1 [.string (s.extract b i)] rfl rfl (cell_one_new _ _ _) (by simp [Value.oneCell']) (by unfold maxLen; omega) (by omega) (by simp; omega) ?_)
        intro v' w3 hown' hgrow _ hat
        have R := Lib.hid (RowS.put hown')
        have hB3 := Lib.hid ((hB.more _).grown hgrow (by simp; omega) (fun j hj => (World.ownsRow.lt hown j hj).1))
        clear hown hown' hgrow hat
        go_wp2
        go_roundw
        case rel => exact ⟨i + 1, i + 1, _, by omega, by go_num, by go_num, HN.out, hno2.out, R.out, hB3.out⟩
        case measure => simp [intOf]; omega
      · have hbl1 : ¬ (b : Int) < (i : Int) := by omega
        have HN := Lib.hid (splitS_sep0 hst (.inl HIE.out) hbl)
        clear hst
        go_wp2
        go_roundw
        case rel => exact ⟨i + 1, i + 1, _, by omega, by go_num, by go_num, HN.out, hno2.out, hrow, hB⟩
        case measure => simp [intOf]; omega
    have hlt : i < s.size := by omega
    have hlt1 : (i : Int) < (s.size : Int) := by omega
    have q1 : ((i : Int) == (s.size : Int)) = false := by simp; omega
    have hbx := byte_is2 s i hlt
    obtain ⟨hx0, hx255⟩ := byteI_bd s i
    obtain ⟨x, hxx⟩ : ∃ x, byteI s i = x := ⟨_, rfl⟩
    rw [hxx] at hbx hx0 hx255
    have HX := Lib.hid hxx
    clear hxx
    by_cases hb1 : x < 32
    · have hr := Lib.hid (splR_no2 hlt (by rw [HX.out]; unfold badC; rw [decide_eq_true hb1]; rfl))
      go_wp2
      go_ret2
      have e := HR.out
      rw [hr.out] at e
      subst e
      exact ⟨_, rfl, nilS _ _, hB⟩
    by_cases hb2 : 126 < x
    · have hr := Lib.hid (splR_no2 hlt (by rw [HX.out]; unfold badC; rw [decide_eq_true hb2, Bool.or_true]))
      go_wp2
      go_ret2
      have e := HR.out
      rw [hr.out] at e
      subst e
      exact ⟨_, rfl, nilS _ _, hB⟩
    have hno2 := Lib.hid (fun j (hj : j < i + 1) (hj2 : j < s.size) => by
      by_cases hji : j < i
      · exact HNO.out j hji hj2
      · have : j = i := by omega
        rw [this, HX.out]; unfold badC; rw [decide_eq_false hb1, decide_eq_false hb2]; rfl : ∀ j, j < i + 1 → j < s.size → badC (byteI s j) = false)
    by_cases h32 : x = 32
    · have q2 : (x == 32) = true := by simpa using h32
      have q3 : (x != 32) = false := by simp [h32]
      by_cases hbl : b < i
      · have hbl1 : (b : Int) < (i : Int) := by omega
        have HN := Lib.hid (splitS_sep hst (.inr (by rw [HX.out]; exact h32)) hbl)
        have hJ0 : (0 : Int) ≤ (b : Int) := by omega
        have hJ1 : (b : Int) ≤ (i : Int) := by omega
        clear hst
        go_wp2_with (at_builtin; refine wpList_append_own_at _ rfl _ _ 48 rfl w.heap.size 9 i0 (.string ByteArray.empty) 1 16 Tryd.underlying48 hi hz0 hz1 hz2 rfl (by decide) _ _ _ rfl (hown.alloc _) ⟨wr.heap.size, 0, none⟩ 1 1 [.string (s.extract b i)] rfl rfl (cell_one_new _ _ _) (by simp [Value.oneCell']) (by unfold maxLen; omega) (by omega) (by simp; omega) ?_)
        intro v' w3 hown' hgrow _ hat
        have R := Lib.hid (RowS.put hown')
        have hB3 := Lib.hid ((hB.more _).grown hgrow (by simp; omega) (fun j hj => (World.ownsRow.lt hown j hj).1))
        clear hown hown' hgrow hat
        go_wp2
        go_roundw
        case rel => exact ⟨i + 1, i + 1, _, by omega, by go_num, by go_num, HN.out, hno2.out, R.out, hB3.out⟩
        case measure => simp [intOf]; omega
      · have hbl1 : ¬ (b : Int) < (i : Int) := by omega
        have HN := Lib.hid (splitS_sep0 hst (.inr (by rw [HX.out]; exact h32)) hbl)
        clear hst
        go_wp2
        go_roundw
        case rel => exact ⟨i + 1, i + 1, _, by omega, by go_num, by go_num, HN.out, hno2.out, hrow, hB⟩
        case measure => simp [intOf]; omega
    · have q2 : (x == 32) = false := by simpa using h32
      have q3 : (x != 32) = true := by simp [h32]
      have HN := Lib.hid (splitS_in hst (by rw [HX.out]; rintro (e | e) <;> omega))
      clear hst
      go_wp2
      go_roundw
      case rel => exact ⟨i + 1, b, Fs, by omega, by go_num, rfl, HN.out, hno2.out, hrow, hB⟩
      case measure => simp [intOf]; omega

theorem SplitFields_any (s : ByteArray) (w : World) : Calls Tryd.prog 32 #[.string s] w (RetF w (splR s)) := by
  by_cases hs : s.size ≤ 600
  · exact SplitFields_yes s hs w
  · exact SplitFields_no s hs w

theorem specSplitFields_no (s : ByteArray) (hs : ¬ s.size ≤ 600) (w : World) :
    Calls Tryd.prog 33 #[.string s] w (RetF w (splR s)) := by
  rw [splR_no1 hs]
  have h1 : (600 : Int) < (s.size : Int) := by omega
  go_enter Tryd.func33, Tryd.ntmps33
  go_wp2
  go_ret2
  exact ⟨_, rfl, rowNilS w _ _ (Nat.le_refl _) rfl, (Below.refl _ _).alloc (Nat.le_refl _) _⟩

set_option maxHeartbeats 800000 in
set_option maxRecDepth 100000 in
theorem specSplitFields_yes (s : ByteArray) (hs : s.size ≤ 600) (w : World) :
    Calls Tryd.prog 33 #[.string s] w (RetF w (splR s)) := by
  obtain ⟨i0, hi, hz0, hz1, hz2⟩ := info_parts info_str
  obtain ⟨R, hR⟩ : ∃ R, splR s = R := ⟨_, rfl⟩
  have HR := Lib.hid hR
  rw [hR]
  clear hR
  have h6 : ¬ (600 : Int) < (s.size : Int) := by omega
  have R0 := rowNilS w w.heap.size w.heap.size (Nat.le_refl _) rfl
  have hBel : Below w.heap.size w (w.alloc (.cells #[] 9)) := (Below.refl _ _).alloc (Nat.le_refl _) _
  go_enter Tryd.func33, Tryd.ntmps33
  go_wp2_with fail
  go_loopw [4, 5, 6] (fun v a j wr => ∃ (i b : Nat) (Fs : List ByteArray), i ≤ s.size + 1 ∧ j = .int .i64 i ∧ a = .int .i64 b ∧ splitS s i = (Fs, b) ∧ (∀ j, j < i → j < s.size → badC (byteI s j) = false) ∧ RowS wr w.heap.size v Fs ∧ Below w.heap.size w wr) (fun _ _ j _ => s.size + 1 - (intOf j).toNat)
  case atStart => exact ⟨0, 0, [], by omega, rfl, rfl, rfl, fun j hj => by omega, R0, hBel⟩
  case round =>
    obtain ⟨i, b, Fs, hi1, rfl, rfl, hst, hno, hrow, hB⟩ := hrel
    have hle := splitS_le s i
    rw [hst] at hle
    obtain ⟨hbi, hFi⟩ := hle
    dsimp only at hbi hFi
    have hszr := hB.size
    by_cases hx : ¬ i ≤ s.size
    · have hie : i = s.size + 1 := by omega
      have hx1 : ¬ (i : Int) ≤ (s.size : Int) := by omega
      have HST := Lib.hid (show splitS s (s.size + 1) = (Fs, b) by rw [← hie]; exact hst)
      have HNO := Lib.hid (fun j (hj : j < s.size) => hno j (by omega) hj)
      clear hst hno
      rcases hrow.forms with ⟨rfl, pa, cap, rfl⟩ | ⟨hxx, g, cap, rfl, _⟩
      · have hr := Lib.hid (splR_yes hs HNO.out (by rw [HST.out]; exact Nat.zero_le _))
        go_wp2
        go_ret2
        have e := HR.out
        rw [hr.out, HST.out] at e
        subst e
        exact ⟨_, rfl, hrow, hB⟩
      · by_cases h24 : Fs.length ≤ 24
        · have h24i : ¬ (24 : Int) < (Fs.length : Int) := by omega
          have hr := Lib.hid (splR_yes hs HNO.out (by rw [HST.out]; exact h24))
          go_wp2
          go_ret2
          have e := HR.out
          rw [hr.out, HST.out] at e
          subst e
          exact ⟨_, rfl, hrow, hB⟩
        · have h24i : (24 : Int) < (Fs.length : Int) := by omega
          have hr := Lib.hid (splR_no3 (s := s) (by rw [HST.out]; exact h24))
          go_wp2
          go_ret2
          have e := HR.out
          rw [hr.out] at e
          subst e
          exact ⟨_, rfl, rowNilS _ _ _ hszr rfl, hB.more _⟩
    have hx1 : (i : Int) ≤ (s.size : Int) := by omega
    have hI0 : (0 : Int) ≤ (i : Int) := by omega
    have HNO := Lib.hid hno
    have hown := hrow
    unfold RowS at hown
    clear hno hx
    by_cases hlt : ¬ i < s.size
    · have hie : i = s.size := by omega
      have hlt1 : ¬ (i : Int) < (s.size : Int) := by omega
      have q1 : ((i : Int) == (s.size : Int)) = true := by simp; omega
      have hno2 := Lib.hid (fun j (hj : j < i + 1) (hj2 : j < s.size) => HNO.out j (by omega) hj2)
      have HIE := Lib.hid hie
      have hi2 : i ≤ s.size := by omega
      clear hie hlt
      by_cases hbl : b < i
      · have hbl1 : (b : Int) < (i : Int) := by omega
        have HN := Lib.hid (splitS_sep hst (.inl HIE.out) hbl)
        have hJ0 : (0 : Int) ≤ (b : Int) := by omega
        have hJ1 : (b : Int) ≤ (i : Int) := by omega
        clear hst
        go_wp2_with (at_builtin; refine wpList_append_own_at _ rfl _ _ 48 rfl w.heap.size 9 i0 (.string ByteArray.empty) 1 16 Tryd.underlying48 hi hz0 hz1 hz2 rfl (by decide) _ _ _ rfl (hown.alloc _) ⟨wr.heap.size, 0, none⟩ 1 1 [.string (s.extract b i)] rfl rfl (cell_one_new _ _ _) (by simp [Value.oneCell']) (by unfold maxLen; omega) (by omega) (by simp; omega) ?_)
        intro v' w3 hown' hgrow _ hat
        have R := Lib.hid (RowS.put hown')
        have hB3 := Lib.hid ((hB.more _).grown hgrow (by simp; omega) (fun j hj => (World.ownsRow.lt hown j hj).1))
        clear hown hown' hgrow hat
        go_wp2
        go_roundw
        case rel => exact ⟨i + 1, i + 1, _, by omega, by go_num, by go_num, HN.out, hno2.out, R.out, hB3.out⟩
        case measure => simp [intOf]; omega
      · have hbl1 : ¬ (b : Int) < (i : Int) := by omega
        have HN := Lib.hid (splitS_sep0 hst (.inl HIE.out) hbl)
        clear hst
        go_wp2
        go_roundw
        case rel => exact ⟨i + 1, i + 1, _, by omega, by go_num, by go_num, HN.out, hno2.out, hrow, hB⟩
        case measure => simp [intOf]; omega
    have hlt : i < s.size := by omega
    have hlt1 : (i : Int) < (s.size : Int) := by omega
    have q1 : ((i : Int) == (s.size : Int)) = false := by simp; omega
    have hbx := byte_is2 s i hlt
    obtain ⟨hx0, hx255⟩ := byteI_bd s i
    obtain ⟨x, hxx⟩ : ∃ x, byteI s i = x := ⟨_, rfl⟩
    rw [hxx] at hbx hx0 hx255
    have HX := Lib.hid hxx
    clear hxx
    by_cases hb1 : x < 32
    · have hr := Lib.hid (splR_no2 hlt (by rw [HX.out]; unfold badC; rw [decide_eq_true hb1]; rfl))
      go_wp2
      go_ret2
      have e := HR.out
      rw [hr.out] at e
      subst e
      exact ⟨_, rfl, rowNilS _ _ _ hszr rfl, hB.more _⟩
    by_cases hb2 : 126 < x
    · have hr := Lib.hid (splR_no2 hlt (by rw [HX.out]; unfold badC; rw [decide_eq_true hb2, Bool.or_true]))
      go_wp2
      go_ret2
      have e := HR.out
      rw [hr.out] at e
      subst e
      exact ⟨_, rfl, rowNilS _ _ _ hszr rfl, hB.more _⟩
    have hno2 := Lib.hid (fun j (hj : j < i + 1) (hj2 : j < s.size) => by
      by_cases hji : j < i
      · exact HNO.out j hji hj2
      · have : j = i := by omega
        rw [this, HX.out]; unfold badC; rw [decide_eq_false hb1, decide_eq_false hb2]; rfl : ∀ j, j < i + 1 → j < s.size → badC (byteI s j) = false)
    by_cases h32 : x = 32
    · have q2 : (x == 32) = true := by simpa using h32
      have q3 : (x != 32) = false := by simp [h32]
      by_cases hbl : b < i
      · have hbl1 : (b : Int) < (i : Int) := by omega
        have HN := Lib.hid (splitS_sep hst (.inr (by rw [HX.out]; exact h32)) hbl)
        have hJ0 : (0 : Int) ≤ (b : Int) := by omega
        have hJ1 : (b : Int) ≤ (i : Int) := by omega
        clear hst
        go_wp2_with (at_builtin; refine wpList_append_own_at _ rfl _ _ 48 rfl w.heap.size 9 i0 (.string ByteArray.empty) 1 16 Tryd.underlying48 hi hz0 hz1 hz2 rfl (by decide) _ _ _ rfl (hown.alloc _) ⟨wr.heap.size, 0, none⟩ 1 1 [.string (s.extract b i)] rfl rfl (cell_one_new _ _ _) (by simp [Value.oneCell']) (by unfold maxLen; omega) (by omega) (by simp; omega) ?_)
        intro v' w3 hown' hgrow _ hat
        have R := Lib.hid (RowS.put hown')
        have hB3 := Lib.hid ((hB.more _).grown hgrow (by simp; omega) (fun j hj => (World.ownsRow.lt hown j hj).1))
        clear hown hown' hgrow hat
        go_wp2
        go_roundw
        case rel => exact ⟨i + 1, i + 1, _, by omega, by go_num, by go_num, HN.out, hno2.out, R.out, hB3.out⟩
        case measure => simp [intOf]; omega
      · have hbl1 : ¬ (b : Int) < (i : Int) := by omega
        have HN := Lib.hid (splitS_sep0 hst (.inr (by rw [HX.out]; exact h32)) hbl)
        clear hst
        go_wp2
        go_roundw
        case rel => exact ⟨i + 1, i + 1, _, by omega, by go_num, by go_num, HN.out, hno2.out, hrow, hB⟩
        case measure => simp [intOf]; omega
    · have q2 : (x == 32) = false := by simpa using h32
      have q3 : (x != 32) = true := by simp [h32]
      have HN := Lib.hid (splitS_in hst (by rw [HX.out]; rintro (e | e) <;> omega))
      clear hst
      go_wp2
      go_roundw
      case rel => exact ⟨i + 1, b, Fs, by omega, by go_num, rfl, HN.out, hno2.out, hrow, hB⟩
      case measure => simp [intOf]; omega

theorem specSplitFields_any (s : ByteArray) (w : World) : Calls Tryd.prog 33 #[.string s] w (RetF w (splR s)) := by
  by_cases hs : s.size ≤ 600
  · exact specSplitFields_yes s hs w
  · exact specSplitFields_no s hs w

end Go.Proofs.YtnnoahoepljejaaDoor
