/-
  The law on jumps, in plain terms. No program in sight but its contracts.
-/
import Derived.Test.YtoipnooncnpndaaPosLaw
import Derived.Test.YtoipnooncnpndaaLineLaw
import Derived.Test.YtoipnooncnpndaaWalkH
namespace Go.Proofs.Ytoipnooncnpndaa
open Peg
open Go.RowKit
set_option linter.unusedVariables false

theorem cnt_congr {X Y : Nat} : ∀ n, (∀ i, i < n → X.testBit i = Y.testBit i) → cnt X n = cnt Y n
  | 0, _ => rfl
  | n + 1, h => by
    have ih := cnt_congr n (fun i hi => h i (by omega))
    have hn := h n (by omega)
    cases hx : X.testBit n
    · rw [cnt_no hx, cnt_no (by rw [← hn]; exact hx), ih]
    · rw [cnt_yes hx, cnt_yes (by rw [← hn]; exact hx), ih]
theorem cnt_set {X Y A : Nat} (hA : X.testBit A = false) (h : ∀ i, Y.testBit i = (X.testBit i || decide (A = i))) : ∀ n, A < n → cnt Y n = cnt X n + 1
  | n + 1, hlt => by
    by_cases e : A = n
    · subst e
      have hy : Y.testBit A = true := by rw [h]; simp
      have e := cnt_congr (X := Y) (Y := X) A (fun i hi => by
        rw [h i]
        have : ¬ A = i := by omega
        simp [this])
      rw [cnt_yes hy, cnt_no hA, e]
    · have ih := cnt_set hA h n (by omega)
      have hn : Y.testBit n = X.testBit n := by rw [h n]; simp [e]
      cases hx : X.testBit n
      · rw [cnt_no hx, cnt_no (by rw [hn]; exact hx), ih]
      · rw [cnt_yes hx, cnt_yes (by rw [hn]; exact hx), ih]
theorem cnt_drop {P A n : Nat} (hA : P.testBit A = true) (hn : A < n) : cnt P n = cnt (Bit.diff P (2 ^ A)) n + 1 := by
  refine cnt_set (A := A) (by simp [Bit.testBit_diff]) (fun i => ?_) n hn
  rw [Bit.testBit_diff, Nat.testBit_two_pow]
  by_cases e : A = i
  · subst e; simp [hA]
  · simp [e]
theorem cnt_put {P C n : Nat} (hC : P.testBit C = false) (hn : C < n) : cnt (P ||| 2 ^ C) n = cnt P n + 1 := by
  refine cnt_set (A := C) hC (fun i => ?_) n hn
  rw [Nat.testBit_or, Nat.testBit_two_pow]
theorem cnt_jump {P A B C n : Nat} (h1 : A ≠ B) (h2 : B ≠ C) (h3 : A ≠ C) (hj : canJ P A B C = true) (ha : A < n) (hb : B < n) (hc : C < n) : cnt P n = cnt (jumpTo P A B C) n + 1 := by
  unfold canJ at hj
  simp only [Bool.and_eq_true, Bool.not_eq_true'] at hj
  obtain ⟨tA, tB, tC⟩ := hj
  have e1 := cnt_drop tA ha
  have tB2 : (Bit.diff P (2 ^ A)).testBit B = true := by rw [Bit.testBit_diff, Nat.testBit_two_pow, tB]; simp [h1]
  have e2 := cnt_drop tB2 hb
  have tC2 : (Bit.diff (Bit.diff P (2 ^ A)) (2 ^ B)).testBit C = false := by rw [Bit.testBit_diff, Bit.testBit_diff, tC]; simp
  have e3 := cnt_put tC2 hc
  unfold jumpTo
  omega

theorem undo_jump {P A B C : Nat} (h1 : A ≠ B) (h2 : B ≠ C) (h3 : A ≠ C) (hj : canJ P A B C = true) : canU (jumpTo P A B C) A B C = true ∧ undoTo (jumpTo P A B C) A B C = P := by
  unfold canJ at hj
  simp only [Bool.and_eq_true, Bool.not_eq_true'] at hj
  obtain ⟨tA, tB, tC⟩ := hj
  constructor
  · unfold canU
    simp only [testBit_jumpTo]
    simp [h1, h2, h3, h1.symm, h2.symm, h3.symm]
  · apply Nat.eq_of_testBit_eq
    intro i
    rw [testBit_undoTo, testBit_jumpTo]
    by_cases iA : A = i
    · subst iA; simp [tA]
    · by_cases iB : B = i
      · subst iB; simp [tB]
      · by_cases iC : C = i
        · subst iC; simp [tC, iA, iB]
        · simp [iA, iB, iC]
theorem jump_undo {P A B C : Nat} (h1 : A ≠ B) (h2 : B ≠ C) (h3 : A ≠ C) (hj : canU P A B C = true) : canJ (undoTo P A B C) A B C = true ∧ jumpTo (undoTo P A B C) A B C = P := by
  unfold canU at hj
  simp only [Bool.and_eq_true, Bool.not_eq_true'] at hj
  obtain ⟨tA, tB, tC⟩ := hj
  constructor
  · unfold canJ
    simp only [testBit_undoTo]
    simp [h1, h2, h3, h1.symm, h2.symm, h3.symm]
  · apply Nat.eq_of_testBit_eq
    intro i
    rw [testBit_jumpTo, testBit_undoTo]
    by_cases iA : A = i
    · subst iA; simp [tA, h3.symm]
    · by_cases iB : B = i
      · subst iB; simp [tB, h2.symm]
      · by_cases iC : C = i
        · subst iC; simp [tC]
        · simp [iA, iB, iC]
theorem bit_in {P S i : Nat} (h : P &&& S = P) (hp : P.testBit i = true) : S.testBit i = true := sub_bit h hp
theorem sub_of {P S : Nat} (h : ∀ i, P.testBit i = true → S.testBit i = true) : P &&& S = P := by
  apply Nat.eq_of_testBit_eq
  intro i
  rw [Nat.testBit_and]
  cases hp : P.testBit i
  · rfl
  · rw [h i hp]; rfl
theorem jump_sub {P S A B C : Nat} (h : P &&& S = P) (hc : S.testBit C = true) : jumpTo P A B C &&& S = jumpTo P A B C := by
  refine sub_of (fun i hi => ?_)
  rw [testBit_jumpTo] at hi
  by_cases iC : C = i
  · subst iC; exact hc
  · simp only [iC, decide_false, Bool.or_false, Bool.and_eq_true] at hi
    exact bit_in h hi.1
theorem undo_sub {P S A B C : Nat} (h : P &&& S = P) (ha : S.testBit A = true) (hb : S.testBit B = true) : undoTo P A B C &&& S = undoTo P A B C := by
  refine sub_of (fun i hi => ?_)
  rw [testBit_undoTo] at hi
  by_cases iA : A = i
  · subst iA; exact ha
  · by_cases iB : B = i
    · subst iB; exact hb
    · simp only [iA, iB, decide_false, Bool.or_false, Bool.and_eq_true] at hi
      exact bit_in h hi.1

theorem isL_mem {W H S A B C : Nat} {dx dy : Int} (ok : Ok W H S) (h : IsLn W H S A B C dx dy) : isL (linesL W H S) A B C = true := by
  unfold isL
  rw [linesL_ok ok, find_mem ok h]
  simp

/-- What the law asks of one jump from P to Q. -/
structure JumpFit (W H S P Q A B C N : Nat) : Prop where
  ha : A ≤ 48
  hb : B ≤ 48
  hc : C ≤ 48
  hQ : Q < 2 ^ 49
  hN : N ≤ 49
  dj : ∀ w, Calls Try.prog 37 #[.agg #[.int .i64 W, .int .i64 H, .int .i64 S], .int .i64 P, .agg #[.int .i64 A, .int .i64 B, .int .i64 C]] w fun e w' => e = .returned (.tuple #[.int .i64 Q, .bool true]) ∧ Below w.heap.size w w'
  uj : ∀ w, Calls Try.prog 38 #[.agg #[.int .i64 W, .int .i64 H, .int .i64 S], .int .i64 Q, .agg #[.int .i64 A, .int .i64 B, .int .i64 C]] w fun e w' => e = .returned (.tuple #[.int .i64 P, .bool true]) ∧ Below w.heap.size w w'
  cq : ∀ w, Calls Try.prog 39 #[.agg #[.int .i64 W, .int .i64 H, .int .i64 S], .int .i64 Q] w fun e w' => e = .returned (.int .i64 N) ∧ Below w.heap.size w w'
  cp : ∀ w, Calls Try.prog 39 #[.agg #[.int .i64 W, .int .i64 H, .int .i64 S], .int .i64 P] w fun e w' => e = .returned (.int .i64 ((N : Int) + 1)) ∧ Below w.heap.size w w'
  cj : ∀ w, Calls Try.prog 40 #[.agg #[.int .i64 W, .int .i64 H, .int .i64 S], .int .i64 P, .agg #[.int .i64 A, .int .i64 B, .int .i64 C]] w fun e w' => e = .returned (.bool true) ∧ Below w.heap.size w w'
  cu : ∀ w, Calls Try.prog 41 #[.agg #[.int .i64 W, .int .i64 H, .int .i64 S], .int .i64 Q, .agg #[.int .i64 A, .int .i64 B, .int .i64 C]] w fun e w' => e = .returned (.bool true) ∧ Below w.heap.size w w'
  cn : ∀ w, Calls Try.prog 41 #[.agg #[.int .i64 W, .int .i64 H, .int .i64 S], .int .i64 P, .agg #[.int .i64 A, .int .i64 B, .int .i64 C]] w fun e w' => e = .returned (.bool false) ∧ Below w.heap.size w w'
theorem jumpFit {W H S P A B C : Nat} {dx dy : Int} (ok : Ok W H S) (hs : P &&& S = P) (hI : IsLn W H S A B C dx dy) (hj : canJ P A B C = true) :
    JumpFit W H S P (jumpTo P A B C) A B C (cnt (jumpTo P A B C) (W * H)) := by
  have ha := ok.area
  have h49 := hI.lt49 ok
  obtain ⟨h1, h2, h3⟩ := hI.distinct
  have hP : P < 2 ^ 49 := Nat.lt_of_le_of_lt (sub_le hs) ok.lt
  have hqs := jump_sub (A := A) (B := B) hs hI.hc
  have hQ : jumpTo P A B C < 2 ^ 49 := Nat.lt_of_le_of_lt (sub_le hqs) ok.lt
  have hp : pOk W H S P = true := (pOk_iff ok _).2 ⟨P, rfl, hs⟩
  have hq : pOk W H S (jumpTo P A B C : Nat) = true := (pOk_iff ok _).2 ⟨_, rfl, hqs⟩
  have hl := isL_mem ok hI
  obtain ⟨hu, he⟩ := undo_jump h1 h2 h3 hj
  have hun := hj
  unfold canJ at hun
  simp only [Bool.and_eq_true, Bool.not_eq_true'] at hun
  have hc := cnt_jump h1 h2 h3 hj hI.a hI.b hI.c
  have hle := cnt_le (jumpTo P A B C) (W * H)
  refine ⟨h49.1, h49.2.1, h49.2.2, hQ, by omega, fun w => DoJump_true W H S P A B C hP h49.1 h49.2.1 h49.2.2 hp hl hj w, fun w => ?_, fun w => ?_, fun w => ?_, fun w => CanJump_b true _ _ _ _ _ _ _ (by omega) ?_ w, fun w => CanUndo_b true _ _ _ _ _ _ _ (by omega) ?_ w, fun w => CanUndo_b false _ _ _ _ _ _ _ (by omega) ?_ w⟩
  · have := UndoJump_true W H S (jumpTo P A B C) A B C hQ h49.1 h49.2.1 h49.2.2 hq hl hu w
    rw [he] at this; exact this
  · have := specCountPegs_any W H S (jumpTo P A B C : Nat) (by omega) w
    rw [cnt_pegs ok hqs] at this; exact this
  · have := specCountPegs_any W H S P (by omega) w
    rw [cnt_pegs ok hs, hc] at this; exact this
  · rw [hl, jumpO_nat hp, hj]; rfl
  · rw [hl, undoO_nat hq, hu]; rfl
  · rw [hl, undoO_nat hp]
    have : canU P A B C = false := by unfold canU; rw [hun.1]; rfl
    rw [this]; rfl
/-- What the law asks of one jump undone, from P to Q. -/
structure UndoFit (W H S P Q A B C : Nat) : Prop where
  ha : A ≤ 48
  hb : B ≤ 48
  hc : C ≤ 48
  hQ : Q < 2 ^ 49
  uj : ∀ w, Calls Try.prog 38 #[.agg #[.int .i64 W, .int .i64 H, .int .i64 S], .int .i64 P, .agg #[.int .i64 A, .int .i64 B, .int .i64 C]] w fun e w' => e = .returned (.tuple #[.int .i64 Q, .bool true]) ∧ Below w.heap.size w w'
  dj : ∀ w, Calls Try.prog 37 #[.agg #[.int .i64 W, .int .i64 H, .int .i64 S], .int .i64 Q, .agg #[.int .i64 A, .int .i64 B, .int .i64 C]] w fun e w' => e = .returned (.tuple #[.int .i64 P, .bool true]) ∧ Below w.heap.size w w'
theorem undoFit {W H S P A B C : Nat} {dx dy : Int} (ok : Ok W H S) (hs : P &&& S = P) (hI : IsLn W H S A B C dx dy) (hj : canU P A B C = true) :
    UndoFit W H S P (undoTo P A B C) A B C := by
  have h49 := hI.lt49 ok
  obtain ⟨h1, h2, h3⟩ := hI.distinct
  have hP : P < 2 ^ 49 := Nat.lt_of_le_of_lt (sub_le hs) ok.lt
  have hqs := undo_sub (C := C) hs hI.ha hI.hb
  have hQ : undoTo P A B C < 2 ^ 49 := Nat.lt_of_le_of_lt (sub_le hqs) ok.lt
  have hp : pOk W H S P = true := (pOk_iff ok _).2 ⟨P, rfl, hs⟩
  have hq : pOk W H S (undoTo P A B C : Nat) = true := (pOk_iff ok _).2 ⟨_, rfl, hqs⟩
  have hl := isL_mem ok hI
  obtain ⟨hu, he⟩ := jump_undo h1 h2 h3 hj
  refine ⟨h49.1, h49.2.1, h49.2.2, hQ, fun w => UndoJump_true W H S P A B C hP h49.1 h49.2.1 h49.2.2 hp hl hj w, fun w => ?_⟩
  have := DoJump_true W H S (undoTo P A B C) A B C hQ h49.1 h49.2.1 h49.2.2 hq hl hu w
  rw [he] at this; exact this
theorem jumpL_fit {W H S P : Nat} (ok : Ok W H S) (hs : P &&& S = P) {k : Nat} {l : Ln} (h : (jumpL W H S P)[k]? = some l) :
    ∃ A B C Q N : Nat, l = ⟨A, B, C⟩ ∧ JumpFit W H S P Q A B C N := by
  have hp : pOk W H S P = true := (pOk_iff ok _).2 ⟨P, rfl, hs⟩
  rw [jumpL_yes hp, linesL_ok ok] at h
  have hm := List.mem_of_getElem? h
  rw [List.mem_filter] at hm
  obtain ⟨A, B, C, rfl, dx, dy, hI⟩ := linesF_form ok hm.1
  exact ⟨A, B, C, _, _, rfl, jumpFit ok hs hI (by have := hm.2; simpa [canJL] using this)⟩
theorem undoL_fit {W H S P : Nat} (ok : Ok W H S) (hs : P &&& S = P) {k : Nat} {l : Ln} (h : (undoL W H S P)[k]? = some l) :
    ∃ A B C Q : Nat, l = ⟨A, B, C⟩ ∧ UndoFit W H S P Q A B C := by
  have hp : pOk W H S P = true := (pOk_iff ok _).2 ⟨P, rfl, hs⟩
  rw [undoL_yes hp, linesL_ok ok] at h
  have hm := List.mem_of_getElem? h
  rw [List.mem_filter] at hm
  obtain ⟨A, B, C, rfl, dx, dy, hI⟩ := linesF_form ok hm.1
  exact ⟨A, B, C, _, rfl, undoFit ok hs hI (by have := hm.2; simpa [canUL] using this)⟩
theorem jump_row3 : (jumpL 3 1 (7 : Nat) (3 : Nat)).length = 1 := by decide +kernel
end Go.Proofs.Ytoipnooncnpndaa
