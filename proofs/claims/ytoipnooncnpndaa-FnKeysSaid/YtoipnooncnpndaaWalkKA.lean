/-
  Jumps played one after the other, in plain terms. No program in sight.
-/
import Derived.Test.YtoipnooncnpndaaDrawG
import Derived.Test.YtoipnooncnpndaaWalkFK
import Derived.Test.YtoipnooncnpndaaPos
import Derived.Deep.Cut
namespace Go.Proofs.Ytoipnooncnpndaa
open Peg
open Go.RowKit
set_option linter.unusedVariables false

theorem jump1_inv {W H S P : Nat} {l : Ln} {R : Nat} (ok : Ok W H S) (hs : P &&& S = P) (h : jump1 W H S P l = some R) :
    ∃ (A B C : Nat) (dx dy : Int), l = ⟨A, B, C⟩ ∧ IsLn W H S A B C dx dy ∧ canJ P A B C = true ∧ R = jumpTo P A B C := by
  have hp : pOk W H S P = true := (pOk_iff ok _).2 ⟨P, rfl, hs⟩
  unfold jump1 at h
  cases h2 : isL (linesL W H S) l.a l.b l.c with
  | false => rw [h2, jumpO_no2] at h; cases h
  | true =>
    unfold isL at h2
    cases hf : findL (linesL W H S) l.a l.c with
    | none => rw [hf] at h2; cases h2
    | some m =>
      rw [hf] at h2
      obtain ⟨e1, e2, hm⟩ := find_some hf
      have e3 : m.b = l.b := by simpa using h2
      rw [linesL_ok ok] at hm
      obtain ⟨A, B, C, hml, dx, dy, hI⟩ := linesF_form ok hm
      have hl : l = ⟨A, B, C⟩ := by
        obtain ⟨la, lb, lc⟩ := l
        rw [hml] at e1 e2 e3
        dsimp only at e1 e2 e3
        rw [e1, e2, e3]
      subst hl
      dsimp only at h
      have hl2 := isL_mem ok hI
      rw [hl2, jumpO_nat hp] at h
      split at h
      · rename_i hc
        exact ⟨A, B, C, dx, dy, rfl, hI, hc, (Option.some.inj h).symm⟩
      · cases h
theorem jump1_sub {W H S P : Nat} {l : Ln} {R : Nat} (ok : Ok W H S) (hs : P &&& S = P) (h : jump1 W H S P l = some R) : R &&& S = R := by
  obtain ⟨A, B, C, dx, dy, rfl, hI, hc, rfl⟩ := jump1_inv ok hs h
  exact jump_sub hs hI.hc
theorem jump1_cnt {W H S P : Nat} {l : Ln} {R : Nat} (ok : Ok W H S) (hs : P &&& S = P) (h : jump1 W H S P l = some R) : cnt P (W * H) = cnt R (W * H) + 1 := by
  obtain ⟨A, B, C, dx, dy, rfl, hI, hc, rfl⟩ := jump1_inv ok hs h
  obtain ⟨h1, h2, h3⟩ := hI.distinct
  exact cnt_jump h1 h2 h3 hc hI.a hI.b hI.c
theorem jump1_undo {W H S P : Nat} {l : Ln} {R : Nat} (ok : Ok W H S) (hs : P &&& S = P) (h : jump1 W H S P l = some R) : undo1 W H S R l = some P := by
  have hr := jump1_sub ok hs h
  obtain ⟨A, B, C, dx, dy, rfl, hI, hc, rfl⟩ := jump1_inv ok hs h
  obtain ⟨h1, h2, h3⟩ := hI.distinct
  obtain ⟨hu, he⟩ := undo_jump h1 h2 h3 hc
  have hq : pOk W H S (jumpTo P A B C : Nat) = true := (pOk_iff ok _).2 ⟨_, rfl, hr⟩
  unfold undo1
  dsimp only
  rw [isL_mem ok hI, undoO_nat hq, hu, he]; rfl
theorem steps_cons {f : Int → Ln → Option Nat} {p : Int} {l : Ln} {ls : List Ln} {q : Int} (h : stepsO f p (l :: ls) = some q) : ∃ r : Nat, f p l = some r ∧ stepsO f r ls = some q := by
  simp only [stepsO] at h
  cases hf : f p l with
  | none => rw [hf] at h; cases h
  | some r => rw [hf] at h; exact ⟨r, rfl, h⟩
theorem steps_undo {W H S : Nat} (ok : Ok W H S) : ∀ (ls : List Ln) (P : Nat) (q : Int), P &&& S = P → stepsO (jump1 W H S) P ls = some q → stepsO (undo1 W H S) q ls.reverse = some (P : Int)
  | [], P, q, _, h => by simp only [stepsO, Option.some.injEq] at h; subst h; rfl
  | l :: ls, P, q, hs, h => by
    obtain ⟨r, hf, ht⟩ := steps_cons h
    have ih := steps_undo ok ls r q (jump1_sub ok hs hf) ht
    rw [List.reverse_cons]
    exact steps_snoc ih (jump1_undo ok hs hf)
theorem steps_take {W H S : Nat} (ok : Ok W H S) : ∀ (ls : List Ln) (P : Nat) (q : Int), P &&& S = P → stepsO (jump1 W H S) P ls = some q → ∀ i, i ≤ ls.length →
    ∃ R : Nat, stepsO (jump1 W H S) P (ls.take i) = some (R : Int) ∧ R &&& S = R ∧ cnt P (W * H) = cnt R (W * H) + i
  | _, P, q, hs, h, 0, _ => ⟨P, by rw [List.take_zero]; rfl, hs, rfl⟩
  | l :: ls, P, q, hs, h, i + 1, hi => by
    obtain ⟨r, hf, ht⟩ := steps_cons h
    obtain ⟨R, h1, h2, h3⟩ := steps_take ok ls r q (jump1_sub ok hs hf) ht i (by simpa using hi)
    refine ⟨R, ?_, h2, ?_⟩
    · rw [List.take_succ_cons]
      simp only [stepsO, hf]
      exact h1
    · have := jump1_cnt ok hs hf; omega

open Peg
open Go.RowKit
set_option linter.unusedVariables false

/-- How many of the first n bits are set and meet f. -/
def cntF (f : Nat → Bool) (S n : Nat) : Nat := ((List.range n).filter fun k => S.testBit k && f k).length
theorem cntF_yes {f : Nat → Bool} {S n : Nat} (h : (S.testBit n && f n) = true) : cntF f S (n + 1) = cntF f S n + 1 := by
  unfold cntF; rw [List.range_succ, List.filter_append]; simp only [List.filter_cons, List.filter_nil, h]; simp
theorem cntF_no {f : Nat → Bool} {S n : Nat} (h : (S.testBit n && f n) = false) : cntF f S (n + 1) = cntF f S n := by
  unfold cntF; rw [List.range_succ, List.filter_append]; simp only [List.filter_cons, List.filter_nil, h]; simp
theorem cntF_congr {f : Nat → Bool} {X Y : Nat} : ∀ n, (∀ i, i < n → X.testBit i = Y.testBit i) → cntF f X n = cntF f Y n
  | 0, _ => rfl
  | n + 1, h => by
    have ih := cntF_congr (f := f) n (fun i hi => h i (by omega))
    have hn := h n (by omega)
    cases hx : (X.testBit n && f n)
    · rw [cntF_no hx, cntF_no (by rw [← hn]; exact hx), ih]
    · rw [cntF_yes hx, cntF_yes (by rw [← hn]; exact hx), ih]
theorem cntF_set {f : Nat → Bool} {X Y A : Nat} (hA : X.testBit A = false) (h : ∀ i, Y.testBit i = (X.testBit i || decide (A = i))) : ∀ n, A < n → cntF f Y n = cntF f X n + (if f A then 1 else 0)
  | n + 1, hlt => by
    by_cases e : A = n
    · subst e
      have hy : Y.testBit A = true := by rw [h]; simp
      have e := cntF_congr (f := f) (X := Y) (Y := X) A (fun i hi => by
        rw [h i]
        have : ¬ A = i := by omega
        simp [this])
      have hx : (X.testBit A && f A) = false := by rw [hA]; rfl
      rw [cntF_no hx]
      cases hf : f A
      · rw [cntF_no (by rw [hf]; simp), e]; simp
      · rw [cntF_yes (by rw [hy, hf]; rfl), e]; simp
    · have ih := cntF_set (f := f) hA h n (by omega)
      have hn : Y.testBit n = X.testBit n := by rw [h n]; simp [e]
      cases hx : (X.testBit n && f n)
      · rw [cntF_no hx, cntF_no (by rw [hn]; exact hx), ih]
      · rw [cntF_yes hx, cntF_yes (by rw [hn]; exact hx), ih]; omega
theorem cntF_drop {f : Nat → Bool} {P A n : Nat} (hA : P.testBit A = true) (hn : A < n) : cntF f P n = cntF f (Bit.diff P (2 ^ A)) n + (if f A then 1 else 0) := by
  refine cntF_set (A := A) (by simp [Bit.testBit_diff]) (fun i => ?_) n hn
  rw [Bit.testBit_diff, Nat.testBit_two_pow]
  by_cases e : A = i
  · subst e; simp [hA]
  · simp [e]
theorem cntF_put {f : Nat → Bool} {P C n : Nat} (hC : P.testBit C = false) (hn : C < n) : cntF f (P ||| 2 ^ C) n = cntF f P n + (if f C then 1 else 0) := by
  refine cntF_set (A := C) hC (fun i => ?_) n hn
  rw [Nat.testBit_or, Nat.testBit_two_pow]
theorem cntF_jump {f : Nat → Bool} {P A B C n : Nat} (h1 : A ≠ B) (h2 : B ≠ C) (h3 : A ≠ C) (hj : canJ P A B C = true) (ha : A < n) (hb : B < n) (hc : C < n) :
    cntF f P n + (if f C then 1 else 0) = cntF f (jumpTo P A B C) n + (if f A then 1 else 0) + (if f B then 1 else 0) := by
  unfold canJ at hj
  simp only [Bool.and_eq_true, Bool.not_eq_true'] at hj
  obtain ⟨tA, tB, tC⟩ := hj
  have e1 := cntF_drop (f := f) tA ha
  have tB2 : (Bit.diff P (2 ^ A)).testBit B = true := by rw [Bit.testBit_diff, Nat.testBit_two_pow, tB]; simp [h1]
  have e2 := cntF_drop (f := f) tB2 hb
  have tC2 : (Bit.diff (Bit.diff P (2 ^ A)) (2 ^ B)).testBit C = false := by rw [Bit.testBit_diff, Bit.testBit_diff, tC]; simp
  have e3 := cntF_put (f := f) tC2 hc
  unfold jumpTo
  omega

/-- Does a peg of hole k turn number i of the class over? -/
def hitC (W i k : Nat) : Bool := decide ((k % W + k / W) % 3 = i ∨ 3 + (k % W + 2 * (k / W)) % 3 = i)
theorem tog_at {xs : List Int} {j i : Nat} (hj : j < xs.length) : (tog xs j)[i]?.getD 0 = if j = i then 1 - xs[i]?.getD 0 else xs[i]?.getD 0 := by
  unfold tog
  rw [List.getElem?_set]
  by_cases e : j = i
  · subst e; rw [if_pos rfl, if_pos hj, if_pos rfl]; rfl
  · rw [if_neg e, if_neg e]
theorem tog_len (xs : List Int) (j : Nat) : (tog xs j).length = xs.length := by unfold tog; rw [List.length_set]
theorem clsStep_len (W : Nat) (xs : List Int) (k : Nat) : (clsStep W xs k).length = xs.length := by unfold clsStep; rw [tog_len, tog_len]
theorem clsStep_at (W : Nat) (xs : List Int) (k i : Nat) (hl : xs.length = 6) : (clsStep W xs k)[i]?.getD 0 = if hitC W i k then 1 - xs[i]?.getD 0 else xs[i]?.getD 0 := by
  unfold clsStep hitC
  rw [tog_at (by rw [tog_len]; omega), tog_at (by omega)]
  by_cases h1 : (k % W + k / W) % 3 = i
  · have h2 : ¬ 3 + (k % W + 2 * (k / W)) % 3 = i := by omega
    rw [if_neg h2, if_pos h1, if_pos (by simp [h1])]
  · by_cases h2 : 3 + (k % W + 2 * (k / W)) % 3 = i
    · rw [if_pos h2, if_neg h1, if_pos (by simp [h2])]
    · rw [if_neg h2, if_neg h1, if_neg (by simp [h1, h2])]
theorem cls_fold (W i : Nat) : ∀ (ks : List Nat) (xs : List Int), xs.length = 6 → (ks.foldl (clsStep W) xs)[i]?.getD 0 = if (ks.filter (hitC W i)).length % 2 = 0 then xs[i]?.getD 0 else 1 - xs[i]?.getD 0
  | [], xs, _ => by simp
  | k :: ks, xs, hl => by
    have ih := cls_fold W i ks (clsStep W xs k) (by rw [clsStep_len]; exact hl)
    rw [List.foldl_cons, ih, clsStep_at W xs k i hl]
    cases hf : hitC W i k
    · rw [List.filter_cons_of_neg (by simp [hf])]; simp
    · rw [List.filter_cons_of_pos hf, List.length_cons]
      simp only [if_true]
      by_cases h2 : (ks.filter (hitC W i)).length % 2 = 0
      · rw [if_pos h2, if_neg (by omega)]
      · rw [if_neg h2, if_pos (by omega)]; omega
def clsAt (W P i : Nat) : Int := (clsL W (setN P 49))[i]?.getD 0
theorem zero_at (i : Nat) : zero6[i]?.getD 0 = 0 := by
  match i with
  | 0 => rfl
  | 1 => rfl
  | 2 => rfl
  | 3 => rfl
  | 4 => rfl
  | 5 => rfl
  | n + 6 => simp [zero6]
theorem clsAt_par (W P i : Nat) : clsAt W P i = if cntF (hitC W i) P 49 % 2 = 0 then 0 else 1 := by
  have h := cls_fold W i (setN P 49) zero6 rfl
  rw [zero_at] at h
  have e : ((setN P 49).filter (hitC W i)).length = cntF (hitC W i) P 49 := by
    unfold setN cntF
    rw [List.filter_filter]
    congr 1
    apply List.filter_congr
    intro k _
    rw [Bool.and_comm]
  rw [e] at h
  unfold clsAt clsL
  rw [h]
  split <;> rfl
theorem hit_one {W H S A B C : Nat} {dx dy : Int} (h : IsLn W H S A B C dx dy) (i : Nat) (hi : i < 6) :
    (hitC W i A = true ∧ hitC W i B = false ∧ hitC W i C = false) ∨ (hitC W i A = false ∧ hitC W i B = true ∧ hitC W i C = false) ∨ (hitC W i A = false ∧ hitC W i B = false ∧ hitC W i C = true) := by
  obtain ⟨_, _, _, _, _, _, hd, h1, h2, h3, h4⟩ := h
  unfold hitC
  simp only [decide_eq_true_eq, decide_eq_false_iff_not]
  generalize A % W = x at *
  generalize A / W = y at *
  generalize B % W = x1 at *
  generalize B / W = y1 at *
  generalize C % W = x2 at *
  generalize C / W = y2 at *
  rcases hd with ⟨rfl | rfl, rfl⟩ | ⟨rfl, rfl | rfl⟩ <;> omega
theorem jump_flip {W H S P A B C : Nat} {dx dy : Int} (ok : Ok W H S) (hI : IsLn W H S A B C dx dy) (hj : canJ P A B C = true) (i : Nat) (hi : i < 6) : clsAt W (jumpTo P A B C) i = 1 - clsAt W P i := by
  obtain ⟨h1, h2, h3⟩ := hI.distinct
  have h49 := hI.lt49 ok
  have e := cntF_jump (f := hitC W i) (n := 49) h1 h2 h3 hj (by omega) (by omega) (by omega)
  rw [clsAt_par, clsAt_par]
  rcases hit_one hI i hi with ⟨a, b, c⟩ | ⟨a, b, c⟩ | ⟨a, b, c⟩ <;> rw [a, b, c] at e <;> simp at e <;> split <;> split <;> omega
theorem game_flip {W H S : Nat} (ok : Ok W H S) (i : Nat) (hi : i < 6) : ∀ (ls : List Ln) (P Q : Nat), P &&& S = P → stepsO (jump1 W H S) P ls = some (Q : Int) →
    clsAt W Q i = if ls.length % 2 = 0 then clsAt W P i else 1 - clsAt W P i
  | [], P, Q, _, h => by
    simp only [stepsO, Option.some.injEq] at h
    have : Q = P := by omega
    subst this; simp
  | l :: ls, P, Q, hs, h => by
    obtain ⟨r, hf, ht⟩ := steps_cons h
    have ih := game_flip ok i hi ls r Q (jump1_sub ok hs hf) ht
    obtain ⟨A, B, C, dx, dy, rfl, hI, hc, rfl⟩ := jump1_inv ok hs hf
    rw [ih, jump_flip ok hI hc i hi, List.length_cons]
    by_cases h2 : ls.length % 2 = 0
    · rw [if_pos h2, if_neg (by omega)]
    · rw [if_neg h2, if_pos (by omega)]; omega
theorem diff_flip (x y : Int) : diff2 (1 - x) (1 - y) = diff2 x y := by
  unfold diff2
  by_cases h : x = y
  · rw [if_pos h, if_pos (by omega)]
  · rw [if_neg h, if_neg (by omega)]
theorem key_of {W H S P : Nat} (ok : Ok W H S) (hs : P &&& S = P) : keyL W H S P = [diff2 (clsAt W P 0) (clsAt W P 1), diff2 (clsAt W P 1) (clsAt W P 2), diff2 (clsAt W P 3) (clsAt W P 4), diff2 (clsAt W P 4) (clsAt W P 5)] := by
  have hp : pOk W H S P = true := (pOk_iff ok _).2 ⟨P, rfl, hs⟩
  rw [keyL_yes hp, classL_yes hp]; rfl
theorem game_key {W H S P Q : Nat} {ls : List Ln} (ok : Ok W H S) (hs : P &&& S = P) (hq : Q &&& S = Q) (h : stepsO (jump1 W H S) P ls = some (Q : Int)) : keyL W H S P = keyL W H S Q := by
  rw [key_of ok hs, key_of ok hq]
  have g := fun i hi => game_flip ok i hi ls P Q hs h
  rw [g 0 (by omega), g 1 (by omega), g 2 (by omega), g 3 (by omega), g 4 (by omega), g 5 (by omega)]
  by_cases h2 : ls.length % 2 = 0
  · simp only [if_pos h2]
  · simp only [if_neg h2, diff_flip]

/-- The class of one peg. -/
theorem one_set {S K : Nat} (hK : K < 49) : setN (2 ^ K) 49 = [K] := by
  unfold setN
  have h := cnt_pow 49 K hK
  unfold cnt at h
  obtain ⟨x, hx⟩ := List.length_eq_one_iff.1 h
  rw [hx]
  have hm : K ∈ (List.range 49).filter (2 ^ K).testBit := by rw [List.mem_filter, List.mem_range]; exact ⟨hK, by simp⟩
  rw [hx] at hm
  simp at hm
  rw [hm]
def keyAB (a b : Nat) : List Int := keyOf6 (tog (tog zero6 a) (3 + b))
theorem key_inj0 : ((List.range 3).all fun a => (List.range 3).all fun b => (List.range 3).all fun c => (List.range 3).all fun d => (a == c && b == d) || !(keyAB a b == keyAB c d)) = true := by decide +kernel
theorem key_inj (a : Nat) (ha : a < 3) (b : Nat) (hb : b < 3) (c : Nat) (hc : c < 3) (d : Nat) (hd : d < 3) (h : keyOf6 (tog (tog zero6 a) (3 + b)) = keyOf6 (tog (tog zero6 c) (3 + d))) : a = c ∧ b = d := by
  have h0 := key_inj0
  simp only [List.all_eq_true, List.mem_range] at h0
  have h1 := h0 a ha b hb c hc d hd
  have h2 : (keyAB a b == keyAB c d) = true := by rw [beq_iff_eq]; exact h
  rw [h2] at h1
  simpa using h1
theorem single_pos {W H S K : Nat} (ok : Ok W H S) (hb : S.testBit K = true) : pOk W H S (2 ^ K : Nat) = true := (pOk_iff ok _).2 ⟨2 ^ K, rfl, single_sub hb⟩
theorem single_key {W H S K : Nat} (ok : Ok W H S) (hK : K < 49) (hb : S.testBit K = true) : keyL W H S (2 ^ K : Nat) = keyOf6 (tog (tog zero6 ((K % W + K / W) % 3)) (3 + (K % W + 2 * (K / W)) % 3)) := by
  rw [keyL_yes (single_pos ok hb), classL_yes (single_pos ok hb), one_set (S := S) hK]; rfl
theorem same_mods {W H S K K' : Nat} (ok : Ok W H S) (hK : K < 49) (hK' : K' < 49) (hb : S.testBit K = true) (hb' : S.testBit K' = true) (h : keyL W H S (2 ^ K : Nat) = keyL W H S (2 ^ K' : Nat)) :
    K % W % 3 = K' % W % 3 ∧ K / W % 3 = K' / W % 3 := by
  rw [single_key ok hK hb, single_key ok hK' hb'] at h
  have := key_inj _ (by omega) _ (by omega) _ (by omega) _ (by omega) h
  omega
theorem key_zero {W H S : Nat} (ok : Ok W H S) : keyN W H S (0 : Nat) = 0 := by
  have hp : pOk W H S (0 : Nat) = true := (pOk_iff ok _).2 ⟨0, rfl, by simp⟩
  unfold keyN
  rw [hp, keyL_yes hp, classL_yes hp]
  have : setN 0 49 = [] := by decide +kernel
  rw [this]; rfl
theorem final_mem {W H S P : Nat} (ok : Ok W H S) (hs : P &&& S = P) {j : Nat} (hj : j < (finalL W H S P).length) :
    ∃ K : Nat, (finalL W H S P)[j]?.getD 0 = (K : Int) ∧ K < 49 ∧ S.testBit K = true ∧ keyL W H S P = keyL W H S (2 ^ K : Nat) := by
  have hm : (finalL W H S P)[j] ∈ finalL W H S P := List.getElem_mem hj
  rw [List.getElem?_eq_getElem hj]
  generalize (finalL W H S P)[j] = x at hm ⊢
  unfold finalL at hm
  rw [List.mem_filter] at hm
  obtain ⟨hm, hf⟩ := hm
  obtain ⟨i, hi, rfl⟩ := List.getElem_of_mem hm
  obtain ⟨K, hK, hKW, hK48, hb⟩ := hole_at ok i hi
  rw [List.getElem?_eq_getElem hi] at hK
  simp only [Option.getD_some] at hK ⊢
  rw [hK] at hf
  refine ⟨K, hK, by omega, hb, ?_⟩
  have hh : hasB W H S K = true := (hasB_iff ok _).2 ⟨K, rfl, hKW, hb⟩
  unfold finF sameK singleF at hf
  rw [hh] at hf
  simp only [if_true, Int.toNat_natCast, Bool.and_eq_true, beq_iff_eq] at hf
  have := hf.2.2
  rw [cast_pow] at this
  exact this
theorem final_some {W H S P Q : Nat} (ok : Ok W H S) (hs : P &&& S = P) (hq : Q &&& S = Q) (hkey : keyL W H S P = keyL W H S Q) (h1 : cnt Q (W * H) = 1) : 0 < (finalL W H S P).length := by
  have hQ2 : Q < 2 ^ (W * H) := Nat.lt_of_le_of_lt (sub_le hq) ok.s2
  unfold cnt at h1
  obtain ⟨K, hK⟩ := List.length_eq_one_iff.1 h1
  have hm : ∀ i, i ∈ (List.range (W * H)).filter Q.testBit ↔ i = K := fun i => by rw [hK]; simp
  have hKm := (hm K).2 rfl
  rw [List.mem_filter, List.mem_range] at hKm
  have hQK : Q = 2 ^ K := by
    apply Nat.eq_of_testBit_eq
    intro i
    rw [Nat.testBit_two_pow]
    by_cases e : K = i
    · subst e; simp [hKm.2]
    · simp only [e, decide_false]
      by_cases hi : i < W * H
      · cases hb : Q.testBit i
        · rfl
        · have := (hm i).1 (by rw [List.mem_filter, List.mem_range]; exact ⟨hi, hb⟩)
          omega
      · exact Nat.testBit_lt_two_pow (Nat.lt_of_lt_of_le hQ2 (Nat.pow_le_pow_right (by decide) (by omega)))
  have hb : S.testBit K = true := sub_bit hq hKm.2
  have hp : pOk W H S P = true := (pOk_iff ok _).2 ⟨P, rfl, hs⟩
  have hh : hasB W H S K = true := (hasB_iff ok _).2 ⟨K, rfl, hKm.1, hb⟩
  refine List.length_pos_of_mem (a := (K : Int)) ?_
  unfold finalL
  rw [List.mem_filter]
  constructor
  · rw [holesL_ok ok]
    unfold bitsTo
    rw [List.mem_map]
    exact ⟨K, by rw [List.mem_filter, List.mem_range]; exact ⟨hKm.1, hb⟩, rfl⟩
  · unfold finF sameK singleF
    rw [hh, hp]
    simp only [if_true, Int.toNat_natCast]
    rw [cast_pow, single_pos ok hb, hkey, hQK]
    simp

open Go.RowKit
open Peg
set_option linter.unusedVariables false
set_option linter.unusedSimpArgs false

theorem pegs_any {W H S P : Nat} (ok : Ok W H S) (hs : P &&& S = P) (w : World) :
    Calls Try.prog 39 #[.agg #[.int .i64 W, .int .i64 H, .int .i64 S], .int .i64 P] w fun e w' => e = .returned (.int .i64 (cnt P (W * H) : Nat)) ∧ Below w.heap.size w w' := by
  have hP : P < 2 ^ 49 := Nat.lt_of_le_of_lt (sub_le hs) ok.lt
  have := specCountPegs_any W H S P (by omega) w
  rw [cnt_pegs ok hs] at this; exact this
theorem classAt_any {W H S P : Nat} (ok : Ok W H S) (hs : P &&& S = P) (w : World) :
    Calls Try.prog 46 #[.agg #[.int .i64 W, .int .i64 H, .int .i64 S], .int .i64 P] w fun e w' => ∃ g cp, e = .returned (.slice (some ⟨g, 0, none⟩) 6 cp) ∧ (∀ i, i < 6 → w'.cell? ⟨g, i, none⟩ = some (.int .i64 (clsAt W P i))) ∧ Below w.heap.size w w' := by
  have hP : P < 2 ^ 49 := Nat.lt_of_le_of_lt (sub_le hs) ok.lt
  have hp : pOk W H S P = true := (pOk_iff ok _).2 ⟨P, rfl, hs⟩
  refine (ClassOf_any W H S P (by omega) w).mono ?_
  rintro e w1 hr
  obtain ⟨v, rfl, hr1, hB⟩ := hr
  have hb := (classL_bin hp).1
  rcases hr1.forms with ⟨h0, _⟩ | ⟨_, g, cp, rfl, _⟩
  · rw [h0] at hb; simp at hb
  · have hat := fun i hi => hr1.at i hi
    rw [hb] at hat ⊢
    refine ⟨g, cp, rfl, fun i hi => ?_, hB⟩
    rw [hat i hi, classL_yes hp]; rfl
theorem keyAt_any {W H S P : Nat} (ok : Ok W H S) (hs : P &&& S = P) (ks : List Int) (hk : keyL W H S P = ks) (w : World) :
    Calls Try.prog 47 #[.agg #[.int .i64 W, .int .i64 H, .int .i64 S], .int .i64 P] w fun e w' => ∃ g cp, e = .returned (.slice (some ⟨g, 0, none⟩) 4 cp) ∧ (∀ i, i < 4 → w'.cell? ⟨g, i, none⟩ = some (.int .i64 (ks[i]?.getD 0))) ∧ Below w.heap.size w w' := by
  have hP : P < 2 ^ 49 := Nat.lt_of_le_of_lt (sub_le hs) ok.lt
  have hp : pOk W H S P = true := (pOk_iff ok _).2 ⟨P, rfl, hs⟩
  refine (KeyOf_any W H S P (by omega) w).mono ?_
  rintro e w1 hr
  obtain ⟨v, rfl, hr1, hB⟩ := hr
  have hb : (keyL W H S P).length = 4 := by rw [key_of ok hs]; rfl
  rw [hk] at hr1 hb
  rcases hr1.forms with ⟨h0, _⟩ | ⟨_, g, cp, rfl, _⟩
  · rw [h0] at hb; simp at hb
  · have hat := fun i hi => hr1.at i hi
    rw [hb] at hat ⊢
    exact ⟨g, cp, rfl, hat, hB⟩
set_option maxHeartbeats 800000 in
theorem lawSame_any (g g' cp cp' L : Nat) (hL : L ≤ 100) (f : Nat → Int) (w : World) (h1 : ∀ i, i < L → w.cell? ⟨g, i, none⟩ = some (.int .i64 (f i))) (h2 : ∀ i, i < L → w.cell? ⟨g', i, none⟩ = some (.int .i64 (f i))) :
    Calls Try.prog 49 #[.slice (some ⟨g, 0, none⟩) L cp, .slice (some ⟨g', 0, none⟩) L cp'] w fun e w' => e = .returned (.bool true) ∧ Below w.heap.size w w' := by
  have H1 := Lib.hid h1
  have H2 := Lib.hid h2
  clear h1 h2
  go_enter Try.func49, Try.ntmps49
  go_wp2_with fail
  go_loopw [5] (fun i wr => ∃ k : Nat, k ≤ L ∧ i = .int .i64 k ∧ Below w.heap.size w wr) (fun i _ => L - (intOf i).toNat)
  case atStart => exact ⟨0, by omega, rfl, Below.refl _ _⟩
  case round =>
    obtain ⟨k, hk, rfl, hb⟩ := hrel
    by_cases hlt : ¬ k < L
    · have hI1 : ¬ (k : Int) < (L : Int) := by omega
      go_wp2
      go_ret
      exact ⟨rfl, hb⟩
    have hlt : k < L := by omega
    have c1 := cell_kept (H1.out k hlt) hb
    have c2 := cell_kept (H2.out k hlt) hb
    have HB := Lib.hid hb
    clear hb
    have g1w : g < wr.heap.size := World.block_lt_of_cell? wr _ c1
    have g2w : g' < wr.heap.size := World.block_lt_of_cell? wr _ c2
    have hI0 : (0 : Int) ≤ (k : Int) := by omega
    have hI1 : (k : Int) < (L : Int) := by omega
    obtain ⟨x, hx⟩ : ∃ x, f k = x := ⟨_, rfl⟩
    rw [hx] at c1 c2
    have q1 : (x != x) = false := by simp
    clear hx
    go_wp2_with fail
    go_quiet (fail)
    have HD := Lib.hid (HB.out.andThen (Joins.below_draws _ wr nq))
    go_wp2
    go_roundw
    case rel => exact ⟨k + 1, by omega, by go_num, HD.out⟩
    case measure => simp [intOf]; omega
def IntsAt (w : World) (p : Option Addr) (xs : List Int) : Prop := xs.length = 0 ∨ ∃ g, p = some ⟨g, 0, none⟩ ∧ ∀ j, j < xs.length → w.cell? ⟨g, j, none⟩ = some (.int .i64 (xs[j]?.getD 0))
theorem IntsAt.kept {w w' : World} {p : Option Addr} {xs : List Int} (h : IntsAt w p xs) (hb : Below w.heap.size w w') : IntsAt w' p xs := by
  rcases h with h | ⟨g, hp, h⟩
  · exact .inl h
  · exact .inr ⟨g, hp, fun j hj => cell_kept (h j hj) hb⟩
theorem finalAt_any {W H S P : Nat} (ok : Ok W H S) (hs : P &&& S = P) (w : World) :
    Calls Try.prog 48 #[.agg #[.int .i64 W, .int .i64 H, .int .i64 S], .int .i64 P] w fun e w' => ∃ p cp, e = .returned (.slice p (finalL W H S P).length cp) ∧ IntsAt w' p (finalL W H S P) ∧ Below w.heap.size w w' := by
  have hP : P < 2 ^ 49 := Nat.lt_of_le_of_lt (sub_le hs) ok.lt
  refine (FinalHoles_any W H S P (by omega) w).mono ?_
  rintro e w1 hr
  obtain ⟨v, rfl, hr1, hB⟩ := hr
  rcases hr1.forms with ⟨h0, a, cp, rfl⟩ | ⟨_, g, cp, rfl, _⟩
  · exact ⟨a, cp, by rw [h0]; rfl, .inl (by rw [h0]; rfl), hB⟩
  · exact ⟨_, cp, rfl, .inr ⟨g, rfl, fun j hj => hr1.at j hj⟩, hB⟩
theorem mod3_zero' {x y a b : Nat} (hx : x < a) (hy : y < b) (h : x % 3 = y % 3) : ((x : Int) - (y : Int)).tmod 3 = 0 ∧ ((x : Int) - (y : Int)) % 3 = 0 := by
  have h2 : ((x : Int) - (y : Int)) % 3 = 0 := by omega
  refine ⟨?_, h2⟩
  have := Int.dvd_of_emod_eq_zero h2
  exact Int.tmod_eq_zero_of_dvd this

set_option maxHeartbeats 1600000 in
set_option maxRecDepth 100000 in
theorem walkFnKeys (ad : Option Addr) (len cap : Nat) (w : World) (h : IsCode w ad len) :
    Calls Try.prog 7 #[.slice ad len cap] w fun e w' => e = .returned (.bool true) ∧ Below w.heap.size w w' := by
  have HC := Lib.hid h
  clear h
  by_cases hle : ¬ len ≤ 1048576
  · have hb : decide ((1048576 : Int) < (len : Int)) = true := by simp; omega
    go_enter Try.func7, Try.ntmps7
    go_wp2_with fail
    refine (big_any ad len cap true hb _).mono ?_
    rintro e w1 ⟨rfl, hw1⟩
    subst w1
    go_wp2
    go_ret
    exact ⟨rfl, Below.refl _ _⟩
  have hle : len ≤ 1048576 := by omega
  have hb : decide ((1048576 : Int) < (len : Int)) = false := by simp; omega
  have HLE := Lib.hid hle
  go_enter Try.func7, Try.ntmps7
  go_wp2_with fail
  refine (big_any ad len cap false hb _).mono ?_
  rintro e w1 ⟨rfl, hw1⟩
  subst w1
  clear hb hle
  go_wp2_with fail
  refine (DrawGame_any ad len cap HLE.out _ HC.out).mono ?_
  rintro e w2 hr
  obtain ⟨W, H, S, P, Q, ls, v, ok, hs, hq, hls, hst, rfl, hrow, hB2⟩ := hr
  obtain ⟨p, cp, rfl, hat⟩ := hrow.lines
  have X2 := BoxAt.new w2 W H S 26
  have b2 := below1 w2 (.cells #[.int .i64 W, .int .i64 H, .int .i64 S] 26)
  have hBel := Lib.hid (hB2.andThen b2)
  have hat3 := hat.kept b2
  have hp : pOk W H S P = true := (pOk_iff ok _).2 ⟨P, rfl, hs⟩
  have hpq : pOk W H S Q = true := (pOk_iff ok _).2 ⟨Q, rfl, hq⟩
  have hP : P < 2 ^ 49 := Nat.lt_of_le_of_lt (sub_le hs) ok.lt
  have hQ : Q < 2 ^ 49 := Nat.lt_of_le_of_lt (sub_le hq) ok.lt
  have hkey := game_key ok hs hq hst
  have hplay := fun w (h : LinesAt w p ls) => specPlayAll_any W H S P (by omega) p cp ls (by omega) w h
  have hpl : playR W H S P ls = some (Q : Int) := by rw [playR_yes hp (by omega)]; exact hst
  rw [hpl] at hplay
  have hflip := fun i hi => game_flip ok i hi ls P Q hs hst
  have hpar := fun i => clsAt_par W P i
  have hsame := fun w => SameKey_b true W H S P Q (by omega) (by omega) (by unfold sameK; rw [hp, hpq, hkey]; simp) w
  have hnumP := fun w => KeyNumber_any W H S P (by omega) w
  have hnumQ := fun w => KeyNumber_any W H S Q (by omega) w
  have hnum : keyN W H S P = keyN W H S Q := by unfold keyN; rw [hp, hpq, hkey]
  rw [hnum] at hnumP
  obtain ⟨kn, hkn⟩ : ∃ kn, keyN W H S Q = kn := ⟨_, rfl⟩
  rw [hkn] at hnumP hnumQ
  have hnum0 := fun w => KeyNumber_any W H S (0 : Nat) (by decide) w
  rw [key_zero ok] at hnum0
  have hcls := fun w => classAt_any ok hs w
  have hclq := fun w => classAt_any ok hq w
  have hcnt := fun w => pegs_any ok hq w
  have hfin := fun w => finalAt_any ok hs w
  have hfm := fun j hj => final_mem ok hs (j := j) hj
  have hfs := fun h1 => final_some ok hs hq hkey h1
  have hf49 := finalL_len W H S P
  have hcb := cnt_le Q (W * H)
  have hwh := ok.area.2
  obtain ⟨N, hN⟩ : ∃ N, cnt Q (W * H) = N := ⟨_, rfl⟩
  rw [hN] at hcnt hfs hcb
  obtain ⟨fs, hfl⟩ : ∃ fs, finalL W H S P = fs := ⟨_, rfl⟩
  rw [hfl] at hfin hfm hfs hf49
  obtain ⟨F, hF⟩ : ∃ F, fs.length = F := ⟨_, rfl⟩
  obtain ⟨ks, hks⟩ : ∃ ks, keyL W H S Q = ks := ⟨_, rfl⟩
  have hkP := fun w => keyAt_any ok hs ks (hkey.trans hks) w
  have hkQ := fun w => keyAt_any ok hq ks hks w
  obtain ⟨J, hJ⟩ : ∃ J, ls.length = J := ⟨_, rfl⟩
  rw [hJ] at hplay hflip hls
  rw [hF] at hfin hfm hfs hf49
  have hmods := Lib.hid (fun (K K' : Nat) (a : K < 49) (b : K' < 49) (c : S.testBit K = true) (d : S.testBit K' = true) (e : keyL W H S (2 ^ K : Nat) = keyL W H S (2 ^ K' : Nat)) => same_mods ok a b c d e)
  obtain ⟨n, hn⟩ : ∃ n, w2.heap.size = n := ⟨_, rfl⟩
  rw [hn] at X2
  have hw1 := ok.w1
  have hw7 := ok.w7
  have HPLAY := Lib.hid hplay
  have HFLIP := Lib.hid hflip
  have HPAR := Lib.hid hpar
  have HSAME := Lib.hid hsame
  have HNP := Lib.hid hnumP
  have HNQ := Lib.hid hnumQ
  have HN0 := Lib.hid hnum0
  have HCL := Lib.hid hcls
  have HCQ := Lib.hid hclq
  have HCN := Lib.hid hcnt
  have HFIN := Lib.hid hfin
  have HFM := Lib.hid hfm
  have HFS := Lib.hid hfs
  have HKP := Lib.hid hkP
  have HKQ := Lib.hid hkQ
  have HAT := Lib.hid hat3
  have HF := Lib.hid hF
  clear hB2 b2 HC ok hs hq hst hrow hat hat3 hp hpq hkey hplay hpl hflip hpar hsame hnumP hnumQ hnum hkn hnum0 hcls hclq hcnt hfin hfm hfs hN hfl hks hkP hkQ hF hP hQ hwh
  go_wp2_with fail
  (try rw [hn])
  (try rw [hJ])
  generalize w2.alloc (.cells #[.int .i64 W, .int .i64 H, .int .i64 S] 26) = w3 at X2 hBel HAT ⊢
  clear hn
  obtain ⟨b0, b1, b2, bz⟩ := X2
  refine (HPLAY.out _ HAT.out).mono ?_
  rintro e w4 hr
  obtain ⟨rfl, hB4⟩ := hr
  replace b0 := cell_kept b0 hB4
  replace b1 := cell_kept b1 hB4
  replace b2 := cell_kept b2 hB4
  replace hBel := Lib.hid (hBel.out.andThen hB4)
  clear hB4 bz HAT hJ
  simp only [valR, Option.getD_some, Option.isSome_some]
  go_wp2_with fail
  refine (HCL.out _).mono ?_
  rintro e w5 ⟨g1, cp1, rfl, hc1, hB5⟩
  replace b0 := cell_kept b0 hB5
  replace b1 := cell_kept b1 hB5
  replace b2 := cell_kept b2 hB5
  replace hBel := Lib.hid (hBel.out.andThen hB5)
  have HC1 := Lib.hid hc1
  clear hB5 hc1
  go_wp2_with fail
  refine (HCQ.out _).mono ?_
  rintro e w6 ⟨g2, cp2, rfl, hc2, hB6⟩
  replace b0 := cell_kept b0 hB6
  replace b1 := cell_kept b1 hB6
  replace b2 := cell_kept b2 hB6
  replace hBel := Lib.hid (hBel.out.andThen hB6)
  replace HC1 := Lib.hid (show ∀ i, i < 6 → w6.cell? ⟨g1, i, none⟩ = some (.int .i64 (clsAt W P i)) from fun i hi => cell_kept (HC1.out i hi) hB6)
  have HC2 := Lib.hid hc2
  clear hB6 hc2
  go_wp2_with fail
  refine (HKP.out _).mono ?_
  rintro e w7 ⟨g3, cp3, rfl, hc3, hB7⟩
  replace b0 := cell_kept b0 hB7
  replace b1 := cell_kept b1 hB7
  replace b2 := cell_kept b2 hB7
  replace hBel := Lib.hid (hBel.out.andThen hB7)
  replace HC1 := Lib.hid (show ∀ i, i < 6 → w7.cell? ⟨g1, i, none⟩ = some (.int .i64 (clsAt W P i)) from fun i hi => cell_kept (HC1.out i hi) hB7)
  replace HC2 := Lib.hid (show ∀ i, i < 6 → w7.cell? ⟨g2, i, none⟩ = some (.int .i64 (clsAt W Q i)) from fun i hi => cell_kept (HC2.out i hi) hB7)
  have HC3 := Lib.hid hc3
  clear hB7 hc3
  go_wp2_with fail
  refine (HFIN.out _).mono ?_
  rintro e w8 ⟨pf, cpf, rfl, hif, hB8⟩
  replace b0 := cell_kept b0 hB8
  replace b1 := cell_kept b1 hB8
  replace b2 := cell_kept b2 hB8
  replace hBel := Lib.hid (hBel.out.andThen hB8)
  replace HC1 := Lib.hid (show ∀ i, i < 6 → w8.cell? ⟨g1, i, none⟩ = some (.int .i64 (clsAt W P i)) from fun i hi => cell_kept (HC1.out i hi) hB8)
  replace HC2 := Lib.hid (show ∀ i, i < 6 → w8.cell? ⟨g2, i, none⟩ = some (.int .i64 (clsAt W Q i)) from fun i hi => cell_kept (HC2.out i hi) hB8)
  replace HC3 := Lib.hid (show ∀ i, i < 4 → w8.cell? ⟨g3, i, none⟩ = some (.int .i64 (ks[i]?.getD 0)) from fun i hi => cell_kept (HC3.out i hi) hB8)
  have HIF := Lib.hid hif
  clear hB8 hif
  have hS0 : Three n W H S w8 w8.drew := ⟨b0, b1, b2, (Below.refl _ _).drew⟩
  go_wp2_with fail
  go_cut [79] from 200 (fun c wc => c = .bool false ∧ Below w8.heap.size w8 wc)
  case first =>
    go_region_held3 (fun w' => w'.cell? ⟨n, 0, none⟩ = some (.int .i64 W) ∧ w'.cell? ⟨n, 1, none⟩ = some (.int .i64 H) ∧ w'.cell? ⟨n, 2, none⟩ = some (.int .i64 S) ∧ Below w8.heap.size w8 w')
      (first | assumption | exact hS0 | exact Three.keep (by assumption) (by assumption))
      (first
        | (go_at_call 47; refine (HKQ.out _).mono ?_; rintro e wk ⟨g4, cp4, rfl, hc4, hB1⟩; have HC4 := Lib.hid hc4; clear hc4)
        | (go_at_call 49; refine (lawSame_any g3 g4 _ _ 4 (by decide) (fun i => ks[i]?.getD 0) wk (fun i hi => cell_kept (HC3.out i hi) (show Three n W H S w8 wk by assumption).2.2.2) HC4.out).mono ?_; rintro e ws ⟨rfl, hB1⟩)
        | (go_at_call 50; refine (HSAME.out _).mono ?_; rintro e ws2 ⟨rfl, hB1⟩)
        | (go_at_call_of 51 (Value.int .i64 (P : Int)); refine (HNP.out _).mono ?_; rintro e ws3 ⟨rfl, hB1⟩)
        | (go_at_call_of 51 (Value.int .i64 (Q : Int)); refine (HNQ.out _).mono ?_; rintro e ws4 ⟨rfl, hB1⟩))
    all_goals go_wp2
    all_goals go_meet
    all_goals (have hfin : Three n W H S w8 ws4 := by assumption)
    all_goals exact ⟨rfl, hfin.2.2.2⟩
  case rest =>
  obtain ⟨rfl, hb9⟩ := hcut
  rename World => w9
  replace b0 := cell_kept b0 hb9
  replace b1 := cell_kept b1 hb9
  replace b2 := cell_kept b2 hb9
  replace hBel := Lib.hid (hBel.out.andThen hb9)
  replace HC1 := Lib.hid (show ∀ i, i < 6 → w9.cell? ⟨g1, i, none⟩ = some (.int .i64 (clsAt W P i)) from fun i hi => cell_kept (HC1.out i hi) hb9)
  replace HC2 := Lib.hid (show ∀ i, i < 6 → w9.cell? ⟨g2, i, none⟩ = some (.int .i64 (clsAt W Q i)) from fun i hi => cell_kept (HC2.out i hi) hb9)
  replace HIF := Lib.hid (HIF.out.kept hb9)
  clear hb9 hS0 HC3 HKP HKQ HSAME HNP HNQ
  go_wp2_with fail
  go_loopw [12] (fun j wr => ∃ k : Nat, k ≤ 6 ∧ j = .int .i64 k ∧ Below w9.heap.size w9 wr) (fun j _ => 6 - (intOf j).toNat)
  case atStart => exact ⟨0, by omega, rfl, Below.refl _ _⟩
  case round =>
    obtain ⟨k, hk, rfl, hb⟩ := hrel
    by_cases hlt : k < 6
    · have hI0 : (0 : Int) ≤ (k : Int) := by omega
      have hI1 : (k : Int) < 6 := by omega
      have c1 := cell_kept (HC1.out k hlt) hb
      have c2 := cell_kept (HC2.out k hlt) hb
      have hfl := HFLIP.out k hlt
      have hpk := HPAR.out k
      obtain ⟨x, hx⟩ : ∃ x, clsAt W P k = x := ⟨_, rfl⟩
      obtain ⟨y, hy⟩ : ∃ y, clsAt W Q k = y := ⟨_, rfl⟩
      rw [hx] at c1 hfl hpk
      rw [hy] at c2 hfl
      have hx01 : x = 0 ∨ x = 1 := by rw [hpk]; split <;> simp
      have HB := Lib.hid hb
      have g1w : g1 < wr.heap.size := World.block_lt_of_cell? wr _ c1
      have g2w : g2 < wr.heap.size := World.block_lt_of_cell? wr _ c2
      clear hx hy hpk hb
      have hJ2 : (J : Int).tmod 2 = (J : Int) % 2 := by rw [Int.tmod_eq_emod_of_nonneg (by omega)]
      by_cases h2 : J % 2 = 0
      · have hm : (J : Int) % 2 = 0 := by omega
        rw [if_pos h2] at hfl
        have q1 : (x != y) = false := by simp [hfl]
        have q2 : ((0 : Int) == 1) = false := by decide
        clear hfl hx01
        go_wp2_with fail
        go_quiet (fail)
        have HD := Lib.hid (HB.out.andThen (Joins.below_draws _ wr nq))
        go_wp2
        go_roundw
        case rel => exact ⟨k + 1, by omega, by go_num, HD.out⟩
        case measure => simp [intOf]; omega
      · have hm : (J : Int) % 2 = 1 := by omega
        rw [if_neg h2] at hfl
        have q1 : (x != y) = true := by rcases hx01 with rfl | rfl <;> subst hfl <;> decide
        clear hfl hx01
        go_wp2_with fail
        go_quiet (fail)
        have HD := Lib.hid (HB.out.andThen (Joins.below_draws _ wr nq))
        go_wp2
        go_roundw
        case rel => exact ⟨k + 1, by omega, by go_num, HD.out⟩
        case measure => simp [intOf]; omega
    · have hI1 : ¬ (k : Int) < 6 := by omega
      replace b0 := cell_kept b0 hb
      replace b1 := cell_kept b1 hb
      replace b2 := cell_kept b2 hb
      replace hBel := Lib.hid (hBel.out.andThen hb)
      replace HIF := Lib.hid (HIF.out.kept hb)
      clear hb HC1 HC2 HFLIP HPAR
      rename World => wA
      go_wp2_with fail
      go_loopw [13] (fun j wr => ∃ k : Nat, 1 ≤ k ∧ (k ≤ F ∨ k = 1) ∧ j = .int .i64 k ∧ Below wA.heap.size wA wr) (fun j _ => F - (intOf j).toNat)
      case atStart => exact ⟨1, by omega, .inr rfl, rfl, Below.refl _ _⟩
      case round =>
        obtain ⟨i, hi1, hi2, rfl, hb⟩ := hrel
        replace b0 := cell_kept b0 hb
        replace b1 := cell_kept b1 hb
        replace b2 := cell_kept b2 hb
        by_cases hlt2 : i < F
        · have hJ0 : (0 : Int) ≤ (i : Int) := by omega
          have hJ1 : (i : Int) < (F : Int) := by omega
          rcases HIF.out with h0 | ⟨g5, rfl, hcs⟩
          · rw [HF.out] at h0; omega
          obtain ⟨K, hK, hK49, hKb, hKk⟩ := HFM.out i hlt2
          obtain ⟨K0, hK0, hK049, hK0b, hK0k⟩ := HFM.out 0 (by omega)
          have c1 := cell_kept (hcs i (by rw [HF.out]; exact hlt2)) hb
          have c0 := cell_kept (hcs 0 (by rw [HF.out]; omega)) hb
          rw [hK] at c1
          rw [hK0] at c0
          have g5w : g5 < wr.heap.size := World.block_lt_of_cell? wr _ c1
          obtain ⟨hmx, hmy⟩ := hmods.out K K0 hK49 hK049 hKb hK0b (hKk.symm.trans hK0k)
          have hx1 : K % W < 8 := by have := Nat.mod_lt K (show 0 < W by omega); omega
          have hx0 : K0 % W < 8 := by have := Nat.mod_lt K0 (show 0 < W by omega); omega
          have hy1 : K / W < 50 := Nat.lt_of_le_of_lt (Nat.div_le_self _ _) (by omega)
          have hy0 : K0 / W < 50 := Nat.lt_of_le_of_lt (Nat.div_le_self _ _) (by omega)
          obtain ⟨X, hX⟩ : ∃ X, K % W = X := ⟨_, rfl⟩
          obtain ⟨X0, hX0⟩ : ∃ X0, K0 % W = X0 := ⟨_, rfl⟩
          obtain ⟨Y, hY⟩ : ∃ Y, K / W = Y := ⟨_, rfl⟩
          obtain ⟨Y0, hY0⟩ : ∃ Y0, K0 / W = Y0 := ⟨_, rfl⟩
          have e1 : (K : Int) % (W : Int) = X := by rw [← hX]; rfl
          have e2 : (K0 : Int) % (W : Int) = X0 := by rw [← hX0]; rfl
          have e3 : (K : Int) / (W : Int) = Y := by rw [← hY]; rfl
          have e4 : (K0 : Int) / (W : Int) = Y0 := by rw [← hY0]; rfl
          have e5 : (K : Int).tmod (W : Int) = X := by rw [Int.tmod_eq_emod_of_nonneg (by omega)]; exact e1
          have e6 : (K0 : Int).tmod (W : Int) = X0 := by rw [Int.tmod_eq_emod_of_nonneg (by omega)]; exact e2
          have e7 : (K : Int).tdiv (W : Int) = Y := by rw [Int.tdiv_eq_ediv_of_nonneg (by omega)]; exact e3
          have e8 : (K0 : Int).tdiv (W : Int) = Y0 := by rw [Int.tdiv_eq_ediv_of_nonneg (by omega)]; exact e4
          have hW0 : ¬ (W : Int) = 0 := by omega
          rw [hX, hX0] at hmx
          rw [hY, hY0] at hmy
          rw [hX] at hx1
          rw [hX0] at hx0
          rw [hY] at hy1
          rw [hY0] at hy0
          obtain ⟨m1, m2⟩ := mod3_zero' hx1 hx0 hmx
          obtain ⟨m3, m4⟩ := mod3_zero' hy1 hy0 hmy
          have HB := Lib.hid hb
          clear hb hmx hmy hX hX0 hY hY0 hK hK0 hKb hK0b hKk hK0k hcs
          go_wp2_with fail
          go_quiet (fail)
          have hbd : Below wr.heap.size wr (wr.drewN nq) := Joins.below_draws _ _ _
          have HB2 := Lib.hid (HB.out.andThen hbd)
          replace c1 := cell_kept c1 hbd
          replace c0 := cell_kept c0 hbd
          replace b0 := cell_kept b0 hbd
          replace b1 := cell_kept b1 hbd
          replace b2 := cell_kept b2 hbd
          generalize wr.drewN nq = wq at c1 c0 b0 b1 b2 HB2 ⊢
          clear hbd g5w HB
          have g5w : g5 < wq.heap.size := World.block_lt_of_cell? wq _ c1
          go_wp2_with fail
          go_quiet (fail)
          have HD := Lib.hid (HB2.out.andThen (Joins.below_draws _ wq nq))
          go_wp2
          go_roundw
          case rel => exact ⟨i + 1, by omega, .inl (by omega), by go_num, HD.out⟩
          case measure => simp [intOf]; omega
        · have hJ1 : ¬ (i : Int) < (F : Int) := by omega
          replace hBel := Lib.hid (hBel.out.andThen hb)
          clear hb HIF hI1
          go_wp2_with fail
          refine (HN0.out _).mono ?_
          rintro e wB ⟨rfl, hBB⟩
          replace b0 := cell_kept b0 hBB
          replace b1 := cell_kept b1 hBB
          replace b2 := cell_kept b2 hBB
          replace hBel := Lib.hid (hBel.out.andThen hBB)
          clear hBB
          go_wp2_with fail
          refine (HCN.out _).mono ?_
          rintro e wC ⟨rfl, hBC⟩
          replace hBel := Lib.hid (hBel.out.andThen hBC)
          clear hBC b0 b1 b2
          by_cases hN1 : N = 1
          · have hFp := HFS.out hN1
            subst hN1
            have hFi : (0 : Int) < (F : Int) := by omega
            go_wp2
            go_ret
            exact ⟨rfl, hBel.out⟩
          · have hNi : ((N : Int) != 1) = true := by simp; omega
            go_wp2
            go_ret
            exact ⟨rfl, hBel.out⟩

end Go.Proofs.Ytoipnooncnpndaa
