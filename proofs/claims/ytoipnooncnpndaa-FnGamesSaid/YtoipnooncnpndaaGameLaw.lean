/-
  The law on games, in plain terms. No program in sight.
-/
import Derived.Test.YtoipnooncnpndaaDrawG
import Derived.Test.YtoipnooncnpndaaWalkPO
import Derived.Test.YtoipnooncnpndaaWalkT
namespace Go.Proofs.Ytoipnooncnpndaa
open Peg
open Go.RowKit
set_option linter.unusedVariables false

theorem jump1_inv {W H S P : Nat} {l : Ln} {R : Nat} (ok : Ok W H S) (hs : P &&& S = P) (h : jump1 W H S P l = some R) :
    ∃ (A B C : Nat) (dx dy : Int), l = ⟨A, B, C⟩ ∧ IsLn W H S A B C dx dy ∧ canJ P A B C = true ∧ R = jumpTo P A B C := by
  have hp : pOk W H S P = true := (pOk_iff ok _).2 ⟨P, rfl, hs⟩
  unfold jump1 at h
  cases h2 : isL (linesL W H S) l.a l.b l.c with
  | false => rw [h2, jumpO_no2] at h; cases h
  | true =>
    unfold isL at h2
    cases hf : findL (linesL W H S) l.a l.c with
    | none => rw [hf] at h2; cases h2
    | some m =>
      rw [hf] at h2
      obtain ⟨e1, e2, hm⟩ := find_some hf
      have e3 : m.b = l.b := by simpa using h2
      rw [linesL_ok ok] at hm
      obtain ⟨A, B, C, hml, dx, dy, hI⟩ := linesF_form ok hm
      have hl : l = ⟨A, B, C⟩ := by
        obtain ⟨la, lb, lc⟩ := l
        rw [hml] at e1 e2 e3
        dsimp only at e1 e2 e3
        rw [e1, e2, e3]
      subst hl
      dsimp only at h
      have hl2 := isL_mem ok hI
      rw [hl2, jumpO_nat hp] at h
      split at h
      · rename_i hc
        exact ⟨A, B, C, dx, dy, rfl, hI, hc, (Option.some.inj h).symm⟩
      · cases h
theorem jump1_sub {W H S P : Nat} {l : Ln} {R : Nat} (ok : Ok W H S) (hs : P &&& S = P) (h : jump1 W H S P l = some R) : R &&& S = R := by
  obtain ⟨A, B, C, dx, dy, rfl, hI, hc, rfl⟩ := jump1_inv ok hs h
  exact jump_sub hs hI.hc
theorem jump1_cnt {W H S P : Nat} {l : Ln} {R : Nat} (ok : Ok W H S) (hs : P &&& S = P) (h : jump1 W H S P l = some R) : cnt P (W * H) = cnt R (W * H) + 1 := by
  obtain ⟨A, B, C, dx, dy, rfl, hI, hc, rfl⟩ := jump1_inv ok hs h
  obtain ⟨h1, h2, h3⟩ := hI.distinct
  exact cnt_jump h1 h2 h3 hc hI.a hI.b hI.c
theorem jump1_undo {W H S P : Nat} {l : Ln} {R : Nat} (ok : Ok W H S) (hs : P &&& S = P) (h : jump1 W H S P l = some R) : undo1 W H S R l = some P := by
  have hr := jump1_sub ok hs h
  obtain ⟨A, B, C, dx, dy, rfl, hI, hc, rfl⟩ := jump1_inv ok hs h
  obtain ⟨h1, h2, h3⟩ := hI.distinct
  obtain ⟨hu, he⟩ := undo_jump h1 h2 h3 hc
  have hq : pOk W H S (jumpTo P A B C : Nat) = true := (pOk_iff ok _).2 ⟨_, rfl, hr⟩
  unfold undo1
  dsimp only
  rw [isL_mem ok hI, undoO_nat hq, hu, he]; rfl
theorem steps_cons {f : Int → Ln → Option Nat} {p : Int} {l : Ln} {ls : List Ln} {q : Int} (h : stepsO f p (l :: ls) = some q) : ∃ r : Nat, f p l = some r ∧ stepsO f r ls = some q := by
  simp only [stepsO] at h
  cases hf : f p l with
  | none => rw [hf] at h; cases h
  | some r => rw [hf] at h; exact ⟨r, rfl, h⟩
theorem steps_undo {W H S : Nat} (ok : Ok W H S) : ∀ (ls : List Ln) (P : Nat) (q : Int), P &&& S = P → stepsO (jump1 W H S) P ls = some q → stepsO (undo1 W H S) q ls.reverse = some (P : Int)
  | [], P, q, _, h => by simp only [stepsO, Option.some.injEq] at h; subst h; rfl
  | l :: ls, P, q, hs, h => by
    obtain ⟨r, hf, ht⟩ := steps_cons h
    have ih := steps_undo ok ls r q (jump1_sub ok hs hf) ht
    rw [List.reverse_cons]
    exact steps_snoc ih (jump1_undo ok hs hf)
theorem steps_take {W H S : Nat} (ok : Ok W H S) : ∀ (ls : List Ln) (P : Nat) (q : Int), P &&& S = P → stepsO (jump1 W H S) P ls = some q → ∀ i, i ≤ ls.length →
    ∃ R : Nat, stepsO (jump1 W H S) P (ls.take i) = some (R : Int) ∧ R &&& S = R ∧ cnt P (W * H) = cnt R (W * H) + i
  | _, P, q, hs, h, 0, _ => ⟨P, by rw [List.take_zero]; rfl, hs, rfl⟩
  | l :: ls, P, q, hs, h, i + 1, hi => by
    obtain ⟨r, hf, ht⟩ := steps_cons h
    obtain ⟨R, h1, h2, h3⟩ := steps_take ok ls r q (jump1_sub ok hs hf) ht i (by simpa using hi)
    refine ⟨R, ?_, h2, ?_⟩
    · rw [List.take_succ_cons]
      simp only [stepsO, hf]
      exact h1
    · have := jump1_cnt ok hs hf; omega

theorem swp_pos (ls : List Ln) : ∀ k, 1 ≤ swp ls (k + 1)
  | 0 => by rw [swp_in (swB_zero ls)]; omega
  | k + 1 => by
    have ih := swp_pos ls k
    cases h : swB ls (k + 1)
    · rw [swp_out h]; exact ih
    · rw [swp_in h]; omega

/-- What the law asks of a game. -/
structure GameFit (W H S P Q : Nat) (ls : List Ln) : Prop where
  play : playR W H S P ls = some (Q : Int)
  undo : undoR W H S Q ls = some (P : Int)
  len : (posL W H S P ls).length = ls.length + 1
  at0 : (posL W H S P ls)[0]?.getD 0 = (P : Int)
  atJ : (posL W H S P ls)[ls.length]?.getD 0 = (Q : Int)
  atk : ∀ k, k ≤ ls.length → ∃ R : Nat, (posL W H S P ls)[k]?.getD 0 = (R : Int) ∧ R &&& S = R ∧ cnt P (W * H) = cnt R (W * H) + k
  sw : swp ls ls.length ≤ ls.length
  sw0 : ls.length = 0 → swp ls ls.length = 0
  sw1 : ls.length ≠ 0 → 1 ≤ swp ls ls.length
  hP : P < 2 ^ 49
  hQ : Q < 2 ^ 49
theorem gameFit {W H S P Q : Nat} {ls : List Ln} (ok : Ok W H S) (hs : P &&& S = P) (hq : Q &&& S = Q) (hl : ls.length ≤ 12) (h : stepsO (jump1 W H S) P ls = some (Q : Int)) : GameFit W H S P Q ls := by
  have hp : pOk W H S P = true := (pOk_iff ok _).2 ⟨P, rfl, hs⟩
  have hpq : pOk W H S Q = true := (pOk_iff ok _).2 ⟨Q, rfl, hq⟩
  have hplay : playR W H S P ls = some (Q : Int) := by rw [playR_yes hp (by omega)]; exact h
  have e : posL W H S P ls = posT W H S P ls ls.length := posL_yes hplay
  have hat : ∀ k, k ≤ ls.length → (posT W H S P ls ls.length)[k]?.getD 0 = posF W H S P ls k := fun k hk => by
    unfold posT
    rw [List.getElem?_map, List.getElem?_range (by omega)]; rfl
  have hall : ∀ k, k ≤ ls.length → ∃ R : Nat, (posL W H S P ls)[k]?.getD 0 = (R : Int) ∧ R &&& S = R ∧ cnt P (W * H) = cnt R (W * H) + k := fun k hk => by
    obtain ⟨R, h1, h2, h3⟩ := steps_take ok ls P _ hs h k hk
    refine ⟨R, ?_, h2, h3⟩
    rw [e, hat k hk]; unfold posF; rw [h1]; rfl
  refine ⟨hplay, ?_, ?_, ?_, ?_, hall, swp_le _ _, fun h0 => by rw [h0]; rfl, fun h0 => ?_, Nat.lt_of_le_of_lt (sub_le hs) ok.lt, Nat.lt_of_le_of_lt (sub_le hq) ok.lt⟩
  · rw [undoR_yes hpq (by omega)]; exact steps_undo ok ls P _ hs h
  · rw [e, posT_len]
  · rw [e, hat 0 (by omega)]; unfold posF; rw [List.take_zero]; rfl
  · rw [e, hat _ (Nat.le_refl _)]; unfold posF; rw [List.take_length, h]; rfl
  · obtain ⟨m, hm⟩ : ∃ m, ls.length = m + 1 := ⟨ls.length - 1, by omega⟩
    rw [hm]; exact swp_pos ls m
end Go.Proofs.Ytoipnooncnpndaa
