/-
  Games on plain numbers: jumps played one after the other. No program in sight.
-/
import Derived.Test.YtoipnooncnpndaaHeld
namespace Go.Proofs.Ytoipnooncnpndaa
open Go.RowKit
open Peg
set_option linter.unusedVariables false

/-- One jump by a line, if it can be played. -/
def jump1 (a h s : Int) (q : Int) (l : Ln) : Option Nat := jumpO a h s q (isL (linesL a h s) l.a l.b l.c) l.a l.b l.c
def undo1 (a h s : Int) (q : Int) (l : Ln) : Option Nat := undoO a h s q (isL (linesL a h s) l.a l.b l.c) l.a l.b l.c
/-- All steps, one after the other. -/
def stepsO (f : Int → Ln → Option Nat) : Int → List Ln → Option Int
  | q, [] => some q
  | q, l :: ls => match f q l with
    | none => none
    | some r => stepsO f r ls
theorem stepsO_append (f : Int → Ln → Option Nat) : ∀ (xs ys : List Ln) (q : Int), stepsO f q (xs ++ ys) = (match stepsO f q xs with
    | none => none
    | some r => stepsO f r ys)
  | [], ys, q => rfl
  | l :: xs, ys, q => by
    simp only [List.cons_append, stepsO]
    cases f q l with
    | none => rfl
    | some r => exact stepsO_append f xs ys r
theorem stepsO_one {f : Int → Ln → Option Nat} {q : Int} {l : Ln} : stepsO f q [l] = (f q l).map (fun n => (n : Int)) := by
  simp only [stepsO]
  cases f q l <;> rfl
theorem stepsO_next {f : Int → Ln → Option Nat} {p q : Int} {ls : List Ln} {k : Nat} {l : Ln} {r : Nat} (h : stepsO f p (ls.take k) = some q) (hl : ls[k]? = some l) (hf : f q l = some r) : stepsO f p (ls.take (k + 1)) = some (r : Int) := by
  rw [List.take_add_one, hl, stepsO_append, h]
  show stepsO f q [l] = _
  rw [stepsO_one, hf]; rfl
theorem stepsO_stop {f : Int → Ln → Option Nat} {p q : Int} {ls : List Ln} {k : Nat} {l : Ln} (h : stepsO f p (ls.take k) = some q) (hl : ls[k]? = some l) (hf : f q l = none) : stepsO f p ls = none := by
  have e : ls = ls.take (k + 1) ++ ls.drop (k + 1) := (List.take_append_drop _ _).symm
  rw [e, stepsO_append, List.take_add_one, hl, stepsO_append, h]
  show (match stepsO f q [l] with
    | none => none
    | some r => stepsO f r (ls.drop (k + 1))) = none
  rw [stepsO_one, hf]; rfl

theorem jump1_bounds {a h s q : Int} {l : Ln} {r : Nat} (hj : jump1 a h s q l = some r) : r < 2 ^ 49 := by
  unfold jump1 at hj
  cases h1 : pOk a h s q with
  | false => rw [jumpO_no1 h1] at hj; cases hj
  | true =>
    cases h2 : isL (linesL a h s) l.a l.b l.c with
    | false => rw [h2, jumpO_no2] at hj; cases hj
    | true =>
      obtain ⟨W, H, S, P, A, B, C, rfl, rfl, rfl, rfl, ha, hb, hc, ok, hP, hA, hB, hC, hsub, dx, dy, hI⟩ := jump_nat h1 h2
      rw [ha, hb, hc] at hj
      rw [ha, hb, hc] at h2
      rw [h2, jumpO_nat h1] at hj
      split at hj
      · cases hj
        unfold jumpTo
        have h3 : ∀ x y : Nat, x < 2 ^ 49 → Bit.diff x y < 2 ^ 49 := fun x y hx => by
          refine Nat.lt_pow_two_of_testBit _ (fun i hi => ?_)
          rw [Bit.testBit_diff, Nat.testBit_lt_two_pow (Nat.lt_of_lt_of_le hx (Nat.pow_le_pow_right (by decide) hi))]
          rfl
        exact Nat.or_lt_two_pow (h3 _ _ (h3 _ _ hP)) (Nat.pow_lt_pow_right (by decide) (by omega))
      · cases hj
theorem undo1_bounds {a h s q : Int} {l : Ln} {r : Nat} (hj : undo1 a h s q l = some r) : r < 2 ^ 49 := by
  unfold undo1 at hj
  cases h1 : pOk a h s q with
  | false => rw [undoO_no1 h1] at hj; cases hj
  | true =>
    cases h2 : isL (linesL a h s) l.a l.b l.c with
    | false => rw [h2, undoO_no2] at hj; cases hj
    | true =>
      obtain ⟨W, H, S, P, A, B, C, rfl, rfl, rfl, rfl, ha, hb, hc, ok, hP, hA, hB, hC, hsub, dx, dy, hI⟩ := jump_nat h1 h2
      rw [ha, hb, hc] at hj
      rw [ha, hb, hc] at h2
      rw [h2, undoO_nat h1] at hj
      split at hj
      · cases hj
        unfold undoTo
        have h3 : ∀ x y : Nat, x < 2 ^ 49 → Bit.diff x y < 2 ^ 49 := fun x y hx => by
          refine Nat.lt_pow_two_of_testBit _ (fun i hi => ?_)
          rw [Bit.testBit_diff, Nat.testBit_lt_two_pow (Nat.lt_of_lt_of_le hx (Nat.pow_le_pow_right (by decide) hi))]
          rfl
        exact Nat.or_lt_two_pow (Nat.or_lt_two_pow (h3 _ _ hP) (Nat.pow_lt_pow_right (by decide) (by omega))) (Nat.pow_lt_pow_right (by decide) (by omega))
      · cases hj
theorem jump1_no {a h s q : Int} {l : Ln} (h1 : pOk a h s q = false) : jump1 a h s q l = none := jumpO_no1 h1
theorem undo1_no {a h s q : Int} {l : Ln} (h1 : pOk a h s q = false) : undo1 a h s q l = none := undoO_no1 h1

/-- The whole game, and the undone one. -/
def playR (a h s p : Int) (ls : List Ln) : Option Int := if pOk a h s p && decide (ls.length ≤ 60) then stepsO (jump1 a h s) p ls else none
def undoR (a h s p : Int) (ls : List Ln) : Option Int := if pOk a h s p && decide (ls.length ≤ 60) then stepsO (undo1 a h s) p ls.reverse else none
theorem playR_no1 {a h s p : Int} {ls : List Ln} (h1 : pOk a h s p = false) : playR a h s p ls = none := by unfold playR; rw [h1]; rfl
theorem playR_no2 {a h s p : Int} {ls : List Ln} (h1 : ¬ ls.length ≤ 60) : playR a h s p ls = none := by unfold playR; simp [h1]
theorem playR_yes {a h s p : Int} {ls : List Ln} (h1 : pOk a h s p = true) (h2 : ls.length ≤ 60) : playR a h s p ls = stepsO (jump1 a h s) p ls := by unfold playR; simp [h1, h2]
theorem undoR_no1 {a h s p : Int} {ls : List Ln} (h1 : pOk a h s p = false) : undoR a h s p ls = none := by unfold undoR; rw [h1]; rfl
theorem undoR_no2 {a h s p : Int} {ls : List Ln} (h1 : ¬ ls.length ≤ 60) : undoR a h s p ls = none := by unfold undoR; simp [h1]
theorem undoR_yes {a h s p : Int} {ls : List Ln} (h1 : pOk a h s p = true) (h2 : ls.length ≤ 60) : undoR a h s p ls = stepsO (undo1 a h s) p ls.reverse := by unfold undoR; simp [h1, h2]
theorem playR_stop {a h s p q : Int} {ls : List Ln} {k : Nat} {l : Ln} (he : stepsO (jump1 a h s) p (ls.take k) = some q) (hl : ls[k]? = some l) (hf : jump1 a h s q l = none) : playR a h s p ls = none := by
  unfold playR
  rw [stepsO_stop he hl hf]; split <;> rfl
theorem undoR_stop {a h s p q : Int} {ls : List Ln} {k : Nat} {l : Ln} (he : stepsO (undo1 a h s) p (ls.reverse.take k) = some q) (hl : ls.reverse[k]? = some l) (hf : undo1 a h s q l = none) : undoR a h s p ls = none := by
  unfold undoR
  rw [stepsO_stop he hl hf]; split <;> rfl
/-- A bad position plays no jump, so only the empty game passes it. -/
theorem steps_bad {a h s p q : Int} {ls : List Ln} {k : Nat} (h1 : pOk a h s p = false) (he : stepsO (jump1 a h s) p (ls.take k) = some q) (hk : k ≤ ls.length) : k = 0 := by
  match k, he with
  | 0, _ => rfl
  | k + 1, he =>
    cases ls with
    | nil => simp at hk
    | cons l ls => simp [stepsO, jump1_no h1] at he
def valR (o : Option Int) (p : Int) : Int := o.getD p

/-- The lines that stand in a slice which the program itself has made. -/
def LinesAt (w : World) (p : Option Addr) (ls : List Ln) : Prop :=
  ls.length = 0 ∨ ∃ g, p = some ⟨g, 0, none⟩ ∧ ∀ k l, ls[k]? = some l → w.cell? ⟨g, k * 3, none⟩ = some (.int .i64 l.a) ∧ w.cell? ⟨g, k * 3 + 1, none⟩ = some (.int .i64 l.b) ∧ w.cell? ⟨g, k * 3 + 2, none⟩ = some (.int .i64 l.c)
theorem LinesAt.kept {w w' : World} {p : Option Addr} {ls : List Ln} (h : LinesAt w p ls) (hb : Below w.heap.size w w') : LinesAt w' p ls := by
  rcases h with h | ⟨g, hp, h⟩
  · exact .inl h
  · exact .inr ⟨g, hp, fun k l hl => by
      obtain ⟨h0, h1, h2⟩ := h k l hl
      exact ⟨cell_kept h0 hb, cell_kept h1 hb, cell_kept h2 hb⟩⟩
theorem RowL.lines {w : World} {B : Nat} {v : Value} {ls : List Ln} (h : RowL w B v ls) : ∃ p cap, v = .slice p ls.length cap ∧ LinesAt w p ls := by
  rcases h.forms with ⟨rfl, a, cap, hv⟩ | ⟨hx, g, cap, rfl, hb, hg⟩
  · exact ⟨a, cap, hv, .inl rfl⟩
  · refine ⟨_, cap, rfl, .inr ⟨g, rfl, fun k l hl => ?_⟩⟩
    have hk : k < ls.length := (List.getElem?_eq_some_iff.1 hl).1
    have hl2 : ls[k] = l := (List.getElem?_eq_some_iff.1 hl).2
    rw [← hl2]
    exact h.at k hk
/-- The outcome of a game, in a tuple. -/
def RetR (w : World) (o : Option Int) (q : Int) (e : Ending) (w' : World) : Prop := e = .returned (.tuple #[.int .i64 (valR o q), .bool o.isSome]) ∧ Below w.heap.size w w'
end Go.Proofs.Ytoipnooncnpndaa
