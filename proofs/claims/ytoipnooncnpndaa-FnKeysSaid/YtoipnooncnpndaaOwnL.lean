/-
  A slice of lines that the program itself has made: what it holds, what becomes of it.
-/
import Derived.Test.YtoipnooncnpndaaOwn
import Derived.Test.YtoipnooncnpndaaLine
namespace Go.Proofs.Ytoipnooncnpndaa
open Go.RowKit
open Peg

theorem info_line : (Try.prog.info? 38).map (fun i => (i.zero, i.size, i.bytes)) = some (some (.agg #[.int .i64 0, .int .i64 0, .int .i64 0]), 3, 24) := by kernel_rfl

def flat (ls : List Ln) : List Int := ls.flatMap fun l => [l.a, l.b, l.c]
theorem flat_length : ∀ ls : List Ln, (flat ls).length = ls.length * 3
  | [] => rfl
  | l :: ls => by
    have := flat_length ls
    unfold flat at this ⊢
    simp only [List.flatMap_cons, List.length_append, List.length_cons, List.length_nil, this]
    omega
theorem flat_append (a b : List Ln) : flat (a ++ b) = flat a ++ flat b := by unfold flat; rw [List.flatMap_append]
theorem flat_at : ∀ (ls : List Ln) (j : Nat) (h : j < ls.length), (flat ls)[j * 3]?.getD 0 = ls[j].a ∧ (flat ls)[j * 3 + 1]?.getD 0 = ls[j].b ∧ (flat ls)[j * 3 + 2]?.getD 0 = ls[j].c
  | l :: ls, 0, _ => ⟨rfl, rfl, rfl⟩
  | l :: ls, j + 1, h => by
    have := flat_at ls j (by simpa using h)
    have e : flat (l :: ls) = l.a :: l.b :: l.c :: flat ls := rfl
    have e0 : (j + 1) * 3 = j * 3 + 3 := by omega
    have e1 : j * 3 + 3 + 1 = (j * 3 + 1) + 3 := by omega
    have e2 : j * 3 + 3 + 2 = (j * 3 + 2) + 3 := by omega
    rw [e, e0, e1, e2]
    simpa using this

/-- v is a slice of lines with these numbers, in a block from B on that nobody else has. -/
def RowX (w : World) (B : Nat) (v : Value) (n : Nat) (zs : List Int) : Prop := w.ownsRow B 38 3 v n (zs.map (Value.int .i64))
def RowL (w : World) (B : Nat) (v : Value) (ls : List Ln) : Prop := RowX w B v ls.length (flat ls)

def RetL (w : World) (ls : List Ln) (e : Ending) (w' : World) : Prop := ∃ v, e = .returned v ∧ RowL w' w.heap.size v ls ∧ Below w.heap.size w w'

theorem RowX.lt {w : World} {B n : Nat} {v : Value} {zs : List Int} (h : RowX w B v n zs) : ∀ k, v.ownBlock = some k → B ≤ k ∧ k < w.heap.size := World.ownsRow.lt h
theorem RowX.kept {w w' : World} {B n : Nat} {v : Value} {zs : List Int} (h : RowX w B v n zs) (hb : Below w.heap.size w w') : RowX w' B v n zs :=
  World.ownsRow.kept h (grown_of_below hb) (by cases hv : v.ownBlock <;> simp)
theorem RowX.keptBut {w w' : World} {B n : Nat} {v : Value} {zs : List Int} {row : Option Nat} (h : RowX w B v n zs) (hg : w.grownBy w' row) (hne : ∀ k, v.ownBlock = some k → some k ≠ row) : RowX w' B v n zs :=
  World.ownsRow.kept h hg (by
    cases hv : v.ownBlock with
    | none => exact .inl rfl
    | some k => exact .inr (hne k hv))
theorem RowX.le {w : World} {B B' n : Nat} {v : Value} {zs : List Int} (h : RowX w B v n zs) (hb : B' ≤ B) : RowX w B' v n zs := Joins.ownsRow_le h hb
theorem RowX.len {w : World} {B n : Nat} {v : Value} {zs : List Int} (h : RowX w B v n zs) : zs.length = n * 3 := by
  have := h.1; simpa using this

theorem RowX.forms {w : World} {B n : Nat} {v : Value} {zs : List Int} (h : RowX w B v n zs) :
    (n = 0 ∧ ∃ a cap, v = .slice a 0 cap) ∨
    (0 < n ∧ ∃ g cap, v = .slice (some ⟨g, 0, none⟩) n cap ∧ B ≤ g ∧ g < w.heap.size ∧ n ≤ 9223372036854775807) := by
  rcases h.2 with ⟨rfl, hn⟩ | ⟨g, cap, cur, rfl, hb, hg, hnc, hcm, _⟩
  · exact .inl ⟨hn, _, _, rfl⟩
  · by_cases hx : n = 0
    · subst hx; exact .inl ⟨rfl, _, _, rfl⟩
    · refine .inr ⟨by omega, g, cap, rfl, hb, (Array.getElem?_eq_some_iff.1 hg).1, ?_⟩
      unfold maxLen at hcm; omega

theorem RowX.at {w : World} {B g cap n : Nat} {zs : List Int} (h : RowX w B (.slice (some ⟨g, 0, none⟩) n cap) n zs) (j : Nat) (hj : j < n * 3) :
    w.cell? ⟨g, j, none⟩ = some (.int .i64 (zs[j]?.getD 0)) := by
  have := World.ownsRow.cellAt h j hj
  have hl := h.len
  rw [this, List.getElem?_map, List.getElem?_eq_getElem (by omega)]
  rfl
theorem RowX.free {w : World} {B g cap n : Nat} {zs : List Int} (h : RowX w B (.slice (some ⟨g, 0, none⟩) n cap) n zs) (j : Nat) : w.frozen? ⟨g, j, none⟩ = false :=
  World.ownsRow.frozenAt h j
theorem RowX.set {w : World} {B g cap n : Nat} {zs : List Int} (h : RowX w B (.slice (some ⟨g, 0, none⟩) n cap) n zs) (j : Nat) (u : Int) :
    RowX (w.setCell ⟨g, j, none⟩ (.int .i64 u)) B (.slice (some ⟨g, 0, none⟩) n cap) n (zs.set j u) ∧ w.grownBy (w.setCell ⟨g, j, none⟩ (.int .i64 u)) (some g) := by
  have := World.ownsRow.stored h j (.int .i64 u)
  refine ⟨?_, this.2⟩
  unfold RowX
  rw [List.map_set]
  exact this.1

/-- Line j of the row, as the walk reads it. -/
theorem RowL.at {w : World} {B g cap : Nat} {ls : List Ln} (h : RowL w B (.slice (some ⟨g, 0, none⟩) ls.length cap) ls) (j : Nat) (hj : j < ls.length) :
    w.cell? ⟨g, j * 3, none⟩ = some (.int .i64 ls[j].a) ∧ w.cell? ⟨g, j * 3 + 1, none⟩ = some (.int .i64 ls[j].b) ∧ w.cell? ⟨g, j * 3 + 2, none⟩ = some (.int .i64 ls[j].c) := by
  obtain ⟨e0, e1, e2⟩ := flat_at ls j hj
  have h0 := RowX.at h (j * 3) (by omega)
  have h1 := RowX.at h (j * 3 + 1) (by omega)
  have h2 := RowX.at h (j * 3 + 2) (by omega)
  rw [e0] at h0; rw [e1] at h1; rw [e2] at h2
  exact ⟨h0, h1, h2⟩
end Go.Proofs.Ytoipnooncnpndaa
