/-
  A slice of ints that the program itself has made: what it holds, what becomes of it.
-/
import Derived.Test.YtnnoahoepljejaaDoorRows
import Derived.Test.YtnnoahoepljejaaDoorBase
import Derived.Test.YtnnoahoepljejaaDoorOwnU
import Derived.WalkKit
import Derived.OneCell
namespace Go.Proofs.YtnnoahoepljejaaDoor
open Go.RowKit

theorem info_int : (Tryd.prog.info? 3).map (fun i => (i.zero, i.size, i.bytes)) = some (some (.int .i64 0), 1, 8) := by kernel_rfl

/-- v is a slice that holds xs, in a block from B on that nobody else has. -/
def RowI (w : World) (B : Nat) (v : Value) (xs : List Int) : Prop := w.ownsRow B 3 1 v xs.length (xs.map (Value.int .i64))

/-- A call that hands back a new slice that holds xs and leaves what was there. -/
def RetI (w : World) (xs : List Int) (e : Ending) (w' : World) : Prop := ∃ v, e = .returned v ∧ RowI w' w.heap.size v xs ∧ Below w.heap.size w w'

theorem RowI.lt {w : World} {B : Nat} {v : Value} {xs : List Int} (h : RowI w B v xs) : ∀ k, v.ownBlock = some k → B ≤ k ∧ k < w.heap.size := World.ownsRow.lt h

theorem RowI.kept {w w' : World} {B : Nat} {v : Value} {xs : List Int} (h : RowI w B v xs) (hb : Below w.heap.size w w') : RowI w' B v xs :=
  World.ownsRow.kept h (grown_of_below hb) (by cases hv : v.ownBlock <;> simp)

theorem RowI.keptBut {w w' : World} {B : Nat} {v : Value} {xs : List Int} {row : Option Nat} (h : RowI w B v xs) (hg : w.grownBy w' row) (hne : ∀ k, v.ownBlock = some k → some k ≠ row) : RowI w' B v xs :=
  World.ownsRow.kept h hg (by
    cases hv : v.ownBlock with
    | none => exact .inl rfl
    | some k => exact .inr (hne k hv))

theorem RowI.le {w : World} {B B' : Nat} {v : Value} {xs : List Int} (h : RowI w B v xs) (hb : B' ≤ B) : RowI w B' v xs := Joins.ownsRow_le h hb

theorem RowI.forms {w : World} {B : Nat} {v : Value} {xs : List Int} (h : RowI w B v xs) :
    (xs = [] ∧ ∃ a cap, v = .slice a 0 cap) ∨
    (0 < xs.length ∧ ∃ g cap, v = .slice (some ⟨g, 0, none⟩) xs.length cap ∧ B ≤ g ∧ g < w.heap.size ∧ xs.length ≤ 9223372036854775807) := by
  have h0 := h
  rcases h.2 with ⟨rfl, hn⟩ | ⟨g, cap, cur, rfl, hb, hg, hnc, hcm, _⟩
  · exact .inl ⟨List.eq_nil_of_length_eq_zero hn, _, _, rfl⟩
  · by_cases hx : xs.length = 0
    · exact .inl ⟨List.eq_nil_of_length_eq_zero hx, _, _, by rw [hx]⟩
    · refine .inr ⟨by omega, g, cap, rfl, hb, (Array.getElem?_eq_some_iff.1 hg).1, ?_⟩
      unfold maxLen at hcm; omega

theorem RowI.at {w : World} {B g cap : Nat} {xs : List Int} (h : RowI w B (.slice (some ⟨g, 0, none⟩) xs.length cap) xs) (j : Nat) (hj : j < xs.length) :
    w.cell? ⟨g, j, none⟩ = some (.int .i64 (xs[j]?.getD 0)) := by
  have := World.ownsRow.cellAt h j (by omega)
  rw [this, List.getElem?_map, List.getElem?_eq_getElem hj]
  rfl

theorem RowI.free {w : World} {B g cap : Nat} {xs : List Int} (h : RowI w B (.slice (some ⟨g, 0, none⟩) xs.length cap) xs) (j : Nat) : w.frozen? ⟨g, j, none⟩ = false :=
  World.ownsRow.frozenAt h j

theorem RowI.set {w : World} {B g cap n : Nat} {xs : List Int} (h : RowI w B (.slice (some ⟨g, 0, none⟩) n cap) xs) (hn : xs.length = n) (j : Nat) (u : Int) :
    RowI (w.setCell ⟨g, j, none⟩ (.int .i64 u)) B (.slice (some ⟨g, 0, none⟩) n cap) (xs.set j u) ∧ w.grownBy (w.setCell ⟨g, j, none⟩ (.int .i64 u)) (some g) := by
  subst hn
  have := World.ownsRow.stored h j (.int .i64 u)
  refine ⟨?_, this.2⟩
  unfold RowI
  rw [List.length_set, List.map_set]
  exact this.1

/-- The numbers k, k + 1, .., n of them. -/
def marks (k : Int) : Nat → List Int
  | 0 => []
  | n + 1 => k :: marks (k + 1) n
theorem marks_length : ∀ (n : Nat) (k : Int), (marks k n).length = n
  | 0, _ => rfl
  | n + 1, k => by simp [marks, marks_length n (k + 1)]
theorem marks_get : ∀ (n : Nat) (k : Int) (j : Nat), j < n → (marks k n)[j]?.getD 0 = k + j
  | n + 1, k, 0, _ => by simp [marks]
  | n + 1, k, j + 1, h => by
    have := marks_get n (k + 1) j (by omega)
    simp only [marks, List.getElem?_cons_succ, this]
    omega
/-- The first j turned to marks. -/
def marked (k : Int) (j : Nat) (xs : List Int) : List Int := marks k j ++ xs.drop j
theorem marked_length (k : Int) (j : Nat) (xs : List Int) (h : j ≤ xs.length) : (marked k j xs).length = xs.length := by
  unfold marked; rw [List.length_append, marks_length, List.length_drop]; omega
theorem marks_snoc : ∀ (n : Nat) (k : Int), marks k (n + 1) = marks k n ++ [k + n]
  | 0, k => by simp [marks]
  | n + 1, k => by
    rw [marks, marks_snoc n (k + 1), marks, List.cons_append]
    congr 3
    omega
theorem marked_step (k : Int) (j : Nat) (xs : List Int) (h : j < xs.length) : (marked k j xs).set j (k + j) = marked k (j + 1) xs := by
  unfold marked
  rw [List.set_append_right _ _ (by rw [marks_length]; exact Nat.le_refl _), marks_length, Nat.sub_self, List.drop_eq_getElem_cons h, List.set_cons_zero, marks_snoc]
  simp
theorem marked_all (k : Int) (xs : List Int) : marked k xs.length xs = marks k xs.length := by
  unfold marked; simp
end Go.Proofs.YtnnoahoepljejaaDoor
