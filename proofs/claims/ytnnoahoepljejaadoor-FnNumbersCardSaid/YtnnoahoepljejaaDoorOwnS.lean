/-
  A slice of strings that the program itself has made: what it holds, what becomes of it.
-/
import Derived.Test.YtnnoahoepljejaaDoorRows
import Derived.Test.YtnnoahoepljejaaDoorBase
import Derived.WalkKit
import Derived.OneCell
import Derived.Test.YtnnoahoepljejaaDoorOwnU
namespace Go.Proofs.YtnnoahoepljejaaDoor
open Go.RowKit

theorem info_str : (Tryd.prog.info? 9).map (fun i => (i.zero, i.size, i.bytes)) = some (some (.string ByteArray.empty), 1, 16) := by kernel_rfl

/-- v is a slice that holds xs, in a block from B on that nobody else has. -/
def RowS (w : World) (B : Nat) (v : Value) (xs : List ByteArray) : Prop := w.ownsRow B 9 1 v xs.length (xs.map Value.string)

/-- A call that hands back a new slice that holds xs and leaves what was there. -/
def RetS (w : World) (xs : List ByteArray) (e : Ending) (w' : World) : Prop := ∃ v, e = .returned v ∧ RowS w' w.heap.size v xs ∧ Below w.heap.size w w'

theorem RowS.lt {w : World} {B : Nat} {v : Value} {xs : List ByteArray} (h : RowS w B v xs) : ∀ k, v.ownBlock = some k → B ≤ k ∧ k < w.heap.size := World.ownsRow.lt h

theorem RowS.kept {w w' : World} {B : Nat} {v : Value} {xs : List ByteArray} (h : RowS w B v xs) (hb : Below w.heap.size w w') : RowS w' B v xs :=
  World.ownsRow.kept h (grown_of_below hb) (by cases hv : v.ownBlock <;> simp)

theorem RowS.keptBut {w w' : World} {B : Nat} {v : Value} {xs : List ByteArray} {row : Option Nat} (h : RowS w B v xs) (hg : w.grownBy w' row) (hne : ∀ k, v.ownBlock = some k → some k ≠ row) : RowS w' B v xs :=
  World.ownsRow.kept h hg (by
    cases hv : v.ownBlock with
    | none => exact .inl rfl
    | some k => exact .inr (hne k hv))

theorem RowS.le {w : World} {B B' : Nat} {v : Value} {xs : List ByteArray} (h : RowS w B v xs) (hb : B' ≤ B) : RowS w B' v xs := Joins.ownsRow_le h hb

theorem RowS.forms {w : World} {B : Nat} {v : Value} {xs : List ByteArray} (h : RowS w B v xs) :
    (xs = [] ∧ ∃ a cap, v = .slice a 0 cap) ∨
    (0 < xs.length ∧ ∃ g cap, v = .slice (some ⟨g, 0, none⟩) xs.length cap ∧ B ≤ g ∧ g < w.heap.size ∧ xs.length ≤ 9223372036854775807) := by
  have h0 := h
  rcases h.2 with ⟨rfl, hn⟩ | ⟨g, cap, cur, rfl, hb, hg, hnc, hcm, _⟩
  · exact .inl ⟨List.eq_nil_of_length_eq_zero hn, _, _, rfl⟩
  · by_cases hx : xs.length = 0
    · exact .inl ⟨List.eq_nil_of_length_eq_zero hx, _, _, by rw [hx]⟩
    · refine .inr ⟨by omega, g, cap, rfl, hb, (Array.getElem?_eq_some_iff.1 hg).1, ?_⟩
      unfold maxLen at hcm; omega

theorem RowS.at {w : World} {B g cap : Nat} {xs : List ByteArray} (h : RowS w B (.slice (some ⟨g, 0, none⟩) xs.length cap) xs) (j : Nat) (hj : j < xs.length) :
    w.cell? ⟨g, j, none⟩ = some (.string (xs[j]?.getD ByteArray.empty)) := by
  have := World.ownsRow.cellAt h j (by omega)
  rw [this, List.getElem?_map, List.getElem?_eq_getElem hj]
  rfl

theorem RowS.free {w : World} {B g cap : Nat} {xs : List ByteArray} (h : RowS w B (.slice (some ⟨g, 0, none⟩) xs.length cap) xs) (j : Nat) : w.frozen? ⟨g, j, none⟩ = false :=
  World.ownsRow.frozenAt h j

theorem RowS.set {w : World} {B g cap n : Nat} {xs : List ByteArray} (h : RowS w B (.slice (some ⟨g, 0, none⟩) n cap) xs) (hn : xs.length = n) (j : Nat) (u : ByteArray) :
    RowS (w.setCell ⟨g, j, none⟩ (.string u)) B (.slice (some ⟨g, 0, none⟩) n cap) (xs.set j u) ∧ w.grownBy (w.setCell ⟨g, j, none⟩ (.string u)) (some g) := by
  subst hn
  have := World.ownsRow.stored h j (.string u)
  refine ⟨?_, this.2⟩
  unfold RowS
  rw [List.length_set, List.map_set]
  exact this.1

theorem rowNilS (w : World) (B n : Nat) (hb : B ≤ w.heap.size) (hn : n = w.heap.size) : RowS (w.alloc (.cells #[] 9)) B (.slice (some ⟨n, 0, none⟩) 0 0) [] := by
  subst hn; exact World.ownsRow_made w #[] 0 hb (by decide) rfl
theorem RowS.put {w1 : World} {B : Nat} {v' : Value} {xs : List ByteArray} {x : ByteArray}
    (hown : w1.ownsRow B 9 1 v' (xs.length + 1) (xs.map Value.string ++ [.string x])) : RowS w1 B v' (xs ++ [x]) := by
  unfold RowS
  simpa using hown
theorem RowS.nil {w : World} {B : Nat} {v : Value} (h : RowS w B v []) : ∃ a cap, v = .slice a 0 cap := by
  rcases h.forms with ⟨_, a, cap, hv⟩ | ⟨hx, _⟩
  · exact ⟨a, cap, hv⟩
  · simp at hx
theorem u8_one (w : World) (B : Nat) (hb : B ≤ w.heap.size) (x : Int) (n : Nat) (hn : n = w.heap.size) : RowU (w.alloc (.cells #[.int .u8 x] 5)) B (.slice (some ⟨n, 0, none⟩) 1 1) [x] := by
  subst hn
  exact ⟨by simp, .inr ⟨w.heap.size, 1, #[.int .u8 x], rfl, hb, heap_alloc_new w _, by simp, by decide, rfl, by simp⟩⟩

/-- The digits of k ahead of a text. -/
def digT (k : Nat) (out : ByteArray) : ByteArray := if _h : k = 0 then out else digT (k / 10) (strOfNums [48 + ((k % 10 : Nat) : Int)] ++ out)
termination_by k
decreasing_by omega
theorem digT_zero (out : ByteArray) : digT 0 out = out := by unfold digT; simp
theorem digT_pos {k : Nat} (h : 0 < k) (out : ByteArray) : digT k out = digT (k / 10) (strOfNums [48 + ((k % 10 : Nat) : Int)] ++ out) := by
  rw [digT, dif_neg (by omega)]
def markT (k : Nat) : ByteArray := ⟨#[109]⟩ ++ digT k ⟨#[]⟩
/-- The marks k, k + 1, .., n of them. -/
def marksT (k n : Nat) : List ByteArray := (List.range n).map (fun i => markT (k + i))
theorem marksT_len (k n : Nat) : (marksT k n).length = n := by simp [marksT]
theorem marksT_get (k n j : Nat) (h : j < n) : (marksT k n)[j]?.getD ByteArray.empty = markT (k + j) := by
  unfold marksT
  rw [List.getElem?_map, List.getElem?_range h]; rfl
def markedT (k : Nat) (j : Nat) (xs : List ByteArray) : List ByteArray := marksT k j ++ xs.drop j
theorem markedT_zero (k : Nat) (xs : List ByteArray) : markedT k 0 xs = xs := by simp [markedT, marksT]
theorem markedT_all (k : Nat) (xs : List ByteArray) : markedT k xs.length xs = marksT k xs.length := by simp [markedT]
theorem markedT_len (k j : Nat) (xs : List ByteArray) (h : j ≤ xs.length) : (markedT k j xs).length = xs.length := by
  unfold markedT; rw [List.length_append, marksT_len, List.length_drop]; omega
theorem markedT_step (k j : Nat) (xs : List ByteArray) (h : j < xs.length) : (markedT k j xs).set j (markT (k + j)) = markedT k (j + 1) xs := by
  unfold markedT
  rw [List.set_append_right _ _ (by rw [marksT_len]; exact Nat.le_refl _), marksT_len, Nat.sub_self, List.drop_eq_getElem_cons h, List.set_cons_zero]
  have : marksT k (j + 1) = marksT k j ++ [markT (k + j)] := by unfold marksT; rw [List.range_succ, List.map_append]; rfl
  rw [this]; simp
end Go.Proofs.YtnnoahoepljejaaDoor
