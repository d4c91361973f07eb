/-
  A slice of bytes that the program itself has made: what it holds, what becomes of it.
-/
import Derived.Test.YtnnoahoepljejaaDoorRows
import Derived.Test.YtnnoahoepljejaaDoorBase
import Derived.WalkKit
import Derived.OneCell
import Derived.Laws.BytesArg
import Derived.Laws.AppendOwn
import Derived.Lib.Hide
namespace Go.Proofs.YtnnoahoepljejaaDoor
open Go.RowKit

theorem info_u8 : (Tryd.prog.info? 5).map (fun i => (i.zero, i.size, i.bytes)) = some (some (.int .u8 0), 1, 1) := by kernel_rfl

/-- v is a slice that holds xs, in a block from B on that nobody else has. -/
def RowU (w : World) (B : Nat) (v : Value) (xs : List Int) : Prop := w.ownsRow B 5 1 v xs.length (xs.map (Value.int .u8))

/-- A call that hands back a new slice that holds xs and leaves what was there. -/
def RetU (w : World) (xs : List Int) (e : Ending) (w' : World) : Prop := ∃ v, e = .returned v ∧ RowU w' w.heap.size v xs ∧ Below w.heap.size w w'

theorem info_parts_u8 {P : Program} {t : TypeId} {z : Value} {n m : Nat} (h : (P.info? t).map (fun i => (i.zero, i.size, i.bytes)) = some (some z, n, m)) : ∃ i, P.info? t = some i ∧ i.zero = some z ∧ i.size = n ∧ i.bytes = m := by
  cases hi : P.info? t with
  | none => rw [hi] at h; cases h
  | some i =>
    rw [hi] at h
    simp only [Option.map_some, Option.some.injEq, Prod.mk.injEq] at h
    exact ⟨i, rfl, h.1, h.2.1, h.2.2⟩
theorem grown_of_below {w w' : World} (h : Below w.heap.size w w') : w.grownBy w' none := ⟨h.os, h.tape, h.output, h.size, fun k hk _ => h.block k hk⟩

theorem RowU.lt {w : World} {B : Nat} {v : Value} {xs : List Int} (h : RowU w B v xs) : ∀ k, v.ownBlock = some k → B ≤ k ∧ k < w.heap.size := World.ownsRow.lt h

theorem RowU.kept {w w' : World} {B : Nat} {v : Value} {xs : List Int} (h : RowU w B v xs) (hb : Below w.heap.size w w') : RowU w' B v xs :=
  World.ownsRow.kept h (grown_of_below hb) (by cases hv : v.ownBlock <;> simp)

theorem RowU.keptBut {w w' : World} {B : Nat} {v : Value} {xs : List Int} {row : Option Nat} (h : RowU w B v xs) (hg : w.grownBy w' row) (hne : ∀ k, v.ownBlock = some k → some k ≠ row) : RowU w' B v xs :=
  World.ownsRow.kept h hg (by
    cases hv : v.ownBlock with
    | none => exact .inl rfl
    | some k => exact .inr (hne k hv))

theorem RowU.le {w : World} {B B' : Nat} {v : Value} {xs : List Int} (h : RowU w B v xs) (hb : B' ≤ B) : RowU w B' v xs := Joins.ownsRow_le h hb

theorem RowU.forms {w : World} {B : Nat} {v : Value} {xs : List Int} (h : RowU w B v xs) :
    (xs = [] ∧ ∃ a cap, v = .slice a 0 cap) ∨
    (0 < xs.length ∧ ∃ g cap, v = .slice (some ⟨g, 0, none⟩) xs.length cap ∧ B ≤ g ∧ g < w.heap.size ∧ xs.length ≤ 9223372036854775807) := by
  have h0 := h
  rcases h.2 with ⟨rfl, hn⟩ | ⟨g, cap, cur, rfl, hb, hg, hnc, hcm, _⟩
  · exact .inl ⟨List.eq_nil_of_length_eq_zero hn, _, _, rfl⟩
  · by_cases hx : xs.length = 0
    · exact .inl ⟨List.eq_nil_of_length_eq_zero hx, _, _, by rw [hx]⟩
    · refine .inr ⟨by omega, g, cap, rfl, hb, (Array.getElem?_eq_some_iff.1 hg).1, ?_⟩
      unfold maxLen at hcm; omega

theorem RowU.at {w : World} {B g cap : Nat} {xs : List Int} (h : RowU w B (.slice (some ⟨g, 0, none⟩) xs.length cap) xs) (j : Nat) (hj : j < xs.length) :
    w.cell? ⟨g, j, none⟩ = some (.int .u8 (xs[j]?.getD 0)) := by
  have := World.ownsRow.cellAt h j (by omega)
  rw [this, List.getElem?_map, List.getElem?_eq_getElem hj]
  rfl

theorem RowU.free {w : World} {B g cap : Nat} {xs : List Int} (h : RowU w B (.slice (some ⟨g, 0, none⟩) xs.length cap) xs) (j : Nat) : w.frozen? ⟨g, j, none⟩ = false :=
  World.ownsRow.frozenAt h j

theorem RowU.set {w : World} {B g cap n : Nat} {xs : List Int} (h : RowU w B (.slice (some ⟨g, 0, none⟩) n cap) xs) (hn : xs.length = n) (j : Nat) (u : Int) :
    RowU (w.setCell ⟨g, j, none⟩ (.int .u8 u)) B (.slice (some ⟨g, 0, none⟩) n cap) (xs.set j u) ∧ w.grownBy (w.setCell ⟨g, j, none⟩ (.int .u8 u)) (some g) := by
  subst hn
  have := World.ownsRow.stored h j (.int .u8 u)
  refine ⟨?_, this.2⟩
  unfold RowU
  rw [List.length_set, List.map_set]
  exact this.1

/-- 'string(b)' of such a slice. -/
theorem RowU.str {P : Program} {w : World} {B : Nat} {v : Value} {xs : List Int} (h : RowU w B v xs) (src dst : TypeId) (hs : P.underlying src = some (.slice 5)) (he : P.underlying 5 = some (.int .u8)) (hd : P.underlying dst = some .string) :
    (convert src dst v).run P w = .ok (.string (strOfNums xs)) w := by
  rcases h.2 with ⟨rfl, hn⟩ | ⟨g, cap, cur, rfl, hb, hg, hnc, hcm, _⟩
  · have hx : xs = [] := List.eq_nil_of_length_eq_zero hn
    subst hx
    exact run_convert_bytes_nil w src _ hs he 0 0 dst hd
  · refine run_convert_bytes_arg w src _ hs he g 0 xs.length cap xs rfl (fun i hi => ?_) dst hd
    have := World.ownsRow.cellAt h i (by omega)
    rw [Nat.zero_add, this, List.getElem?_map, List.getElem?_eq_getElem hi]
    simp [List.getD, hi]
theorem RowU.put {w1 : World} {B : Nat} {v' : Value} {xs : List Int} {x y : Int}
    (hown : w1.ownsRow B 5 1 v' (xs.length + 2) (xs.map (Value.int .u8) ++ [.int .u8 x, .int .u8 y])) : RowU w1 B v' (xs ++ [x, y]) := by
  unfold RowU
  simpa using hown
theorem RowU.put1 {w1 : World} {B : Nat} {v' : Value} {xs : List Int} {x : Int}
    (hown : w1.ownsRow B 5 1 v' (xs.length + 1) (xs.map (Value.int .u8) ++ [.int .u8 x])) : RowU w1 B v' (xs ++ [x]) := by
  unfold RowU
  simpa using hown
theorem rowNilU (w : World) (B n : Nat) (hb : B ≤ w.heap.size) (hn : n = w.heap.size) : RowU (w.alloc (.cells #[] 5)) B (.slice (some ⟨n, 0, none⟩) 0 0) [] := by
  subst hn; exact World.ownsRow_made w #[] 0 hb (by decide) rfl
theorem cell_two (w : World) (a b : Value) (t : TypeId) : ∀ j u, [a, b][j]? = some u → (w.alloc (.cells #[a, b] t)).cell? ((⟨w.heap.size, 0, none⟩ : Addr).add j) = some u := by
  intro j u hu
  have hadd : (⟨w.heap.size, 0, none⟩ : Addr).add j = ⟨w.heap.size, j, none⟩ := by unfold Addr.add; split <;> simp_all
  rw [hadd, World.cell?_alloc_at _ _ _ _ rfl]
  match j, hu with
  | 0, hu => simpa using hu
  | 1, hu => simpa using hu
end Go.Proofs.YtnnoahoepljejaaDoor
