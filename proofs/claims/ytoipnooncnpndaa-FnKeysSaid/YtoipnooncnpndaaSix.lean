/-
  Cells that stand while calls make blocks of their own.
-/
import Derived.Test.YtoipnooncnpndaaAt
import Derived.Test.YtoipnooncnpndaaWalkR
import Derived.Deep.RegionHeld3
namespace Go.Proofs.Ytoipnooncnpndaa
open Go.RowKit
set_option linter.unusedVariables false

def Three (n : Nat) (a b c : Int) (w w' : World) : Prop :=
  w'.cell? ⟨n, 0, none⟩ = some (.int .i64 a) ∧ w'.cell? ⟨n, 1, none⟩ = some (.int .i64 b) ∧ w'.cell? ⟨n, 2, none⟩ = some (.int .i64 c) ∧ Below w.heap.size w w'
theorem Three.keep {n : Nat} {a b c : Int} {w w' w1 : World} (h : Three n a b c w w') (hb : Below w'.heap.size w' w1) : Three n a b c w w1 :=
  ⟨cell_kept h.1 hb, cell_kept h.2.1 hb, cell_kept h.2.2.1 hb, h.2.2.2.andThen hb⟩
/-- A box of three and a row's three cells, behind calls that only make blocks. -/
def Six (n g o : Nat) (a b c d e f : Int) (w w' : World) : Prop :=
  w'.cell? ⟨n, 0, none⟩ = some (.int .i64 a) ∧ w'.cell? ⟨n, 1, none⟩ = some (.int .i64 b) ∧ w'.cell? ⟨n, 2, none⟩ = some (.int .i64 c) ∧
  w'.cell? ⟨g, o, none⟩ = some (.int .i64 d) ∧ w'.cell? ⟨g, o + 1, none⟩ = some (.int .i64 e) ∧ w'.cell? ⟨g, o + 2, none⟩ = some (.int .i64 f) ∧ Below w.heap.size w w'
theorem Six.keep {n g o : Nat} {a b c d e f : Int} {w w' w1 : World} (h : Six n g o a b c d e f w w') (hb : Below w'.heap.size w' w1) : Six n g o a b c d e f w w1 := by
  obtain ⟨h0, h1, h2, h3, h4, h5, h6⟩ := h
  exact ⟨cell_kept h0 hb, cell_kept h1 hb, cell_kept h2 hb, cell_kept h3 hb, cell_kept h4 hb, cell_kept h5 hb, h6.andThen hb⟩
theorem Six.set {n g o m j : Nat} {a b c d e f : Int} {w w' : World} (h : Six n g o a b c d e f w w') (hn : n ≠ m) (hg : g ≠ m) (hm : w.heap.size ≤ m) (v : Value) : Six n g o a b c d e f w (w'.setCell ⟨m, j, none⟩ v) := by
  obtain ⟨h0, h1, h2, h3, h4, h5, h6⟩ := h
  exact ⟨(World.cell?_setCell_far _ _ _ _ hn.symm).trans h0, (World.cell?_setCell_far _ _ _ _ hn.symm).trans h1, (World.cell?_setCell_far _ _ _ _ hn.symm).trans h2,
    (World.cell?_setCell_far _ _ _ _ hg.symm).trans h3, (World.cell?_setCell_far _ _ _ _ hg.symm).trans h4, (World.cell?_setCell_far _ _ _ _ hg.symm).trans h5, h6.setCell hm _⟩
theorem Six.set3 {n g o m : Nat} {a b c d e f : Int} {w w' : World} (h : Six n g o a b c d e f w w') (hn : n ≠ m) (hg : g ≠ m) (hm : w.heap.size ≤ m) (v0 v1 v2 : Value) : Six n g o a b c d e f w (((w'.setCell ⟨m, 0, none⟩ v0).setCell ⟨m, 1, none⟩ v1).setCell ⟨m, 2, none⟩ v2) :=
  ((h.set hn hg hm v0).set hn hg hm v1).set hn hg hm v2

def Nine (m n g o : Nat) (x y z a b c d e f : Int) (w w' : World) : Prop :=
  w'.cell? ⟨m, 0, none⟩ = some (.int .i64 x) ∧ w'.cell? ⟨m, 1, none⟩ = some (.int .i64 y) ∧ w'.cell? ⟨m, 2, none⟩ = some (.int .i64 z) ∧ Six n g o a b c d e f w w'
theorem Nine.keep {m n g o : Nat} {x y z a b c d e f : Int} {w w' w1 : World} (h : Nine m n g o x y z a b c d e f w w') (hb : Below w'.heap.size w' w1) : Nine m n g o x y z a b c d e f w w1 :=
  ⟨cell_kept h.1 hb, cell_kept h.2.1 hb, cell_kept h.2.2.1 hb, h.2.2.2.keep hb⟩
theorem Nine.set {m n g o q j : Nat} {x y z a b c d e f : Int} {w w' : World} (h : Nine m n g o x y z a b c d e f w w') (hm : m ≠ q) (hn : n ≠ q) (hg : g ≠ q) (hw : w.heap.size ≤ q) (v : Value) : Nine m n g o x y z a b c d e f w (w'.setCell ⟨q, j, none⟩ v) :=
  ⟨(World.cell?_setCell_far _ _ _ _ hm.symm).trans h.1, (World.cell?_setCell_far _ _ _ _ hm.symm).trans h.2.1, (World.cell?_setCell_far _ _ _ _ hm.symm).trans h.2.2.1, h.2.2.2.set hn hg hw v⟩
theorem Nine.set3 {m n g o q : Nat} {x y z a b c d e f : Int} {w w' : World} (h : Nine m n g o x y z a b c d e f w w') (hm : m ≠ q) (hn : n ≠ q) (hg : g ≠ q) (hw : w.heap.size ≤ q) (v0 v1 v2 : Value) : Nine m n g o x y z a b c d e f w (((w'.setCell ⟨q, 0, none⟩ v0).setCell ⟨q, 1, none⟩ v1).setCell ⟨q, 2, none⟩ v2) :=
  ((h.set hm hn hg hw v0).set hm hn hg hw v1).set hm hn hg hw v2
def Twelve (q m n g o : Nat) (u v t x y z a b c d e f : Int) (w w' : World) : Prop :=
  w'.cell? ⟨q, 0, none⟩ = some (.int .i64 u) ∧ w'.cell? ⟨q, 1, none⟩ = some (.int .i64 v) ∧ w'.cell? ⟨q, 2, none⟩ = some (.int .i64 t) ∧ Nine m n g o x y z a b c d e f w w'
theorem Twelve.keep {q m n g o : Nat} {u v t x y z a b c d e f : Int} {w w' w1 : World} (h : Twelve q m n g o u v t x y z a b c d e f w w') (hb : Below w'.heap.size w' w1) : Twelve q m n g o u v t x y z a b c d e f w w1 :=
  ⟨cell_kept h.1 hb, cell_kept h.2.1 hb, cell_kept h.2.2.1 hb, h.2.2.2.keep hb⟩
end Go.Proofs.Ytoipnooncnpndaa
