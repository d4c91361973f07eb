/-
  What a cell holds stays behind a call that only makes blocks.
-/
import Derived.Test.YtnnoahoepljejaaDoorOwn
import Derived.Test.YtnnoahoepljejaaDoorWalkA
namespace Go.Proofs.YtnnoahoepljejaaDoor
open Go.RowKit

theorem cell_kept {w w1 : World} {n o : Nat} {v : Value} (h : w.cell? ⟨n, o, none⟩ = some v) (hb : Below w.heap.size w w1) : w1.cell? ⟨n, o, none⟩ = some v :=
  (hb.cell (p := ⟨n, o, none⟩) (World.block_lt_of_cell? w _ h)).trans h
theorem and_one1 (S k : Nat) (hS : S < 2 ^ 63) (b : Bool) (hb : S.testBit k = b) : (bits BinOp.and IntKind.i64 ((S : Int) / 2 ^ k) 1 == 1) = b := by
  rw [bit_test S k hS, hb]

theorem read3 {w : World} {b : Nat} {a0 a1 a2 : Value} (v0 v1 v2 : Value) (h0 : w.cell? ⟨b, 0, none⟩ = some a0) (h1 : w.cell? ⟨b, 1, none⟩ = some a1) (h2 : w.cell? ⟨b, 2, none⟩ = some a2) :
    (w.setCell ⟨b, 0, none⟩ v0).cell? ⟨b, 0, none⟩ = some v0 ∧ ((w.setCell ⟨b, 0, none⟩ v0).setCell ⟨b, 1, none⟩ v1).cell? ⟨b, 1, none⟩ = some v1 ∧
      (((w.setCell ⟨b, 0, none⟩ v0).setCell ⟨b, 1, none⟩ v1).setCell ⟨b, 2, none⟩ v2).cell? ⟨b, 2, none⟩ = some v2 := by
  have e1 : (w.setCell ⟨b, 0, none⟩ v0).cell? ⟨b, 1, none⟩ = some a1 := (World.cell?_setCell_other _ _ _ _ (by simp)).trans h1
  have e2 : ((w.setCell ⟨b, 0, none⟩ v0).setCell ⟨b, 1, none⟩ v1).cell? ⟨b, 2, none⟩ = some a2 := (World.cell?_setCell_other _ _ _ _ (by simp)).trans ((World.cell?_setCell_other _ _ _ _ (by simp)).trans h2)
  exact ⟨World.cell?_setCell_same _ _ _ h0, World.cell?_setCell_same _ _ _ e1, World.cell?_setCell_same _ _ _ e2⟩
end Go.Proofs.YtnnoahoepljejaaDoor
