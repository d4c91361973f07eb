/-
  Small facts on worlds: what stands behind calls that only make new blocks.
-/
import Derived.Below
import Derived.Lib.SmallJoins
import Derived.OpenShut
namespace Go.RowKit
theorem Below.andThen {W w1 w2 : World} (h1 : Below W.heap.size W w1) (h2 : Below w1.heap.size w1 w2) : Below W.heap.size W w2 := h1.trans (h2.mono h1.size)
theorem Below.more {W w1 : World} (h : Below W.heap.size W w1) (o : Obj) : Below W.heap.size W (w1.alloc o) := h.alloc h.size o
end Go.RowKit
namespace Go.Proofs.YtnnoahoepljejaaDoor
open Go.RowKit
theorem below1 (w : World) (o : Obj) : Below w.heap.size w (w.alloc o) := (Below.refl _ _).alloc (Nat.le_refl _) o
theorem below3 (w : World) (o1 o2 o3 : Obj) : Below w.heap.size w (((w.alloc o1).alloc o2).alloc o3) := Joins.below_alloc3 w o1 o2 o3
theorem below1N (w : World) (o : Obj) (n : Nat) : Below w.heap.size w ((w.alloc o).drewN n) := (below1 w o).trans (Joins.below_draws _ _ _)
theorem bcell {W w1 : World} (hb : Below W.heap.size W w1) : (∀ b o, b < W.heap.size → w1.cell? ⟨b, o, none⟩ = W.cell? ⟨b, o, none⟩) ∧ (∀ b o, b < W.heap.size → w1.frozen? ⟨b, o, none⟩ = W.frozen? ⟨b, o, none⟩) :=
  ⟨fun b o h => hb.cell (p := ⟨b, o, none⟩) h, fun b o h => hb.frozen (p := ⟨b, o, none⟩) h⟩
theorem bcell3 {W w1 : World} {n : Nat} (hb : Below W.heap.size W w1) (hz : n < W.heap.size) : (∀ b o, b < W.heap.size → w1.cell? ⟨b, o, none⟩ = W.cell? ⟨b, o, none⟩) ∧ (∀ b o, b < W.heap.size → w1.frozen? ⟨b, o, none⟩ = W.frozen? ⟨b, o, none⟩) ∧ n < w1.heap.size :=
  ⟨(bcell hb).1, (bcell hb).2, Nat.lt_of_lt_of_le hz hb.size⟩
theorem lt63 {x : Int} (h : (Lit.int .i64 x).wf = true) : x < 2 ^ 63 := by
  have := bounds_i64 h
  omega
theorem ret_int {k : IntKind} {a b : Int} (h : a = b) : Ending.returned (.int k a) = .returned (.int k b) := by rw [h]
end Go.Proofs.YtnnoahoepljejaaDoor
