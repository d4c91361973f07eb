/-
  The walks of the laws' helpers on slices of ints: eqIntS, markIntS, heldIntS.
-/
import Derived.Test.YtnnoahoepljejaaDoorOwn
import Derived.BigQuiet
import Derived.Deep.QuietTactic
import Derived.WalkSpells
import Derived.WalkLawsBesides
import Derived.Lib.Hide
namespace Go.Proofs.YtnnoahoepljejaaDoor
open Go.RowKit
set_option linter.unusedVariables false

/-- What marking leaves: v holds the marks, all else is as it was. -/
def Marked (w : World) (B : Nat) (v : Value) (K n : Nat) (e : Ending) (w' : World) : Prop := e = .returned (.int .i64 ((K : Int) + n)) ∧ RowI w' B v (marks K n) ∧ w.grownBy w' v.ownBlock

structure MarkRel (w : World) (B g cap K : Nat) (xs : List Int) (k : Nat) (wr : World) : Prop where
  row : RowI wr B (.slice (some ⟨g, 0, none⟩) xs.length cap) (marked K k xs)
  gr : w.grownBy wr (some g)

theorem grown_trans {a b c : World} {row : Option Nat} (h : a.grownBy b row) (k : b.grownBy c row) : a.grownBy c row :=
  ⟨k.os.trans h.os, k.tape.trans h.tape, k.output.trans h.output, Nat.le_trans h.size k.size, fun i hi hne => (k.block i (Nat.lt_of_lt_of_le hi h.size) hne).trans (h.block i hi hne)⟩

theorem MarkRel.step {w wr : World} {B g cap K k : Nat} {xs : List Int} (h : MarkRel w B g cap K xs k wr) (hk : k < xs.length) :
    MarkRel w B g cap K xs (k + 1) (wr.setCell ⟨g, k, none⟩ (.int .i64 ((K : Int) + k))) := by
  have := h.row.set (marked_length K k xs (by omega)) k ((K : Int) + k)
  rw [marked_step K k xs hk] at this
  exact ⟨this.1, grown_trans h.gr this.2⟩

/-- A block of three numbers (a struct that was laid in a variable). -/
structure BoxAt (n : Nat) (w : World) (a h s : Int) : Prop where
  c0 : w.cell? ⟨n, 0, none⟩ = some (.int .i64 a)
  c1 : w.cell? ⟨n, 1, none⟩ = some (.int .i64 h)
  c2 : w.cell? ⟨n, 2, none⟩ = some (.int .i64 s)
  sz : n < w.heap.size
theorem BoxAt.new (w : World) (a h s : Int) (t : TypeId) : BoxAt w.heap.size (w.alloc (.cells #[.int .i64 a, .int .i64 h, .int .i64 s] t)) a h s :=
  ⟨by rw [World.cell?_alloc_at _ _ _ _ rfl]; rfl, by rw [World.cell?_alloc_at _ _ _ _ rfl]; rfl, by rw [World.cell?_alloc_at _ _ _ _ rfl]; rfl, by simp⟩
theorem BoxAt.below {n : Nat} {w w' : World} {a h s : Int} (b : BoxAt n w a h s) (hb : Below w.heap.size w w') : BoxAt n w' a h s :=
  ⟨(hb.cell (p := ⟨n, 0, none⟩) b.sz).trans b.c0, (hb.cell (p := ⟨n, 1, none⟩) b.sz).trans b.c1, (hb.cell (p := ⟨n, 2, none⟩) b.sz).trans b.c2, Nat.lt_of_lt_of_le b.sz hb.size⟩
theorem BoxAt.grown {n : Nat} {w w' : World} {a h s : Int} {row : Option Nat} (b : BoxAt n w a h s) (hg : w.grownBy w' row) (hne : some n ≠ row) : BoxAt n w' a h s :=
  ⟨hg.cell b.c0 hne, hg.cell b.c1 hne, hg.cell b.c2 hne, Nat.lt_of_lt_of_le b.sz hg.size⟩
theorem Below.mark {W w w' : World} {B : Nat} {v : Value} {xs : List Int} (h : Below W.heap.size W w) (hr : RowI w B v xs) (hB : W.heap.size ≤ B) (hg : w.grownBy w' v.ownBlock) : Below W.heap.size W w' :=
  h.grown hg h.size (fun k hk => by have := (hr.lt k hk).1; omega)
/-- Two rows, one made before the other. -/
theorem RowI.apart {w0 w1 w2 : World} {B B' : Nat} {a b : Value} {xs ys : List Int} (h : RowI w0 B a xs) (hr : RowI w1 B a xs) (k : RowI w1 B' b ys) (hB : w0.heap.size ≤ B') (hg : w1.grownBy w2 b.ownBlock) : RowI w2 B a xs :=
  hr.keptBut hg (fun i hi e => by have h1 := (h.lt i hi).2; have h2 := (k.lt i e.symm).1; omega)
theorem box_apart {n : Nat} {w : World} {B : Nat} {v : Value} {xs : List Int} (h : RowI w B v xs) (hB : n < B) : some n ≠ v.ownBlock := fun e => by
  have := (h.lt n e.symm).1; omega
end Go.Proofs.YtnnoahoepljejaaDoor
