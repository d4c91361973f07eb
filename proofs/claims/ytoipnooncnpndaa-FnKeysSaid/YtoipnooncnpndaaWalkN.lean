/-
  The walks of the laws' helpers on slices of lines: eqLineS, markLineS, heldLineS.
-/
import Derived.Test.YtoipnooncnpndaaOwnL
import Derived.Test.YtoipnooncnpndaaWalkJ
import Derived.Test.YtoipnooncnpndaaWalkB
import Derived.StillTailTactics
namespace Go.Proofs.Ytoipnooncnpndaa
open Go.RowKit
open Peg
set_option linter.unusedVariables false

structure MarkRelL (w : World) (B g cap K n : Nat) (zs : List Int) (k : Nat) (wr : World) : Prop where
  row : RowX wr B (.slice (some ⟨g, 0, none⟩) n cap) n (marked K k zs)
  gr : w.grownBy wr (some g)

theorem MarkRelL.step {w wr : World} {B g cap K k n : Nat} {zs : List Int} (h : MarkRelL w B g cap K n zs k wr) (hk : k < zs.length) (u : Int) (hu : u = (K : Int) + k) :
    MarkRelL w B g cap K n zs (k + 1) (wr.setCell ⟨g, k, none⟩ (.int .i64 u)) := by
  subst hu
  have := h.row.set k ((K : Int) + k)
  rw [marked_step K k zs hk] at this
  exact ⟨this.1, grown_trans h.gr this.2⟩
theorem MarkRelL.at {w wr : World} {B g cap K k n : Nat} {zs : List Int} (h : MarkRelL w B g cap K n zs k wr) (j : Nat) (hj : j < n * 3) : ∃ u, wr.cell? ⟨g, j, none⟩ = some (.int .i64 u) := ⟨_, h.row.at j hj⟩

/-- What marking leaves. -/
def MarkedL (w : World) (B : Nat) (v : Value) (K n : Nat) (e : Ending) (w' : World) : Prop := e = .returned (.int .i64 ((K : Int) + n * 3)) ∧ RowX w' B v n (marks K (n * 3)) ∧ w.grownBy w' v.ownBlock
end Go.Proofs.Ytoipnooncnpndaa
