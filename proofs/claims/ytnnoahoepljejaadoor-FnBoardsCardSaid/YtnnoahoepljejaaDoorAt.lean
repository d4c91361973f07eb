/-
  A number out of the bytes handed in: the walk of at.
-/
import Derived.Test.YtnnoahoepljejaaDoorDraw
import Derived.Deep.AppendLies
namespace Go.Proofs.YtnnoahoepljejaaDoor
open Go.RowKit
set_option linter.unusedVariables false
set_option linter.unusedSimpArgs false

theorem at_any (ad : Option Addr) (len cap : Nat) (i : Int) (h0 : 0 ≤ i) (h1 : i ≤ 1000) (w : World) (h : IsCode w ad len) (hlen : len ≤ 1048576) :
    Calls Tryd.prog 16 #[.slice ad len cap, .int .i64 i] w fun e w' => ∃ x : Nat, x ≤ 255 ∧ e = .returned (.int .i64 x) ∧ w' = w := by
  obtain ⟨_, hby⟩ := h
  by_cases hz : len = 0
  · subst hz
    go_enter Tryd.func16, Tryd.ntmps16
    go_wp2
    go_ret
    exact ⟨0, by omega, rfl, rfl⟩
  rcases hby with h0' | ⟨a, rfl, hat⟩
  · omega
  obtain ⟨r, hr⟩ : ∃ r, (i * 5 + 1) % (len : Int) = r := ⟨_, rfl⟩
  have hr2 : (i * 5 + 1).tmod (len : Int) = r := by rw [Int.tmod_eq_emod_of_nonneg (by omega)]; exact hr
  have hr0 : 0 ≤ r := by rw [← hr]; exact Int.emod_nonneg _ (by omega)
  have hr1 : r < len := by rw [← hr]; exact Int.emod_lt_of_pos _ (by omega)
  obtain ⟨k, rfl⟩ := Int.eq_ofNat_of_zero_le hr0
  obtain ⟨x, x0, x1, hx⟩ := hat k (by omega)
  obtain ⟨X, rfl⟩ := Int.eq_ofNat_of_zero_le x0
  have hw1 : IntKind.i64.wrap (k : Int) = (k : Int) := Bit.i64_wrap _ (by omega) (by omega)
  have hw2 : IntKind.i64.wrap (X : Int) = (X : Int) := Bit.i64_wrap _ (by omega) (by omega)
  have hlz : ¬ (len : Int) = 0 := by omega
  have HR := Lib.hid hr
  clear hr hat
  go_enter Tryd.func16, Tryd.ntmps16
  go_wp2
  go_ret
  exact ⟨X, by omega, rfl, rfl⟩

/-- A box of three zeros. -/
structure Zero3 (r : Nat) (w : World) : Prop where
  r0 : w.cell? ⟨r, 0, none⟩ = some (.int .i64 0)
  r1 : w.cell? ⟨r, 1, none⟩ = some (.int .i64 0)
  r2 : w.cell? ⟨r, 2, none⟩ = some (.int .i64 0)
  g0 : w.frozen? ⟨r, 0, none⟩ = false
  g1 : w.frozen? ⟨r, 1, none⟩ = false
  g2 : w.frozen? ⟨r, 2, none⟩ = false
  sz : r < w.heap.size
theorem Zero3.new (w : World) (t : TypeId) : Zero3 w.heap.size (w.alloc (.cells #[.int .i64 0, .int .i64 0, .int .i64 0] t)) := by
  refine ⟨?_, ?_, ?_, World.frozen?_alloc_at _ _ _ _ rfl, World.frozen?_alloc_at _ _ _ _ rfl, World.frozen?_alloc_at _ _ _ _ rfl, by simp⟩ <;> (rw [World.cell?_alloc_at _ _ _ _ rfl]; rfl)
theorem Zero3.grown {r : Nat} {w w' : World} {row : Option Nat} (h : Zero3 r w) (hg : w.grownBy w' row) (hne : some r ≠ row) : Zero3 r w' :=
  ⟨hg.cell h.r0 hne, hg.cell h.r1 hne, hg.cell h.r2 hne, (hg.frozen_far ⟨r, 0, none⟩ h.sz hne).trans h.g0, (hg.frozen_far ⟨r, 1, none⟩ h.sz hne).trans h.g1, (hg.frozen_far ⟨r, 2, none⟩ h.sz hne).trans h.g2, Nat.lt_of_lt_of_le h.sz hg.size⟩
theorem Zero3.below {r : Nat} {w w' : World} (h : Zero3 r w) (hb : Below w.heap.size w w') : Zero3 r w' := h.grown (grown_of_below hb) (by simp)
theorem Zero3.newD (w : World) (t : TypeId) : Zero3 w.heap.size (w.drew.alloc (.cells #[.int .i64 0, .int .i64 0, .int .i64 0] t)) := Zero3.new w.drew t
theorem fin3 {w : World} {b : Nat} {a0 a1 a2 : Value} (v0 v1 v2 : Value) (h0 : w.cell? ⟨b, 0, none⟩ = some a0) (h1 : w.cell? ⟨b, 1, none⟩ = some a1) (h2 : w.cell? ⟨b, 2, none⟩ = some a2) :
    (((w.setCell ⟨b, 0, none⟩ v0).setCell ⟨b, 1, none⟩ v1).setCell ⟨b, 2, none⟩ v2).cell? ⟨b, 0, none⟩ = some v0 ∧ (((w.setCell ⟨b, 0, none⟩ v0).setCell ⟨b, 1, none⟩ v1).setCell ⟨b, 2, none⟩ v2).cell? ⟨b, 1, none⟩ = some v1 ∧
      (((w.setCell ⟨b, 0, none⟩ v0).setCell ⟨b, 1, none⟩ v1).setCell ⟨b, 2, none⟩ v2).cell? ⟨b, 2, none⟩ = some v2 := by
  have e1 : (w.setCell ⟨b, 0, none⟩ v0).cell? ⟨b, 1, none⟩ = some a1 := (World.cell?_setCell_other _ _ _ _ (by simp)).trans h1
  have e2 : ((w.setCell ⟨b, 0, none⟩ v0).setCell ⟨b, 1, none⟩ v1).cell? ⟨b, 2, none⟩ = some a2 := (World.cell?_setCell_other _ _ _ _ (by simp)).trans ((World.cell?_setCell_other _ _ _ _ (by simp)).trans h2)
  exact ⟨(World.cell?_setCell_other _ _ _ _ (by simp)).trans ((World.cell?_setCell_other _ _ _ _ (by simp)).trans (World.cell?_setCell_same _ _ _ h0)), (World.cell?_setCell_other _ _ _ _ (by simp)).trans (World.cell?_setCell_same _ _ _ e1), World.cell?_setCell_same _ _ _ e2⟩
end Go.Proofs.YtnnoahoepljejaaDoor
