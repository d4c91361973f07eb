/-
  The walks of CrossBoard (impl and spec).
-/
import Derived.Test.YtnnoahoepljejaaDoorWalkB
namespace Go.Proofs.YtnnoahoepljejaaDoor
open Go.RowKit
open Peg
set_option linter.unusedVariables false

def crossAt (k : Nat) : Bool := inB (k % 7 : Nat) 2 4 || inB (k / 7 : Nat) 2 4
def crossTo : Nat → Nat
  | 0 => 0
  | k + 1 => if crossAt k then crossTo k ||| 2 ^ k else crossTo k
theorem crossTo_lt : ∀ k, crossTo k < 2 ^ k
  | 0 => by decide
  | k + 1 => by
    have h := crossTo_lt k
    have h2 : 2 ^ k < 2 ^ (k + 1) := Nat.pow_lt_pow_right (by decide) (by omega)
    unfold crossTo
    split
    · exact Nat.or_lt_two_pow (by omega) h2
    · omega
theorem crossTo_63 (k : Nat) (h : k ≤ 49) : crossTo k < 2 ^ 63 := Nat.lt_of_lt_of_le (crossTo_lt k) (Nat.pow_le_pow_right (by decide) (by omega))

structure CrossRel (w : World) (k : Nat) (wr : World) : Prop where
  c0 : wr.cell? ⟨w.heap.size + 1, 0, none⟩ = some (.int .i64 7)
  c1 : wr.cell? ⟨w.heap.size + 1, 1, none⟩ = some (.int .i64 7)
  c2 : wr.cell? ⟨w.heap.size + 1, 2, none⟩ = some (.int .i64 (crossTo k))
  f2 : wr.frozen? ⟨w.heap.size + 1, 2, none⟩ = false
  r0 : wr.cell? ⟨w.heap.size, 0, none⟩ = some (.int .i64 0)
  r1 : wr.cell? ⟨w.heap.size, 1, none⟩ = some (.int .i64 0)
  r2 : wr.cell? ⟨w.heap.size, 2, none⟩ = some (.int .i64 0)
  g0 : wr.frozen? ⟨w.heap.size, 0, none⟩ = false
  g1 : wr.frozen? ⟨w.heap.size, 1, none⟩ = false
  g2 : wr.frozen? ⟨w.heap.size, 2, none⟩ = false
  bel : Below w.heap.size w wr
  sz : w.heap.size + 1 < wr.heap.size

theorem CrossRel.start (w : World) : CrossRel w 0 ((w.alloc (.cells #[.int .i64 0, .int .i64 0, .int .i64 0] 25)).alloc (.cells #[.int .i64 7, .int .i64 7, .int .i64 0] 25)) := by
  have e : ∀ o, ((w.alloc (.cells #[.int .i64 0, .int .i64 0, .int .i64 0] 25)).alloc (.cells #[.int .i64 7, .int .i64 7, .int .i64 0] 25)).cell? ⟨w.heap.size, o, none⟩ = (#[.int .i64 0, .int .i64 0, .int .i64 0] : Array Value)[o]? := fun o => by
    rw [World.cell?_alloc_past _ _ _ (by simp), World.cell?_alloc_at _ _ _ _ rfl]
  have e1 : ∀ o, ((w.alloc (.cells #[.int .i64 0, .int .i64 0, .int .i64 0] 25)).alloc (.cells #[.int .i64 7, .int .i64 7, .int .i64 0] 25)).cell? ⟨w.heap.size + 1, o, none⟩ = (#[.int .i64 7, .int .i64 7, .int .i64 0] : Array Value)[o]? := fun o => by
    rw [World.cell?_alloc_at _ _ _ _ (by simp)]
  have f : ∀ o, ((w.alloc (.cells #[.int .i64 0, .int .i64 0, .int .i64 0] 25)).alloc (.cells #[.int .i64 7, .int .i64 7, .int .i64 0] 25)).frozen? ⟨w.heap.size, o, none⟩ = false := fun o => by
    rw [World.frozen?_alloc_past _ _ _ (by simp)]; exact World.frozen?_alloc_at _ _ _ _ rfl
  exact ⟨e1 0, e1 1, e1 2, World.frozen?_alloc_at _ _ _ _ (by simp), e 0, e 1, e 2, f 0, f 1, f 2, Joins.below_alloc2 _ _ _, by simp⟩
theorem CrossRel.keep {w wr : World} {k : Nat} (h : CrossRel w k wr) (hb : crossAt k = false) : CrossRel w (k + 1) wr := by
  have e : crossTo (k + 1) = crossTo k := by simp [crossTo, hb]
  exact { h with c2 := by rw [e]; exact h.c2 }
theorem CrossRel.set {w wr : World} {k : Nat} (h : CrossRel w k wr) (hk : k < 49) (hb : crossAt k = true) :
    CrossRel w (k + 1) ((wr.setCell ⟨w.heap.size + 1, 2, none⟩ (.int .i64 (bits BinOp.or IntKind.i64 (crossTo k) (wrap64 (2 ^ k))))).drew) := by
  have e : bits BinOp.or IntKind.i64 (crossTo k) (wrap64 (2 ^ k)) = ((crossTo (k + 1) : Nat) : Int) := by
    rw [wrap_pow k (by omega), cast_pow, Bit.i64_or _ _ (crossTo_63 k (by omega)) (Bit.pow_lt_63 k (by omega))]
    simp [crossTo, hb]
  rw [e]
  have o : ∀ (b o : Nat), (b ≠ w.heap.size + 1 ∨ o ≠ 2) → ((wr.setCell ⟨w.heap.size + 1, 2, none⟩ (.int .i64 (crossTo (k + 1)))).drew).cell? ⟨b, o, none⟩ = wr.cell? ⟨b, o, none⟩ := fun b o hne => by
    rw [World.cell?_drew]
    exact World.cell?_setCell_other _ _ _ _ (by intro e; injection e with e1 e2; rcases hne with hne | hne <;> simp_all)
  have f : ∀ (b o : Nat), ((wr.setCell ⟨w.heap.size + 1, 2, none⟩ (.int .i64 (crossTo (k + 1)))).drew).frozen? ⟨b, o, none⟩ = wr.frozen? ⟨b, o, none⟩ := fun b o => by
    rw [World.frozen?_drew]; exact World.frozen?_setCell _ _ _ _
  refine ⟨(o _ _ (.inr (by decide))).trans h.c0, (o _ _ (.inr (by decide))).trans h.c1, ?_, (f _ _).trans h.f2, (o _ _ (.inl (by omega))).trans h.r0, (o _ _ (.inl (by omega))).trans h.r1, (o _ _ (.inl (by omega))).trans h.r2,
    (f _ _).trans h.g0, (f _ _).trans h.g1, (f _ _).trans h.g2, (h.bel.setCell (by show _ ≤ _ + 1; omega) _).drew, by have := h.sz; simpa [World.setCell] using this⟩
  rw [World.cell?_drew]
  exact World.cell?_setCell_same _ _ _ h.c2
theorem CrossRel.done {w wr : World} (h : CrossRel w 49 wr) (v0 v1 v2 : Value) : Below w.heap.size w (((wr.setCell ⟨w.heap.size, 0, none⟩ v0).setCell ⟨w.heap.size, 1, none⟩ v1).setCell ⟨w.heap.size, 2, none⟩ v2) :=
  ((h.bel.setCell (Nat.le_refl _) _).setCell (Nat.le_refl _) _).setCell (Nat.le_refl _) _

theorem read3C {w : World} {b : Nat} {a0 a1 a2 : Value} (v0 v1 v2 : Value) (h0 : w.cell? ⟨b, 0, none⟩ = some a0) (h1 : w.cell? ⟨b, 1, none⟩ = some a1) (h2 : w.cell? ⟨b, 2, none⟩ = some a2) :
    (w.setCell ⟨b, 0, none⟩ v0).cell? ⟨b, 0, none⟩ = some v0 ∧ ((w.setCell ⟨b, 0, none⟩ v0).setCell ⟨b, 1, none⟩ v1).cell? ⟨b, 1, none⟩ = some v1 ∧
      (((w.setCell ⟨b, 0, none⟩ v0).setCell ⟨b, 1, none⟩ v1).setCell ⟨b, 2, none⟩ v2).cell? ⟨b, 2, none⟩ = some v2 := by
  have e1 : (w.setCell ⟨b, 0, none⟩ v0).cell? ⟨b, 1, none⟩ = some a1 := (World.cell?_setCell_other _ _ _ _ (by simp)).trans h1
  have e2 : ((w.setCell ⟨b, 0, none⟩ v0).setCell ⟨b, 1, none⟩ v1).cell? ⟨b, 2, none⟩ = some a2 := (World.cell?_setCell_other _ _ _ _ (by simp)).trans ((World.cell?_setCell_other _ _ _ _ (by simp)).trans h2)
  exact ⟨World.cell?_setCell_same _ _ _ h0, World.cell?_setCell_same _ _ _ e1, World.cell?_setCell_same _ _ _ e2⟩

set_option maxHeartbeats 400000 in
theorem CrossBoard_any (w : World) :
    Calls Tryd.prog 20 #[] w fun e w' => e = .returned (.agg #[.int .i64 7, .int .i64 7, .int .i64 (crossTo 49)]) ∧ Below w.heap.size w w' := by
  go_enter Tryd.func20, Tryd.ntmps20
  go_wp2_with fail
  go_loopw [2] (fun i wr => ∃ k : Nat, k ≤ 49 ∧ i = .int .i64 k ∧ CrossRel w k wr) (fun i _ => (49 - intOf i).toNat)
  case atStart => exact ⟨0, by omega, rfl, CrossRel.start w⟩
  case round =>
    obtain ⟨k, hk, rfl, hR⟩ := hrel
    obtain ⟨c0, c1, c2, f2, r0, r1, r2, g0, g1, g2, bel, sz⟩ := hR
    have HR := Lib.hid (CrossRel.mk c0 c1 c2 f2 r0 r1 r2 g0 g1 g2 bel sz)
    clear bel
    by_cases hlt : k < 49
    · have Hat : Hid (crossAt k = (inB ((k : Int) % 7) 2 4 || inB ((k : Int) / 7) 2 4)) := by unfold Hid crossAt; rw [Int.natCast_emod, Int.natCast_ediv]; rfl
      cases h1 : inB ((k : Int) % 7) 2 4
      · cases h2 : inB ((k : Int) / 7) 2 4
        · go_wp2_with (go_at_call 40; refine (within_b _ _ _ _ (by assumption) _).mono ?_; rintro e wq ⟨rfl, hwq⟩; subst wq)
          go_roundw
          case rel => exact ⟨k + 1, by omega, by go_num, HR.out.keep (by rw [Hat.out, h1, h2]; rfl)⟩
          case measure => simp [intOf]; omega
        · go_wp2_with (go_at_call 40; refine (within_b _ _ _ _ (by assumption) _).mono ?_; rintro e wq ⟨rfl, hwq⟩; subst wq)
          go_region
          all_goals (try go_wp2)
          all_goals go_roundw
          case rel => exact ⟨k + 1, by omega, by go_num, HR.out.set hlt (by rw [Hat.out, h1, h2]; rfl)⟩
          case measure => simp [intOf]; omega
      · go_wp2_with (go_at_call 40; refine (within_b _ _ _ _ (by assumption) _).mono ?_; rintro e wq ⟨rfl, hwq⟩; subst wq)
        go_region
        all_goals (try go_wp2)
        all_goals go_roundw
        case rel => exact ⟨k + 1, by omega, by go_num, HR.out.set hlt (by rw [Hat.out, h1]; rfl)⟩
        case measure => simp [intOf]; omega
    · have hge : 49 ≤ k := by omega
      go_wp2
      obtain rfl : k = 49 := by omega
      obtain ⟨q0, q1, q2⟩ := read3C (.int .i64 7) (.int .i64 7) (.int .i64 (crossTo 49)) r0 r1 r2
      refine bodyPost_ret (v := .agg #[.int .i64 7, .int .i64 7, .int .i64 (crossTo 49)]) (by simp [results, Tryd.results20, go_sem, q0, q1, q2]) rfl ⟨rfl, HR.out.done _ _ _⟩

end Go.Proofs.YtnnoahoepljejaaDoor
