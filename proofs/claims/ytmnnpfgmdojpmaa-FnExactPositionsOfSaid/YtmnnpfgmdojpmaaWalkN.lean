/-
  The walks of the laws' helpers on slices of lines: eqLineS, markLineS, heldLineS.
-/
import Derived.Test.YtmnnpfgmdojpmaaOwnL
import Derived.Test.YtmnnpfgmdojpmaaWalkJ
import Derived.Test.YtmnnpfgmdojpmaaWalkB
import Derived.StillTailTactics
namespace Go.Proofs.Ytmnnpfgmdojpmaa
open Go.RowKit
open Peg
set_option linter.unusedVariables false

theorem eqLineS_nil (a b : Option Addr) (c d : Nat) (w : World) :
    Calls Try.prog 17 #[.slice a 0 c, .slice b 0 d] w fun e w' => e = .returned (.bool true) ∧ Below w.heap.size w w' := by
  go_enter Try.func17, Try.ntmps17
  go_wp2_with fail
  refine wp_loop_rounds 1 ?_
  rw [rounds_succ]
  go_wp2
  go_ret
  exact ⟨rfl, Below.refl _ _⟩

set_option maxHeartbeats 400000 in
set_option maxRecDepth 100000 in
theorem eqLineS_pos (g g' cap cap' n : Nat) (f : Nat → Int) (w : World) (hn : n ≤ 1152921504606846976) (hg : g < w.heap.size) (hg' : g' < w.heap.size) (h1 : ∀ j, j < n * 3 → w.cell? ⟨g, j, none⟩ = some (.int .i64 (f j))) (h2 : ∀ j, j < n * 3 → w.cell? ⟨g', j, none⟩ = some (.int .i64 (f j))) :
    Calls Try.prog 17 #[.slice (some ⟨g, 0, none⟩) n cap, .slice (some ⟨g', 0, none⟩) n cap'] w fun e w' => e = .returned (.bool true) ∧ Below w.heap.size w w' := by
  have H1 := Lib.hid h1
  have H2 := Lib.hid h2
  clear h1 h2
  go_enter Try.func17, Try.ntmps17
  go_wp2_with fail
  go_loopw [5] (fun i wr => ∃ k : Nat, k ≤ n ∧ i = .int .i64 k ∧ Below w.heap.size w wr) (fun i _ => n - (intOf i).toNat)
  case atStart => exact ⟨0, by omega, rfl, Below.refl _ _⟩
  case round =>
    obtain ⟨k, hk, rfl, hb⟩ := hrel
    by_cases hlt : k < n
    · have e1 : ∀ o, o < n * 3 → wr.cell? ⟨g, o, none⟩ = some (.int .i64 (f o)) := fun o ho => (hb.cell (p := ⟨g, o, none⟩) hg).trans (H1.out o ho)
      have e2 : ∀ o, o < n * 3 → wr.cell? ⟨g', o, none⟩ = some (.int .i64 (f o)) := fun o ho => (hb.cell (p := ⟨g', o, none⟩) hg').trans (H2.out o ho)
      have a0 := e1 (k * 3) (by omega)
      have a1 := e1 (k * 3 + 1) (by omega)
      have a2 := e1 (k * 3 + 2) (by omega)
      have b0 := e2 (k * 3) (by omega)
      have b1 := e2 (k * 3 + 1) (by omega)
      have b2 := e2 (k * 3 + 2) (by omega)
      clear e1 e2
      have HB := Lib.hid hb
      clear hb
      go_wp2_with fail
      go_still_tail 8, (by kernel_rfl)
      change wpList _ _ _ _ _ wr.drew
      go_wp2_with fail
      refine (eqLine_same _ _ _ _).mono ?_
      rintro e w1 ⟨rfl, hB1⟩
      have hb1 := HB.out.trans ((Below.drew (Below.refl _ wr)).trans (hB1.mono HB.out.size))
      clear hB1 a0 a1 a2 b0 b1 b2
      go_wp2
      go_roundw
      case rel => exact ⟨k + 1, by omega, by go_num, hb1⟩
      case measure => simp [intOf]; omega
    · go_wp2
      go_ret
      exact ⟨rfl, hb⟩

theorem eqLineS_same (ls : List Ln) (a b : Value) (A B : Nat) (w : World) (hn : ls.length ≤ 1152921504606846976) (h1 : RowL w A a ls) (h2 : RowL w B b ls) :
    Calls Try.prog 17 #[a, b] w fun e w' => e = .returned (.bool true) ∧ Below w.heap.size w w' := by
  rcases RowX.forms h1 with ⟨hx, p, c, rfl⟩ | ⟨hx, g, c, rfl, _, hg, hl⟩
  · rcases RowX.forms h2 with ⟨_, q, d, rfl⟩ | ⟨hx2, _⟩
    · exact eqLineS_nil p q c d w
    · omega
  · rcases RowX.forms h2 with ⟨hx2, _⟩ | ⟨_, g', d, rfl, _, hg', _⟩
    · omega
    · exact eqLineS_pos g g' c d ls.length (fun j => (flat ls)[j]?.getD 0) w hn hg hg' (fun j hj => RowX.at h1 j hj) (fun j hj => RowX.at h2 j hj)

structure MarkRelL (w : World) (B g cap K n : Nat) (zs : List Int) (k : Nat) (wr : World) : Prop where
  row : RowX wr B (.slice (some ⟨g, 0, none⟩) n cap) n (marked K k zs)
  gr : w.grownBy wr (some g)

theorem MarkRelL.step {w wr : World} {B g cap K k n : Nat} {zs : List Int} (h : MarkRelL w B g cap K n zs k wr) (hk : k < zs.length) (u : Int) (hu : u = (K : Int) + k) :
    MarkRelL w B g cap K n zs (k + 1) (wr.setCell ⟨g, k, none⟩ (.int .i64 u)) := by
  subst hu
  have := h.row.set k ((K : Int) + k)
  rw [marked_step K k zs hk] at this
  exact ⟨this.1, grown_trans h.gr this.2⟩
theorem MarkRelL.at {w wr : World} {B g cap K k n : Nat} {zs : List Int} (h : MarkRelL w B g cap K n zs k wr) (j : Nat) (hj : j < n * 3) : ∃ u, wr.cell? ⟨g, j, none⟩ = some (.int .i64 u) := ⟨_, h.row.at j hj⟩

theorem markLineS_nil (a : Option Addr) (c K : Nat) (w : World) :
    Calls Try.prog 40 #[.slice a 0 c, .int .i64 K] w fun e w' => e = .returned (.int .i64 K) ∧ w' = w := by
  go_enter Try.func40, Try.ntmps40
  go_wp2_with fail
  refine wp_loop_rounds 1 ?_
  rw [rounds_succ]
  go_wp2
  go_ret
  exact ⟨rfl, rfl⟩

/-- What marking leaves. -/
def MarkedL (w : World) (B : Nat) (v : Value) (K n : Nat) (e : Ending) (w' : World) : Prop := e = .returned (.int .i64 ((K : Int) + n * 3)) ∧ RowX w' B v n (marks K (n * 3)) ∧ w.grownBy w' v.ownBlock

set_option maxHeartbeats 400000 in
theorem markLineS_pos (g cap K B n : Nat) (zs : List Int) (w : World) (hn : n ≤ 1152921504606846976) (hK : K ≤ 1152921504606846976) (h : RowX w B (.slice (some ⟨g, 0, none⟩) n cap) n zs) :
    Calls Try.prog 40 #[.slice (some ⟨g, 0, none⟩) n cap, .int .i64 K] w (MarkedL w B (.slice (some ⟨g, 0, none⟩) n cap) K n) := by
  have hlen := h.len
  have HLen := Lib.hid hlen
  clear hlen
  go_enter Try.func40, Try.ntmps40
  go_wp2_with fail
  go_loopw [1, 5] (fun q i wr => ∃ k : Nat, k ≤ n ∧ i = .int .i64 k ∧ q = .int .i64 ((K : Int) + k * 3) ∧ MarkRelL w B g cap K n zs (k * 3) wr) (fun _ i _ => n - (intOf i).toNat)
  case atStart => exact ⟨0, by omega, rfl, by simp, ⟨by simpa [marked, marks] using h, World.grownBy.refl _ _⟩⟩
  case round =>
    obtain ⟨k, hk, rfl, rfl, hR⟩ := hrel
    by_cases hlt : k < n
    · have hr := hR.row
      obtain ⟨u0, c0⟩ := hR.at (k * 3) (by omega)
      obtain ⟨u1, c1⟩ := hR.at (k * 3 + 1) (by omega)
      obtain ⟨u2, c2⟩ := hR.at (k * 3 + 2) (by omega)
      have f0 := hr.free (k * 3)
      have f1 := hr.free (k * 3 + 1)
      have f2 := hr.free (k * 3 + 2)
      have R1 := hR.step (by rw [HLen.out]; omega) ((K : Int) + k * 3) (by simp)
      have R2 := R1.step (by rw [HLen.out]; omega) ((K : Int) + k * 3 + 1) (by simp; omega)
      have R3 := Lib.hid (R2.step (by rw [HLen.out]; omega) ((K : Int) + k * 3 + 1 + 1) (by simp; omega))
      clear hr hR R1 R2
      go_wp2
      go_roundw
      case rel => exact ⟨k + 1, by omega, by go_num, by go_num, by rw [show (k + 1) * 3 = k * 3 + 1 + 1 + 1 from by omega]; exact R3.out⟩
      case measure => simp [intOf]; omega
    · have hge : n ≤ k := by omega
      go_wp2
      have hk2 : k = n := by omega
      have h2 := hR.row
      rw [hk2, ← HLen.out, marked_all, HLen.out] at h2
      go_ret
      exact ⟨by rw [hk2]; rfl, h2, hR.gr⟩
end Go.Proofs.Ytmnnpfgmdojpmaa
