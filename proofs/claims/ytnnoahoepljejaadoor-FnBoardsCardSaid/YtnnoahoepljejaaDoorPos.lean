/-
  The draws of a board and of a position.
-/
import Derived.Test.YtnnoahoepljejaaDoorSmall
import Derived.Test.YtnnoahoepljejaaDoorLawI
import Derived.Test.YtnnoahoepljejaaDoorAt
namespace Go.Proofs.YtnnoahoepljejaaDoor
open Go.RowKit
open Peg
set_option linter.unusedVariables false
set_option linter.unusedSimpArgs false

theorem hole_at {W H S : Nat} (ok : Ok W H S) (j : Nat) (hj : j < (holesL W H S).length) : ∃ K : Nat, (holesL W H S)[j]?.getD 0 = (K : Int) ∧ K < W * H ∧ K ≤ 48 ∧ S.testBit K = true := by
  rw [holesL_ok ok] at hj ⊢
  have hm : (bitsTo S (W * H))[j] ∈ bitsTo S (W * H) := List.getElem_mem hj
  rw [List.getElem?_eq_getElem hj]
  generalize (bitsTo S (W * H))[j] = x at hm ⊢
  unfold bitsTo at hm
  rw [List.mem_map] at hm
  obtain ⟨K, hK, rfl⟩ := hm
  rw [List.mem_filter, List.mem_range] at hK
  have := ok.area
  exact ⟨K, rfl, hK.1, by omega, hK.2⟩
theorem or_sub {P S K : Nat} (h : P &&& S = P) (hb : S.testBit K = true) : (P ||| 2 ^ K) &&& S = P ||| 2 ^ K := by
  apply Nat.eq_of_testBit_eq
  intro i
  have hi := congrArg (fun x => x.testBit i) h
  simp only [Nat.testBit_and, Nat.testBit_or, Nat.testBit_two_pow] at hi ⊢
  by_cases hk : K = i
  · subst hk; simp [hb]
  · simp only [hk, decide_false, Bool.or_false]; exact hi
theorem or_lt49 {P K : Nat} (h : P < 2 ^ 49) (hk : K ≤ 48) : P ||| 2 ^ K < 2 ^ 49 := Nat.or_lt_two_pow h (Nat.pow_lt_pow_right (by decide) (by omega))

theorem set3_below {w wr : World} (h : Below w.heap.size w wr) (v0 v1 v2 : Value) : Below w.heap.size w (((wr.setCell ⟨w.heap.size, 0, none⟩ v0).setCell ⟨w.heap.size, 1, none⟩ v1).setCell ⟨w.heap.size, 2, none⟩ v2) :=
  ((h.setCell (Nat.le_refl _) _).setCell (Nat.le_refl _) _).setCell (Nat.le_refl _) _

/-- A small board that is drawn out of the bytes handed in. -/
theorem DrawBoard_any (ad : Option Addr) (len cap : Nat) (hlen : len ≤ 1048576) (w : World) (h : IsCode w ad len) :
    Calls Tryd.prog 11 #[.slice ad len cap] w fun e w' => ∃ W H S : Nat, Ok W H S ∧ e = .returned (.agg #[.int .i64 W, .int .i64 H, .int .i64 S]) ∧ Below w.heap.size w w' := by
  have Z0 := Zero3.new w 25
  have b0 := below1 w (.cells #[.int .i64 0, .int .i64 0, .int .i64 0] 25)
  have hz : w.heap.size < (w.alloc (.cells #[.int .i64 0, .int .i64 0, .int .i64 0] 25)).heap.size := by simp
  have HC := Lib.hid (h.kept b0)
  have HB0 := Lib.hid b0
  clear h b0
  go_enter Tryd.func11, Tryd.ntmps11
  go_wp2_with fail
  refine (l01New_any ad len cap hlen _ HC.out).mono ?_
  rintro e w1 hr
  obtain ⟨n, rfl, hn, hc1, hB1⟩ := hr
  have Z1 := Z0.below hB1
  have hBel1 := HB0.out.andThen hB1
  have hz1 := hB1.size
  clear hB1 Z0 HC
  go_wp2_with fail
  refine (l02Small_any n ad len cap _ hc1).mono ?_
  rintro e w2 hr
  obtain ⟨W, H, S, ok, hW5, hH4, rfl, hD⟩ := hr
  have Z2 := Z1.grown hD.gr (by simp; omega)
  have hBel := Lib.hid (hBel1.trans (hD.below (by omega) (by omega)))
  have HOK := Lib.hid ok
  clear hD hBel1 Z1 hc1 ok
  obtain ⟨r0, r1, r2, g0, g1, g2, sz⟩ := Z2
  go_wp2
  obtain ⟨q0, q1, q2⟩ := read3 (.int .i64 W) (.int .i64 H) (.int .i64 S) r0 r1 r2
  refine bodyPost_ret (v := .agg #[.int .i64 W, .int .i64 H, .int .i64 S]) (by simp [results, Tryd.results11, go_sem, q0, q1, q2]) rfl ⟨W, H, S, HOK.out, rfl, set3_below hBel.out _ _ _⟩
end Go.Proofs.YtnnoahoepljejaaDoor
