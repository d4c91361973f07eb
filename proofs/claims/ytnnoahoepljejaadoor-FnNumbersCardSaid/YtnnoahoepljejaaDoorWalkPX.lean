/-
  The walk of the law FnExactParseUint.
-/
import Derived.Test.YtnnoahoepljejaaDoorWalkPR
namespace Go.Proofs.YtnnoahoepljejaaDoor
open Go.RowKit
set_option linter.unusedVariables false
set_option linter.unusedSimpArgs false

theorem errs_kept {w w' : World} (h : Errs w) (hb : Below w.heap.size w w') : Errs w' := by
  obtain ⟨⟨a, b, h1⟩, ⟨c, d, h2⟩⟩ := h
  exact ⟨⟨a, b, (hb.cell (World.block_lt_of_cell? w _ h1)).trans h1⟩, ⟨c, d, (hb.cell (World.block_lt_of_cell? w _ h2)).trans h2⟩⟩

set_option maxHeartbeats 800000 in
theorem walkFnExactParseUint (s : ByteArray) (hs : s.size ≤ maxLen) (w : World) (htab : Tab w) (herr : Errs w) :
    Calls Tryd.prog 4 #[.string s] w fun e w' => e = .returned (.bool true) ∧ Below w.heap.size w w' := by
  have HT := Lib.hid htab
  have HE := Lib.hid herr
  clear htab herr hs
  by_cases hbig : 1048576 < (s.size : Int)
  · go_enter Tryd.func4, Tryd.ntmps4
    go_wp2
    go_ret
    exact ⟨rfl, Below.refl _ _⟩
  have hlim : s.size ≤ 281474976710656 := by omega
  obtain ⟨r, b, hR⟩ := parR_ex s
  have HI := Lib.hid (fun w ht he => ParseUint_any s hlim r b hR w ht he)
  have HS := Lib.hid (fun w => specParseUint_any s r b hR w)
  clear hR hlim
  go_enter Tryd.func4, Tryd.ntmps4
  go_wp2_with fail
  refine (HS.out _).mono ?_
  rintro e w1 ⟨rfl, hB1⟩
  have HT1 := Lib.hid (tab_kept HT.out hB1)
  have HE1 := Lib.hid (errs_kept HE.out hB1)
  have HB1 := Lib.hid hB1
  clear hB1
  go_wp2_with fail
  refine (HI.out _ HT1.out HE1.out).mono ?_
  rintro e w2 ⟨rfl, hB2⟩
  have HB := Lib.hid (HB1.out.andThen hB2)
  clear hB2
  have hrr : (r != r) = false := by simp
  have hbb : (b != b) = false := by simp
  go_wp2
  go_ret
  exact ⟨rfl, HB.out⟩
end Go.Proofs.YtnnoahoepljejaaDoor
