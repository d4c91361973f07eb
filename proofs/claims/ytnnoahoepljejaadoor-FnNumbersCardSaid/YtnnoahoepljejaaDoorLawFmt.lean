/-
  The walk of the law FormatInt, and the fact on the table that the row's condition gives.
-/
import Derived.Test.YtnnoahoepljejaaDoorFmt
import Derived.Lib.LaidTab
import Derived.LaidMore
import Derived.Test.YtnnoahoepljejaaDoorRows
namespace Go.Proofs.YtnnoahoepljejaaDoor
open Go.RowKit Go.ChangeShapes Go.WideShapes
set_option linter.unusedVariables false

def Tab (w : World) : Prop := Lib.TabIs Tryd.prog w "internal/strconv.uint64pow10" .u64 Lib.pow10Tab
def laid3 : List (String × DataW Unit) := [("math/bits.deBruijn32tab", Rows.laid_math_bits_deBruijn32tab), ("math/bits.deBruijn64tab", Rows.laid_math_bits_deBruijn64tab), ("internal/strconv.uint64pow10", Rows.laid_internal_strconv_uint64pow10)]
theorem pow_data : (Rows.laid_internal_strconv_uint64pow10 : DataW Unit) = Lib.tabData .u64 Lib.pow10Tab := by kernel_rfl
theorem tab_of {W : World} {laid : List (String × DataW Unit)} (hl : laid = laid3) (h : laidMetH Tryd.prog laid W) : Tab W := by
  subst hl
  rw [MakeChecks.laidMetH_plain _ _ _ (by kernel_rfl)] at h
  obtain ⟨ps, ⟨g0, t0, cs0, f0, p0, q0, hg0, ht0, hv0, hd0, ⟨g1, t1, cs1, f1, p1, q1, hg1, ht1, hv1, hd1, ⟨g2, t2, cs2, f2, p2, q2, hg2, ht2, hv2, hd2, _, _⟩, _⟩, _⟩, _, _⟩ := h
  rw [pow_data] at hd2
  obtain rfl := Option.some.inj ((show Tryd.prog.globalNamed "internal/strconv.uint64pow10" = some 3 by kernel_rfl).symm.trans hg2)
  obtain rfl := Option.some.inj ((show (Tryd.prog.globals[3]?).map (·.type) = some 104 by kernel_rfl).symm.trans ht2)
  unfold Tab Lib.TabIs
  rw [hv2, ← Lib.cells_of_tab Tryd.underlying104 Tryd.underlying76 (by kernel_rfl) (by kernel_rfl) hd2]
theorem tab_kept {w w' : World} (h : Tab w) (hb : Below w.heap.size w w') : Tab w' := by
  unfold Tab Lib.TabIs World.var? at *
  cases hg : Tryd.prog.globalNamed "internal/strconv.uint64pow10" with
  | none => simp [hg] at h
  | some g =>
    simp only [hg, Option.bind_some] at h ⊢
    have hlt : g < w.heap.size := by
      rcases Nat.lt_or_ge g w.heap.size with h' | h'
      · exact h'
      · rw [Array.getElem?_eq_none h'] at h; simp at h
    rw [hb.block g hlt]
    exact h

theorem walkFnExactFormatInt (n : Int) (wn : (Lit.int .i64 n).wf = true) (w : World) (htab : Tab w) :
    Calls Tryd.prog 6 #[.int .i64 n] w fun e w' => e = .returned (.bool true) ∧ Below w.heap.size w w' := by
  obtain ⟨h0, h1⟩ := bounds_i64 wn
  have hi := fun w ht => FormatInt_any n h0 h1 w ht
  have hs := fun w => specFormatInt_any n h0 h1 w
  generalize itoaB n = s at hi hs
  have HI := Lib.hid hi
  have HS := Lib.hid hs
  have HT := Lib.hid htab
  clear hi hs htab
  go_enter Tryd.func6, Tryd.ntmps6
  go_wp2_with fail
  refine (HS.out _).mono ?_
  rintro e w1 ⟨rfl, hB1⟩
  have ht1 := Lib.hid (tab_kept HT.out hB1)
  go_wp2_with fail
  refine (HI.out _ ht1.out).mono ?_
  rintro e w2 ⟨rfl, hB2⟩
  go_wp2
  go_ret
  exact ⟨rfl, hB1.andThen hB2⟩
end Go.Proofs.YtnnoahoepljejaaDoor
