/-
  The walks of the laws CountSweeps, PlayAll, UndoAll, IsSolution.
-/
import Derived.Test.YtmnnpfgmdojpmaaWalkT
import Derived.Test.YtmnnpfgmdojpmaaToLine
import Derived.Test.YtmnnpfgmdojpmaaWalkN
namespace Go.Proofs.Ytmnnpfgmdojpmaa
open Go.RowKit
open Peg
set_option linter.unusedVariables false

set_option maxHeartbeats 800000 in
theorem walkFnExactCountSweeps (ad : Option Addr) (len cap : Nat) (ls : List Ln) (w : World) (hl : IsLines w ad len ls) :
    Calls Try.prog 3 #[.slice ad len cap] w fun e w' => e = .returned (.bool true) ∧ Below w.heap.size w w' := by
  obtain rfl : len = ls.length := hl.1.symm
  have hm := hl.2.1
  by_cases hle : ¬ ls.length ≤ 1048576
  · have hsz := fun w => szLineS_any ad ls.length cap 1048576 (by decide) hm w
    simp only [if_neg hle] at hsz
    have hsz := Lib.hid hsz
    go_enter Try.func3, Try.ntmps3
    go_wp2_with fail
    refine (hsz.out _).mono ?_
    rintro e w1 ⟨rfl, hw1⟩
    subst w1
    go_wp2
    go_ret
    exact ⟨rfl, Below.refl _ _⟩
  have hle : ls.length ≤ 1048576 := by omega
  have hsz := fun w => szLineS_any ad ls.length cap 1048576 (by decide) hm w
  simp only [if_pos hle] at hsz
  have hn : ¬ ((1048576 - ls.length : Nat) : Int) < 0 := by omega
  generalize ((1048576 - ls.length : Nat) : Int) = left at hsz hn
  have hsz := Lib.hid hsz
  have hs := fun w p c hl => specCountSweeps_any p c ls hle w hl
  have hi := fun w p c hl => CountSweeps_any p c ls hle w hl
  generalize ((swp ls ls.length : Nat) : Int) = x at hs hi
  have HS := Lib.hid hs
  have HI := Lib.hid hi
  clear hs hi
  go_enter Try.func3, Try.ntmps3
  have HL := Lib.hid hl
  have hBel := Lib.hid (Below.refl w.heap.size w)
  clear hl
  go_wp2_with fail
  refine (hsz.out _).mono ?_
  rintro e w1 ⟨rfl, hw1⟩
  subst w1
  go_wp2_with fail
  refine (toLineS_any ad ls.length cap ls _ HL.out hle).mono ?_
  rintro e w2 hr
  obtain ⟨v2, rfl, hr2, hB2⟩ := hr
  obtain ⟨p2, c2, rfl, hl2⟩ := RowL.lines hr2
  replace HL := Lib.hid (HL.out.kept hB2)
  replace hBel := Lib.hid (hBel.out.andThen hB2)
  clear hB2
  go_wp2_with fail
  refine (HS.out _ p2 c2 hl2).mono ?_
  rintro e w3 ⟨rfl, hB3⟩
  replace HL := Lib.hid (HL.out.kept hB3)
  replace hBel := Lib.hid (hBel.out.andThen hB3)
  replace hl2 := LinesAt.kept hl2 hB3
  clear hB3
  clear hl2 hr2
  go_wp2_with fail
  refine (toLineS_any ad ls.length cap ls _ HL.out hle).mono ?_
  rintro e w4 hr
  obtain ⟨v4, rfl, hr4, hB4⟩ := hr
  obtain ⟨p4, c4, rfl, hl4⟩ := RowL.lines hr4
  replace HL := Lib.hid (HL.out.kept hB4)
  replace hBel := Lib.hid (hBel.out.andThen hB4)
  clear hB4
  go_wp2_with fail
  refine (HI.out _ p4 c4 hl4).mono ?_
  rintro e w5 ⟨rfl, hB5⟩
  replace HL := Lib.hid (HL.out.kept hB5)
  replace hBel := Lib.hid (hBel.out.andThen hB5)
  replace hr4 := RowL.kept hr4 hB5
  replace hl4 := LinesAt.kept hl4 hB5
  clear hB5
  go_wp2_with fail
  refine (toLineS_any ad ls.length cap ls _ HL.out hle).mono ?_
  rintro e w6 hr
  obtain ⟨v6, rfl, hr6, hB6⟩ := hr
  obtain ⟨p6, c6, rfl, hl6⟩ := RowL.lines hr6
  replace HL := Lib.hid (HL.out.kept hB6)
  replace hBel := Lib.hid (hBel.out.andThen hB6)
  replace hr4 := RowL.kept hr4 hB6
  clear hB6
  go_wp2_with fail
  refine (eqLineS_same ls _ _ _ _ _ (by omega) hr4 hr6).mono ?_
  rintro e w20 ⟨rfl, hB20⟩
  go_wp2
  go_ret
  exact ⟨rfl, hBel.out.andThen hB20⟩

set_option maxHeartbeats 800000 in
theorem walkFnExactPlayAll (a h s : Int) (wa : (Lit.int .i64 a).wf = true) (wh : (Lit.int .i64 h).wf = true) (ws : (Lit.int .i64 s).wf = true) (q : Int) (wq : (Lit.int .i64 q).wf = true) (ad : Option Addr) (len cap : Nat) (ls : List Ln) (w : World) (hl : IsLines w ad len ls) :
    Calls Try.prog 9 #[.agg #[.int .i64 a, .int .i64 h, .int .i64 s], .int .i64 q, .slice ad len cap] w fun e w' => e = .returned (.bool true) ∧ Below w.heap.size w w' := by
  obtain rfl : len = ls.length := hl.1.symm
  have hm := hl.2.1
  have hq := lt63 wq
  clear wa wh ws wq
  by_cases hle : ¬ ls.length ≤ 1048576
  · have hsz := fun w => szLineS_any ad ls.length cap 1048576 (by decide) hm w
    simp only [if_neg hle] at hsz
    have hsz := Lib.hid hsz
    go_enter Try.func9, Try.ntmps9
    go_wp2_with fail
    refine (hsz.out _).mono ?_
    rintro e w1 ⟨rfl, hw1⟩
    subst w1
    go_wp2
    go_ret
    exact ⟨rfl, below1 _ _⟩
  have hle : ls.length ≤ 1048576 := by omega
  have hsz := fun w => szLineS_any ad ls.length cap 1048576 (by decide) hm w
  simp only [if_pos hle] at hsz
  have hn : ¬ ((1048576 - ls.length : Nat) : Int) < 0 := by omega
  generalize ((1048576 - ls.length : Nat) : Int) = left at hsz hn
  have hsz := Lib.hid hsz
  have hs := fun w p c hl => specPlayAll_any a h s q hq p c ls hle w hl
  have hi := fun w p c hl => PlayAll_any a h s q hq p c ls hle w hl
  generalize playR a h s q ls = o at hs hi
  unfold RetR at hs hi
  generalize valR o q = x at hs hi
  generalize o.isSome = b at hs hi
  have HS := Lib.hid hs
  have HI := Lib.hid hi
  clear hs hi
  go_enter Try.func9, Try.ntmps9
  have X0 := BoxAt.new w a h s 30
  have HL := Lib.hid (hl.kept (below1 w (.cells #[.int .i64 a, .int .i64 h, .int .i64 s] 30)))
  have hBel := Lib.hid (below1 w (.cells #[.int .i64 a, .int .i64 h, .int .i64 s] 30))
  obtain ⟨b0, b1, b2, bz⟩ := X0
  clear bz
  clear hl
  go_wp2_with fail
  refine (hsz.out _).mono ?_
  rintro e w1 ⟨rfl, hw1⟩
  subst w1
  go_wp2_with fail
  refine (toBoard_any _ _ _ _).mono ?_
  rintro e w2 ⟨rfl, hB2⟩
  replace b0 := cell_kept b0 hB2
  replace b1 := cell_kept b1 hB2
  replace b2 := cell_kept b2 hB2
  replace HL := Lib.hid (HL.out.kept hB2)
  replace hBel := Lib.hid (hBel.out.andThen hB2)
  clear hB2
  go_wp2_with fail
  refine (toLineS_any ad ls.length cap ls _ HL.out hle).mono ?_
  rintro e w3 hr
  obtain ⟨v3, rfl, hr3, hB3⟩ := hr
  obtain ⟨p3, c3, rfl, hl3⟩ := RowL.lines hr3
  replace b0 := cell_kept b0 hB3
  replace b1 := cell_kept b1 hB3
  replace b2 := cell_kept b2 hB3
  replace HL := Lib.hid (HL.out.kept hB3)
  replace hBel := Lib.hid (hBel.out.andThen hB3)
  clear hB3
  go_wp2_with fail
  refine (HS.out _ p3 c3 hl3).mono ?_
  rintro e w4 ⟨rfl, hB4⟩
  replace b0 := cell_kept b0 hB4
  replace b1 := cell_kept b1 hB4
  replace b2 := cell_kept b2 hB4
  replace HL := Lib.hid (HL.out.kept hB4)
  replace hBel := Lib.hid (hBel.out.andThen hB4)
  replace hl3 := LinesAt.kept hl3 hB4
  clear hB4
  clear hl3 hr3
  go_wp2_with fail
  refine (toLineS_any ad ls.length cap ls _ HL.out hle).mono ?_
  rintro e w5 hr
  obtain ⟨v5, rfl, hr5, hB5⟩ := hr
  obtain ⟨p5, c5, rfl, hl5⟩ := RowL.lines hr5
  replace b0 := cell_kept b0 hB5
  replace b1 := cell_kept b1 hB5
  replace b2 := cell_kept b2 hB5
  replace HL := Lib.hid (HL.out.kept hB5)
  replace hBel := Lib.hid (hBel.out.andThen hB5)
  clear hB5
  go_wp2_with fail
  refine (toBoard_any _ _ _ _).mono ?_
  rintro e w6 ⟨rfl, hB6⟩
  replace b0 := cell_kept b0 hB6
  replace b1 := cell_kept b1 hB6
  replace b2 := cell_kept b2 hB6
  replace HL := Lib.hid (HL.out.kept hB6)
  replace hBel := Lib.hid (hBel.out.andThen hB6)
  replace hr5 := RowL.kept hr5 hB6
  replace hl5 := LinesAt.kept hl5 hB6
  clear hB6
  go_wp2_with fail
  refine (HI.out _ p5 c5 hl5).mono ?_
  rintro e w7 ⟨rfl, hB7⟩
  replace b0 := cell_kept b0 hB7
  replace b1 := cell_kept b1 hB7
  replace b2 := cell_kept b2 hB7
  replace HL := Lib.hid (HL.out.kept hB7)
  replace hBel := Lib.hid (hBel.out.andThen hB7)
  replace hr5 := RowL.kept hr5 hB7
  replace hl5 := LinesAt.kept hl5 hB7
  clear hB7
  go_wp2_with fail
  refine (toLineS_any ad ls.length cap ls _ HL.out hle).mono ?_
  rintro e w8 hr
  obtain ⟨v8, rfl, hr8, hB8⟩ := hr
  obtain ⟨p8, c8, rfl, hl8⟩ := RowL.lines hr8
  replace b0 := cell_kept b0 hB8
  replace b1 := cell_kept b1 hB8
  replace b2 := cell_kept b2 hB8
  replace HL := Lib.hid (HL.out.kept hB8)
  replace hBel := Lib.hid (hBel.out.andThen hB8)
  replace hr5 := RowL.kept hr5 hB8
  clear hB8
  go_wp2_with fail
  refine (eqLineS_same ls _ _ _ _ _ (by omega) hr5 hr8).mono ?_
  rintro e w20 ⟨rfl, hB20⟩
  go_wp2
  go_ret
  exact ⟨rfl, hBel.out.andThen hB20⟩

set_option maxHeartbeats 800000 in
theorem walkFnExactUndoAll (a h s : Int) (wa : (Lit.int .i64 a).wf = true) (wh : (Lit.int .i64 h).wf = true) (ws : (Lit.int .i64 s).wf = true) (q : Int) (wq : (Lit.int .i64 q).wf = true) (ad : Option Addr) (len cap : Nat) (ls : List Ln) (w : World) (hl : IsLines w ad len ls) :
    Calls Try.prog 10 #[.agg #[.int .i64 a, .int .i64 h, .int .i64 s], .int .i64 q, .slice ad len cap] w fun e w' => e = .returned (.bool true) ∧ Below w.heap.size w w' := by
  obtain rfl : len = ls.length := hl.1.symm
  have hm := hl.2.1
  have hq := lt63 wq
  clear wa wh ws wq
  by_cases hle : ¬ ls.length ≤ 1048576
  · have hsz := fun w => szLineS_any ad ls.length cap 1048576 (by decide) hm w
    simp only [if_neg hle] at hsz
    have hsz := Lib.hid hsz
    go_enter Try.func10, Try.ntmps10
    go_wp2_with fail
    refine (hsz.out _).mono ?_
    rintro e w1 ⟨rfl, hw1⟩
    subst w1
    go_wp2
    go_ret
    exact ⟨rfl, below1 _ _⟩
  have hle : ls.length ≤ 1048576 := by omega
  have hsz := fun w => szLineS_any ad ls.length cap 1048576 (by decide) hm w
  simp only [if_pos hle] at hsz
  have hn : ¬ ((1048576 - ls.length : Nat) : Int) < 0 := by omega
  generalize ((1048576 - ls.length : Nat) : Int) = left at hsz hn
  have hsz := Lib.hid hsz
  have hs := fun w p c hl => specUndoAll_any a h s q hq p c ls hle w hl
  have hi := fun w p c hl => UndoAll_any a h s q hq p c ls hle w hl
  generalize undoR a h s q ls = o at hs hi
  unfold RetR at hs hi
  generalize valR o q = x at hs hi
  generalize o.isSome = b at hs hi
  have HS := Lib.hid hs
  have HI := Lib.hid hi
  clear hs hi
  go_enter Try.func10, Try.ntmps10
  have X0 := BoxAt.new w a h s 30
  have HL := Lib.hid (hl.kept (below1 w (.cells #[.int .i64 a, .int .i64 h, .int .i64 s] 30)))
  have hBel := Lib.hid (below1 w (.cells #[.int .i64 a, .int .i64 h, .int .i64 s] 30))
  obtain ⟨b0, b1, b2, bz⟩ := X0
  clear bz
  clear hl
  go_wp2_with fail
  refine (hsz.out _).mono ?_
  rintro e w1 ⟨rfl, hw1⟩
  subst w1
  go_wp2_with fail
  refine (toBoard_any _ _ _ _).mono ?_
  rintro e w2 ⟨rfl, hB2⟩
  replace b0 := cell_kept b0 hB2
  replace b1 := cell_kept b1 hB2
  replace b2 := cell_kept b2 hB2
  replace HL := Lib.hid (HL.out.kept hB2)
  replace hBel := Lib.hid (hBel.out.andThen hB2)
  clear hB2
  go_wp2_with fail
  refine (toLineS_any ad ls.length cap ls _ HL.out hle).mono ?_
  rintro e w3 hr
  obtain ⟨v3, rfl, hr3, hB3⟩ := hr
  obtain ⟨p3, c3, rfl, hl3⟩ := RowL.lines hr3
  replace b0 := cell_kept b0 hB3
  replace b1 := cell_kept b1 hB3
  replace b2 := cell_kept b2 hB3
  replace HL := Lib.hid (HL.out.kept hB3)
  replace hBel := Lib.hid (hBel.out.andThen hB3)
  clear hB3
  go_wp2_with fail
  refine (HS.out _ p3 c3 hl3).mono ?_
  rintro e w4 ⟨rfl, hB4⟩
  replace b0 := cell_kept b0 hB4
  replace b1 := cell_kept b1 hB4
  replace b2 := cell_kept b2 hB4
  replace HL := Lib.hid (HL.out.kept hB4)
  replace hBel := Lib.hid (hBel.out.andThen hB4)
  replace hl3 := LinesAt.kept hl3 hB4
  clear hB4
  clear hl3 hr3
  go_wp2_with fail
  refine (toLineS_any ad ls.length cap ls _ HL.out hle).mono ?_
  rintro e w5 hr
  obtain ⟨v5, rfl, hr5, hB5⟩ := hr
  obtain ⟨p5, c5, rfl, hl5⟩ := RowL.lines hr5
  replace b0 := cell_kept b0 hB5
  replace b1 := cell_kept b1 hB5
  replace b2 := cell_kept b2 hB5
  replace HL := Lib.hid (HL.out.kept hB5)
  replace hBel := Lib.hid (hBel.out.andThen hB5)
  clear hB5
  go_wp2_with fail
  refine (toBoard_any _ _ _ _).mono ?_
  rintro e w6 ⟨rfl, hB6⟩
  replace b0 := cell_kept b0 hB6
  replace b1 := cell_kept b1 hB6
  replace b2 := cell_kept b2 hB6
  replace HL := Lib.hid (HL.out.kept hB6)
  replace hBel := Lib.hid (hBel.out.andThen hB6)
  replace hr5 := RowL.kept hr5 hB6
  replace hl5 := LinesAt.kept hl5 hB6
  clear hB6
  go_wp2_with fail
  refine (HI.out _ p5 c5 hl5).mono ?_
  rintro e w7 ⟨rfl, hB7⟩
  replace b0 := cell_kept b0 hB7
  replace b1 := cell_kept b1 hB7
  replace b2 := cell_kept b2 hB7
  replace HL := Lib.hid (HL.out.kept hB7)
  replace hBel := Lib.hid (hBel.out.andThen hB7)
  replace hr5 := RowL.kept hr5 hB7
  replace hl5 := LinesAt.kept hl5 hB7
  clear hB7
  go_wp2_with fail
  refine (toLineS_any ad ls.length cap ls _ HL.out hle).mono ?_
  rintro e w8 hr
  obtain ⟨v8, rfl, hr8, hB8⟩ := hr
  obtain ⟨p8, c8, rfl, hl8⟩ := RowL.lines hr8
  replace b0 := cell_kept b0 hB8
  replace b1 := cell_kept b1 hB8
  replace b2 := cell_kept b2 hB8
  replace HL := Lib.hid (HL.out.kept hB8)
  replace hBel := Lib.hid (hBel.out.andThen hB8)
  replace hr5 := RowL.kept hr5 hB8
  clear hB8
  go_wp2_with fail
  refine (eqLineS_same ls _ _ _ _ _ (by omega) hr5 hr8).mono ?_
  rintro e w20 ⟨rfl, hB20⟩
  go_wp2
  go_ret
  exact ⟨rfl, hBel.out.andThen hB20⟩

set_option maxHeartbeats 800000 in
theorem walkFnExactIsSolution (a h s : Int) (wa : (Lit.int .i64 a).wf = true) (wh : (Lit.int .i64 h).wf = true) (ws : (Lit.int .i64 s).wf = true) (q : Int) (wq : (Lit.int .i64 q).wf = true) (g : Int) (wg : (Lit.int .i64 g).wf = true) (ad : Option Addr) (len cap : Nat) (ls : List Ln) (w : World) (hl : IsLines w ad len ls) :
    Calls Try.prog 11 #[.agg #[.int .i64 a, .int .i64 h, .int .i64 s], .int .i64 q, .int .i64 g, .slice ad len cap] w fun e w' => e = .returned (.bool true) ∧ Below w.heap.size w w' := by
  obtain rfl : len = ls.length := hl.1.symm
  have hm := hl.2.1
  have hq := lt63 wq
  clear wa wh ws wq wg
  by_cases hle : ¬ ls.length ≤ 1048576
  · have hsz := fun w => szLineS_any ad ls.length cap 1048576 (by decide) hm w
    simp only [if_neg hle] at hsz
    have hsz := Lib.hid hsz
    go_enter Try.func11, Try.ntmps11
    go_wp2_with fail
    refine (hsz.out _).mono ?_
    rintro e w1 ⟨rfl, hw1⟩
    subst w1
    go_wp2
    go_ret
    exact ⟨rfl, below1 _ _⟩
  have hle : ls.length ≤ 1048576 := by omega
  have hsz := fun w => szLineS_any ad ls.length cap 1048576 (by decide) hm w
  simp only [if_pos hle] at hsz
  have hn : ¬ ((1048576 - ls.length : Nat) : Int) < 0 := by omega
  generalize ((1048576 - ls.length : Nat) : Int) = left at hsz hn
  have hsz := Lib.hid hsz
  obtain ⟨b, hb⟩ : ∃ b, solB (playR a h s q ls) g = b := ⟨_, rfl⟩
  have hs := fun w p c hl => specIsSolution_b b a h s q g hq p c ls hle hb w hl
  have hi := fun w p c hl => IsSolution_b b a h s q g hq p c ls hle hb w hl
  clear hb
  have HS := Lib.hid hs
  have HI := Lib.hid hi
  clear hs hi
  cases b
  all_goals
    go_enter Try.func11, Try.ntmps11
    have X0 := BoxAt.new w a h s 30
    have HL := Lib.hid (hl.kept (below1 w (.cells #[.int .i64 a, .int .i64 h, .int .i64 s] 30)))
    have hBel := Lib.hid (below1 w (.cells #[.int .i64 a, .int .i64 h, .int .i64 s] 30))
    obtain ⟨b0, b1, b2, bz⟩ := X0
    clear bz
    clear hl
    go_wp2_with fail
    refine (hsz.out _).mono ?_
    rintro e w1 ⟨rfl, hw1⟩
    subst w1
    go_wp2_with fail
    refine (toBoard_any _ _ _ _).mono ?_
    rintro e w2 ⟨rfl, hB2⟩
    replace b0 := cell_kept b0 hB2
    replace b1 := cell_kept b1 hB2
    replace b2 := cell_kept b2 hB2
    replace HL := Lib.hid (HL.out.kept hB2)
    replace hBel := Lib.hid (hBel.out.andThen hB2)
    clear hB2
    go_wp2_with fail
    refine (toLineS_any ad ls.length cap ls _ HL.out hle).mono ?_
    rintro e w3 hr
    obtain ⟨v3, rfl, hr3, hB3⟩ := hr
    obtain ⟨p3, c3, rfl, hl3⟩ := RowL.lines hr3
    replace b0 := cell_kept b0 hB3
    replace b1 := cell_kept b1 hB3
    replace b2 := cell_kept b2 hB3
    replace HL := Lib.hid (HL.out.kept hB3)
    replace hBel := Lib.hid (hBel.out.andThen hB3)
    clear hB3
    go_wp2_with fail
    refine (HS.out _ p3 c3 hl3).mono ?_
    rintro e w4 ⟨rfl, hB4⟩
    replace b0 := cell_kept b0 hB4
    replace b1 := cell_kept b1 hB4
    replace b2 := cell_kept b2 hB4
    replace HL := Lib.hid (HL.out.kept hB4)
    replace hBel := Lib.hid (hBel.out.andThen hB4)
    replace hl3 := LinesAt.kept hl3 hB4
    clear hB4
    clear hl3 hr3
    go_wp2_with fail
    refine (toLineS_any ad ls.length cap ls _ HL.out hle).mono ?_
    rintro e w5 hr
    obtain ⟨v5, rfl, hr5, hB5⟩ := hr
    obtain ⟨p5, c5, rfl, hl5⟩ := RowL.lines hr5
    replace b0 := cell_kept b0 hB5
    replace b1 := cell_kept b1 hB5
    replace b2 := cell_kept b2 hB5
    replace HL := Lib.hid (HL.out.kept hB5)
    replace hBel := Lib.hid (hBel.out.andThen hB5)
    clear hB5
    go_wp2_with fail
    refine (toBoard_any _ _ _ _).mono ?_
    rintro e w6 ⟨rfl, hB6⟩
    replace b0 := cell_kept b0 hB6
    replace b1 := cell_kept b1 hB6
    replace b2 := cell_kept b2 hB6
    replace HL := Lib.hid (HL.out.kept hB6)
    replace hBel := Lib.hid (hBel.out.andThen hB6)
    replace hr5 := RowL.kept hr5 hB6
    replace hl5 := LinesAt.kept hl5 hB6
    clear hB6
    go_wp2_with fail
    refine (HI.out _ p5 c5 hl5).mono ?_
    rintro e w7 ⟨rfl, hB7⟩
    replace b0 := cell_kept b0 hB7
    replace b1 := cell_kept b1 hB7
    replace b2 := cell_kept b2 hB7
    replace HL := Lib.hid (HL.out.kept hB7)
    replace hBel := Lib.hid (hBel.out.andThen hB7)
    replace hr5 := RowL.kept hr5 hB7
    replace hl5 := LinesAt.kept hl5 hB7
    clear hB7
    go_wp2_with fail
    refine (toLineS_any ad ls.length cap ls _ HL.out hle).mono ?_
    rintro e w8 hr
    obtain ⟨v8, rfl, hr8, hB8⟩ := hr
    obtain ⟨p8, c8, rfl, hl8⟩ := RowL.lines hr8
    replace b0 := cell_kept b0 hB8
    replace b1 := cell_kept b1 hB8
    replace b2 := cell_kept b2 hB8
    replace HL := Lib.hid (HL.out.kept hB8)
    replace hBel := Lib.hid (hBel.out.andThen hB8)
    replace hr5 := RowL.kept hr5 hB8
    clear hB8
    go_wp2_with fail
    refine (eqLineS_same ls _ _ _ _ _ (by omega) hr5 hr8).mono ?_
    rintro e w20 ⟨rfl, hB20⟩
    go_wp2
    go_ret
    exact ⟨rfl, hBel.out.andThen hB20⟩

end Go.Proofs.Ytmnnpfgmdojpmaa
