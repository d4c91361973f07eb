/-
  The walk of the law PositionsOf.
-/
import Derived.Test.YtmnnpfgmdojpmaaWalkPO
import Derived.Test.YtmnnpfgmdojpmaaToLine
import Derived.Test.YtmnnpfgmdojpmaaWalkN
namespace Go.Proofs.Ytmnnpfgmdojpmaa
open Go.RowKit
open Peg
set_option linter.unusedVariables false

theorem markL2 (v : Value) (B : Nat) (ls : List Ln) (w : World) (hn : ls.length ≤ 1152921504606846976) (h : RowL w B v ls) :
    Calls Try.prog 40 #[v, .int .i64 1] w fun e w' => e = .returned (.int .i64 (1 + (ls.length : Int) * 3)) ∧ RowX w' B v ls.length (marks 1 (ls.length * 3)) ∧ w.grownBy w' v.ownBlock := by
  rcases RowX.forms h with ⟨h0, p, c, rfl⟩ | ⟨hx, g, c, rfl, _⟩
  · refine (markLineS_nil p c 1 w).mono ?_
    rintro e w' ⟨rfl, hw⟩
    subst hw
    have h2 : RowX w' B (.slice p 0 c) 0 (flat ls) := by have := h; unfold RowL at this; rw [h0] at this; exact this
    have h3 : flat ls = [] := by have := h2.len; exact List.eq_nil_of_length_eq_zero (by omega)
    rw [h3] at h2
    rw [h0]
    exact ⟨by simp, by simpa [marks] using h2, World.grownBy.refl _ _⟩
  · exact markLineS_pos g c 1 B ls.length (flat ls) w hn (by decide) h
theorem keptOff {w w' : World} {B : Nat} {v u : Value} {xs : List Int} (h : RowI w B v xs) (hg : w.grownBy w' u.ownBlock) (hne : ∀ k m, v.ownBlock = some k → u.ownBlock = some m → k ≠ m) : RowI w' B v xs :=
  h.keptBut hg (fun k hk e => hne k k hk e.symm rfl)
theorem markBel {w0 w w' : World} {u : Value} (h : Below w0.heap.size w0 w) (hg : w.grownBy w' u.ownBlock) (hu : ∀ k, u.ownBlock = some k → w0.heap.size ≤ k) : Below w0.heap.size w0 w' :=
  h.grown hg h.size (fun k hk => hu k hk)

set_option maxHeartbeats 1600000 in
theorem walkFnExactPositionsOf (a h s : Int) (wa : (Lit.int .i64 a).wf = true) (wh : (Lit.int .i64 h).wf = true) (ws : (Lit.int .i64 s).wf = true) (q : Int) (wq : (Lit.int .i64 q).wf = true) (ad : Option Addr) (len cap : Nat) (ls : List Ln) (w : World) (hl : IsLines w ad len ls) :
    Calls Try.prog 12 #[.agg #[.int .i64 a, .int .i64 h, .int .i64 s], .int .i64 q, .slice ad len cap] w fun e w' => e = .returned (.bool true) ∧ Below w.heap.size w w' := by
  obtain rfl : len = ls.length := hl.1.symm
  have hm := hl.2.1
  have hq := lt63 wq
  clear wa wh ws wq
  by_cases hle : ¬ ls.length ≤ 1048576
  · have hsz := fun w => szLineS_any ad ls.length cap 1048576 (by decide) hm w
    simp only [if_neg hle] at hsz
    have hsz := Lib.hid hsz
    go_enter Try.func12, Try.ntmps12
    go_wp2_with fail
    refine (hsz.out _).mono ?_
    rintro e w1 ⟨rfl, hw1⟩
    subst w1
    go_wp2
    go_ret
    exact ⟨rfl, below1 _ _⟩
  have hle : ls.length ≤ 1048576 := by omega
  have hsz := fun w => szLineS_any ad ls.length cap 1048576 (by decide) hm w
  simp only [if_pos hle] at hsz
  have hn : ¬ ((1048576 - ls.length : Nat) : Int) < 0 := by omega
  generalize ((1048576 - ls.length : Nat) : Int) = left at hsz hn
  have hsz := Lib.hid hsz
  have hs := fun w p c hl => specPositionsOf_any a h s q hq p c ls hle w hl
  have hi := fun w p c hl => PositionsOf_any a h s q hq p c ls hle w hl
  have hlen : (posL a h s q ls).length ≤ 1152921504606846976 := by have := posL_len a h s q ls; omega
  generalize posL a h s q ls = xs at hs hi hlen
  have HS := Lib.hid hs
  have HI := Lib.hid hi
  have hL := Lib.hid hlen
  clear hs hi hlen
  go_enter Try.func12, Try.ntmps12
  have X0 := BoxAt.new w a h s 30
  have hBel := Lib.hid (below1 w (.cells #[.int .i64 a, .int .i64 h, .int .i64 s] 30))
  have hz := (below1 w (.cells #[.int .i64 a, .int .i64 h, .int .i64 s] 30)).size
  have HL := Lib.hid hl
  obtain ⟨b0, b1, b2, hz0⟩ := X0
  clear hl
  go_wp2_with fail
  refine (hsz.out _).mono ?_
  rintro e w1 ⟨rfl, hw1⟩
  subst w1
  go_wp2_with fail
  refine (toBoard_any _ _ _ _).mono ?_
  rintro e w2 ⟨rfl, hB2⟩
  replace b0 := cell_kept b0 hB2
  replace b1 := cell_kept b1 hB2
  replace b2 := cell_kept b2 hB2
  replace hBel := Lib.hid (hBel.out.andThen hB2)
  have z2 := hB2.size
  clear hB2
  go_wp2_with fail
  refine (toLineS_any ad ls.length cap ls _ (HL.out.kept hBel.out) hle).mono ?_
  rintro e w3 hr
  obtain ⟨vA, rfl, hA, hB3⟩ := hr
  obtain ⟨pA, cA, rfl, lA⟩ := RowL.lines hA
  have tA := RowX.lt hA
  replace b0 := cell_kept b0 hB3
  replace b1 := cell_kept b1 hB3
  replace b2 := cell_kept b2 hB3
  replace hBel := Lib.hid (hBel.out.andThen hB3)
  have z3 := hB3.size
  clear hB3
  go_wp2_with fail
  refine (HS.out _ pA cA lA).mono ?_
  rintro e w4 hr
  obtain ⟨vw, rfl, hw, hB4⟩ := hr
  have tw := RowI.lt hw
  replace b0 := cell_kept b0 hB4
  replace b1 := cell_kept b1 hB4
  replace b2 := cell_kept b2 hB4
  replace hBel := Lib.hid (hBel.out.andThen hB4)
  have z4 := hB4.size
  replace lA := LinesAt.kept lA hB4
  clear hB4
  clear lA hA tA
  go_wp2_with fail
  refine (toLineS_any ad ls.length cap ls _ (HL.out.kept hBel.out) hle).mono ?_
  rintro e w5 hr
  obtain ⟨vL, rfl, hLL, hB5⟩ := hr
  obtain ⟨pL, cL, rfl, lL⟩ := RowL.lines hLL
  have tL := RowX.lt hLL
  replace b0 := cell_kept b0 hB5
  replace b1 := cell_kept b1 hB5
  replace b2 := cell_kept b2 hB5
  replace hBel := Lib.hid (hBel.out.andThen hB5)
  have z5 := hB5.size
  replace hw := RowI.kept hw hB5
  clear hB5
  go_wp2_with fail
  refine (toBoard_any _ _ _ _).mono ?_
  rintro e w6 ⟨rfl, hB6⟩
  replace b0 := cell_kept b0 hB6
  replace b1 := cell_kept b1 hB6
  replace b2 := cell_kept b2 hB6
  replace hBel := Lib.hid (hBel.out.andThen hB6)
  have z6 := hB6.size
  replace hw := RowI.kept hw hB6
  replace hLL := RowX.kept hLL hB6
  replace lL := LinesAt.kept lL hB6
  clear hB6
  go_wp2_with fail
  refine (HI.out _ pL cL lL).mono ?_
  rintro e w7 hr
  obtain ⟨vg, rfl, hg, hB7⟩ := hr
  have tg := RowI.lt hg
  replace b0 := cell_kept b0 hB7
  replace b1 := cell_kept b1 hB7
  replace b2 := cell_kept b2 hB7
  replace hBel := Lib.hid (hBel.out.andThen hB7)
  have z7 := hB7.size
  replace hw := RowI.kept hw hB7
  replace hLL := RowX.kept hLL hB7
  replace lL := LinesAt.kept lL hB7
  clear hB7
  clear lL
  go_wp2_with fail
  refine (eqIntS_same xs vg vw _ _ _ hg hw).mono ?_
  rintro e w8 ⟨rfl, hB8⟩
  replace b0 := cell_kept b0 hB8
  replace b1 := cell_kept b1 hB8
  replace b2 := cell_kept b2 hB8
  replace hBel := Lib.hid (hBel.out.andThen hB8)
  have z8 := hB8.size
  replace hw := RowI.kept hw hB8
  replace hLL := RowX.kept hLL hB8
  replace hg := RowI.kept hg hB8
  clear hB8
  go_wp2_with fail
  refine (toLineS_any ad ls.length cap ls _ (HL.out.kept hBel.out) hle).mono ?_
  rintro e w9 hr
  obtain ⟨vB, rfl, hBB, hB9⟩ := hr
  obtain ⟨pB, cB, rfl, lB⟩ := RowL.lines hBB
  have tB := RowX.lt hBB
  replace b0 := cell_kept b0 hB9
  replace b1 := cell_kept b1 hB9
  replace b2 := cell_kept b2 hB9
  replace hBel := Lib.hid (hBel.out.andThen hB9)
  have z9 := hB9.size
  replace hw := RowI.kept hw hB9
  replace hLL := RowX.kept hLL hB9
  replace hg := RowI.kept hg hB9
  clear hB9
  clear lB tB
  go_wp2_with fail
  refine (eqLineS_same ls _ _ _ _ _ (by omega) hLL hBB).mono ?_
  rintro e w10 ⟨rfl, hB10⟩
  replace b0 := cell_kept b0 hB10
  replace b1 := cell_kept b1 hB10
  replace b2 := cell_kept b2 hB10
  replace hBel := Lib.hid (hBel.out.andThen hB10)
  have z10 := hB10.size
  replace hw := RowI.kept hw hB10
  replace hLL := RowX.kept hLL hB10
  replace hg := RowI.kept hg hB10
  clear hB10
  clear hBB
  have ow : ∀ k, vw.ownBlock = some k → k < w4.heap.size := fun k hk => (tw k hk).2
  have oL : ∀ k, (Value.slice pL ls.length cL).ownBlock = some k → w4.heap.size ≤ k ∧ k < w5.heap.size := tL
  have og : ∀ k, vg.ownBlock = some k → w6.heap.size ≤ k := fun k hk => (tg k hk).1
  go_wp2_with fail
  refine (markL2 _ _ ls _ (by omega) hLL).mono ?_
  rintro e w11 ⟨rfl, hLm, hgr⟩
  have hw11 := keptOff hw hgr (fun k m hk hm e => by have := ow k hk; have := oL m hm; omega)
  have hg11 := keptOff hg hgr (fun k m hk hm e => by have := og k hk; have := oL m hm; omega)
  have nb : some w.heap.size ≠ (Value.slice pL ls.length cL).ownBlock := fun e => by have := oL _ e.symm; omega
  have d0 := hgr.cell b0 nb
  have d1 := hgr.cell b1 nb
  have d2 := hgr.cell b2 nb
  have hBel11 := Lib.hid (markBel hBel.out hgr (fun k hk => by have := oL k hk; omega))
  have z11 := hgr.size
  clear hLm hgr nb b0 b1 b2 hw hg hBel hLL
  have b0 := d0
  have b1 := d1
  have b2 := d2
  have hw := hw11
  have hg := hg11
  have hBel := hBel11
  clear d0 d1 d2 hw11 hg11 hBel11
  have hn3 : ¬ (1 : Int) + (ls.length : Int) * 3 < 0 := by omega
  go_wp2_with fail
  refine (eqIntS_same xs vg vw _ _ _ hg hw).mono ?_
  rintro e w12 ⟨rfl, hB12⟩
  replace b0 := cell_kept b0 hB12
  replace b1 := cell_kept b1 hB12
  replace b2 := cell_kept b2 hB12
  replace hBel := Lib.hid (hBel.out.andThen hB12)
  have z12 := hB12.size
  replace hw := RowI.kept hw hB12
  replace hg := RowI.kept hg hB12
  clear hB12
  go_wp2_with fail
  refine (mark1 vg _ xs _ hL.out hg).mono ?_
  rintro e w13 ⟨rfl, hgm, hgr⟩
  have hw13 := keptOff hw hgr (fun k m hk hm e => by have := ow k hk; have := og m hm; omega)
  have nb : some w.heap.size ≠ vg.ownBlock := fun e => by have := og _ e.symm; omega
  have d0 := hgr.cell b0 nb
  have d1 := hgr.cell b1 nb
  have d2 := hgr.cell b2 nb
  have hBel13 := Lib.hid (markBel hBel.out hgr (fun k hk => by have := og k hk; omega))
  have z13 := hgr.size
  clear hgr nb b0 b1 b2 hw hg hBel
  have b0 := d0
  have b1 := d1
  have b2 := d2
  have hw := hw13
  have hBel := hBel13
  clear d0 d1 d2 hw13 hBel13
  go_wp2_with fail
  refine (held1 vg _ _ _ hL.out hgm).mono ?_
  rintro e w14 ⟨rfl, hw14⟩
  subst w14
  go_wp2_with fail
  refine (toBoard_any _ _ _ _).mono ?_
  rintro e w15 ⟨rfl, hB15⟩
  replace b0 := cell_kept b0 hB15
  replace b1 := cell_kept b1 hB15
  replace b2 := cell_kept b2 hB15
  replace hBel := Lib.hid (hBel.out.andThen hB15)
  have z15 := hB15.size
  replace hw := RowI.kept hw hB15
  replace hgm := RowI.kept hgm hB15
  clear hB15
  go_wp2_with fail
  refine (toLineS_any ad ls.length cap ls _ (HL.out.kept hBel.out) hle).mono ?_
  rintro e w16 hr
  obtain ⟨vC, rfl, hC, hB16⟩ := hr
  obtain ⟨pC, cC, rfl, lC⟩ := RowL.lines hC
  have tC := RowX.lt hC
  replace b0 := cell_kept b0 hB16
  replace b1 := cell_kept b1 hB16
  replace b2 := cell_kept b2 hB16
  replace hBel := Lib.hid (hBel.out.andThen hB16)
  have z16 := hB16.size
  replace hw := RowI.kept hw hB16
  replace hgm := RowI.kept hgm hB16
  clear hB16
  clear tC
  go_wp2_with fail
  refine (HI.out _ pC cC lC).mono ?_
  rintro e w17 hr
  obtain ⟨vh, rfl, hh, hB17⟩ := hr
  have th := RowI.lt hh
  replace b0 := cell_kept b0 hB17
  replace b1 := cell_kept b1 hB17
  replace b2 := cell_kept b2 hB17
  replace hBel := Lib.hid (hBel.out.andThen hB17)
  have z17 := hB17.size
  replace hw := RowI.kept hw hB17
  replace hgm := RowI.kept hgm hB17
  replace lC := LinesAt.kept lC hB17
  clear hB17
  clear lC hC
  go_wp2_with fail
  refine (eqIntS_same xs vh vw _ _ _ hh hw).mono ?_
  rintro e w18 ⟨rfl, hB18⟩
  replace b0 := cell_kept b0 hB18
  replace b1 := cell_kept b1 hB18
  replace b2 := cell_kept b2 hB18
  replace hBel := Lib.hid (hBel.out.andThen hB18)
  have z18 := hB18.size
  replace hw := RowI.kept hw hB18
  replace hgm := RowI.kept hgm hB18
  replace hh := RowI.kept hh hB18
  clear hB18
  go_wp2_with fail
  refine (held1 vg _ _ _ hL.out hgm).mono ?_
  rintro e w19 ⟨rfl, hw19⟩
  subst w19
  clear hgm hw hh
  go_wp2
  go_ret
  exact ⟨rfl, hBel.out⟩
end Go.Proofs.Ytmnnpfgmdojpmaa
