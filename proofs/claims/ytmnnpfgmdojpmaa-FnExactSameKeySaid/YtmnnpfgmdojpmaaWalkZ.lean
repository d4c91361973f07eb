/-
  The walks of spec.ClassOf.
-/
import Derived.Test.YtmnnpfgmdojpmaaWalkY
namespace Go.Proofs.Ytmnnpfgmdojpmaa
open Go.RowKit
open Peg
set_option linter.unusedVariables false

theorem setN_area {W H S P k : Nat} (ok : Ok W H S) (hP : P &&& S = P) (h : k ∈ setN P 49) : k < W * H := by
  by_cases hk : k < W * H
  · exact hk
  · have h1 := (setN_lt h).2
    have hPlt : P < 2 ^ (W * H) := Nat.lt_of_le_of_lt (sub_le hP) ok.s2
    rw [Nat.testBit_lt_two_pow (Nat.lt_of_lt_of_le hPlt (Nat.pow_le_pow_right (by decide) (by omega)))] at h1
    cases h1

theorem specClassOf_no (a h s q : Int) (hq : q < 2 ^ 63) (h1 : pOk a h s q = false) (w : World) :
    Calls Try.prog 18 #[.agg #[.int .i64 a, .int .i64 h, .int .i64 s], .int .i64 q] w (RetI w []) := by
  go_enter Try.func18, Try.ntmps18
  go_wp2_with fail
  refine (specPositionOk_b _ _ _ _ _ hq h1 _).mono ?_
  rintro e w1 ⟨rfl, hB1⟩
  go_wp2
  go_ret
  exact ⟨_, rfl, World.ownsRow_made w1 #[] 0 (by have := hB1.size; simp at this; omega) (by decide) rfl, ((below1 _ _).andThen hB1).more _⟩

set_option maxHeartbeats 1600000 in
set_option maxRecDepth 100000 in
theorem specClassOf_yes (W H S P : Nat) (ok : Ok W H S) (hP : P < 2 ^ 49) (hPS : P &&& S = P) (h1 : pOk W H S P = true) (w : World) :
    Calls Try.prog 18 #[.agg #[.int .i64 W, .int .i64 H, .int .i64 S], .int .i64 P] w (RetI w (clsL W (setN P 49))) := by
  obtain ⟨i0, hi, hz0, hz1, hz2⟩ := info_parts info_int
  have hhs : bitsTo P 49 = (setN P 49).map (fun i : Nat => (i : Int)) := rfl
  have hlt := fun k (h : k ∈ setN P 49) => setN_area ok hPS h
  have hbd := fun k (h : k < W * H) => mod_bd7 ok h
  have hw1 : (1 : Int) ≤ (W : Int) := by have := ok.w1; omega
  have hw7 : (W : Int) ≤ 7 := by have := ok.w7; omega
  have har := ok.area
  generalize setN P 49 = hs at hhs hlt ⊢
  have HHS := Lib.hid hhs
  have HLT := Lib.hid hlt
  have HBD := Lib.hid hbd
  have H1 := Lib.hid h1
  clear hhs hlt hbd h1 ok hPS
  go_enter Try.func18, Try.ntmps18
  have X0 := BoxAt.new w W H S 33
  obtain ⟨b0, b1, b2, bz⟩ := X0
  clear bz
  go_wp2_with fail
  refine (specPositionOk_b true _ _ _ _ (by omega) H1.out _).mono ?_
  rintro e w1 ⟨rfl, hB1⟩
  replace b0 := cell_keptA b0 hB1
  replace b1 := cell_keptA b1 hB1
  replace b2 := cell_keptA b2 hB1
  have hBel1 := (below1 w (.cells #[.int .i64 W, .int .i64 H, .int .i64 S] 33)).andThen hB1
  have hsz1 := hB1.size
  simp at hsz1
  clear hB1
  go_wp2_with (at_make; refine wpList_make_full _ rfl _ _ 31 rfl w1.heap.size 3 i0 (.int .i64 0) 1 Try.underlying31 hi hz0 hz1 _ _ _ _ 6 rfl rfl rfl rfl ?c1 ?c2 ?c3 ?_)
  case c1 => rw [hz2]; omega
  case c2 => unfold maxLen; omega
  case c3 => omega
  intro ws hown hgr
  rw [made1] at hown
  have R0 : RowI ws w1.heap.size (.slice (some ⟨w1.heap.size, 0, none⟩) 6 6) zero6 := hown
  have hbl := bound_below hgr (Nat.le_refl _) (fun k hk => by simp at hk)
  replace b0 := cell_keptA b0 hbl
  replace b1 := cell_keptA b1 hbl
  replace b2 := cell_keptA b2 hbl
  have hBel2 := hBel1.andThen hbl
  have hszs := hbl.size
  clear hown hgr hbl hBel1
  go_wp2_with fail
  refine (l02List_any P (by omega) _).mono ?_
  rintro e w2 hr
  obtain ⟨v, rfl, hr1, hB2⟩ := hr
  rw [HHS.out] at hr1
  have R1 := R0.kept hB2
  replace b0 := Lib.hid (cell_keptA b0 hB2)
  replace b1 := Lib.hid (cell_keptA b1 hB2)
  replace b2 := Lib.hid (cell_keptA b2 hB2)
  have hBel3 := Lib.hid (hBel2.andThen hB2)
  have hsz2 := hB2.size
  have hgsz := R0.lt w1.heap.size (by simp [Value.ownBlock])
  clear R0 hBel2 hB2
  have hml : (hs.map (fun i : Nat => (i : Int))).length = hs.length := List.length_map _
  rcases hr1.forms with ⟨h0, p, cap, rfl⟩ | ⟨hx, g, cap, rfl, hgB, hgs⟩
  · have hh0 : hs = [] := List.map_eq_nil_iff.1 h0
    subst hh0
    go_wp2_with fail
    refine wp_loop_rounds 1 ?_
    rw [rounds_succ]
    go_wp2
    go_ret
    exact ⟨_, rfl, R1.le (by omega), hBel3.out⟩
  · rw [hml] at hx hgs ⊢
    go_wp2_with fail
    go_loopw [7] (fun j wr => ∃ k : Nat, k ≤ hs.length ∧ j = .int .i64 k ∧ RowI wr w1.heap.size (.slice (some ⟨w1.heap.size, 0, none⟩) 6 6) (clsL W (hs.take k)) ∧ w2.grownBy wr (some w1.heap.size)) (fun j _ => hs.length - (intOf j).toNat)
    case atStart => exact ⟨0, by omega, rfl, R1, World.grownBy.refl _ _⟩
    case round =>
      obtain ⟨k, hk, rfl, hrow, hgw⟩ := hrel
      by_cases hlt : k < hs.length
      · obtain ⟨K, hK⟩ : ∃ K, hs[k] = K := ⟨_, rfl⟩
        have hKs : hs[k]? = some K := by rw [← hK]; simp [hlt]
        have hmem : K ∈ hs := by rw [← hK]; exact List.getElem_mem hlt
        have hK49 := HLT.out K hmem
        obtain ⟨X, Y, m1, m2, hX, hY, hX6, hY6⟩ := HBD.out K hK49
        have hK48 : K ≤ 48 := by omega
        have hc := RowI.at (RowI.keptBut hr1 hgw (fun k hk e => by simp [Value.ownBlock] at hk e; omega)) k (by rw [hml]; exact hlt)
        have hmk : (hs.map (fun i : Nat => (i : Int)))[k]?.getD 0 = (K : Int) := by simp [hKs]
        have Hks := Lib.hid hKs
        have hcK : wr.cell? ⟨g, k, none⟩ = some (.int .i64 (K : Int)) := by simpa [hKs] using hc
        have c0 := hgw.cell b0.out (by simp; omega)
        clear hK hKs hmem hc hmk
        have hI0 : (0 : Int) ≤ (k : Int) := by omega
        have hI1 : (k : Int) < (hs.length : Int) := by omega
        go_wp2_with fail
        go_quiet (fail)
        have hbd0 : Below wr.heap.size wr (wr.drewN nq) := Joins.below_draws _ _ _
        replace hrow := hrow.kept hbd0
        replace hgw := grown_trans hgw (grown_any hbd0 _)
        replace hcK := cell_keptA hcK hbd0
        replace c0 := cell_keptA c0 hbd0
        generalize wr.drewN nq = wr at *
        clear hbd0
        go_wp2_with fail
        go_quiet (fail)
        have hbd : Below wr.heap.size wr (wr.drewN nq) := Joins.below_draws _ _ _
        have hrow2 := hrow.kept hbd
        have hgw2 := grown_trans hgw (grown_any hbd _)
        generalize wr.drewN nq = wd at *
        clear hrow hgw hbd hcK c0
        obtain ⟨xs, hxs⟩ : ∃ xs, clsL W (hs.take k) = xs := ⟨_, rfl⟩
        have hbin : Bin xs := by rw [← hxs]; exact bin_cls _ _
        rw [hxs] at hrow2
        have Hxs := Lib.hid hxs
        clear hxs
        obtain ⟨I1, hI1, hJ1⟩ : ∃ I : Nat, ((X : Int) + (Y : Int)) % 3 = I ∧ (X + Y) % 3 = I := ⟨_, by omega, rfl⟩
        obtain ⟨I2, hI2, hJ2⟩ : ∃ I : Nat, (3 : Int) + ((X : Int) + 2 * (Y : Int)) % 3 = I ∧ 3 + (X + 2 * Y) % 3 = I := ⟨_, by omega, rfl⟩
        have hne : I1 ≠ I2 := by omega
        have hne2 : I2 ≠ I1 := by omega
        obtain ⟨u1, hu1⟩ : ∃ u, xs[I1]?.getD 0 = u := ⟨_, rfl⟩
        obtain ⟨u2, hu2⟩ : ∃ u, (tog xs I1)[I2]?.getD 0 = u := ⟨_, rfl⟩
        obtain ⟨S1, S2, k1, k2, f1, f2, x1, x2, y1, y2⟩ := tog_two hrow2 hbin (I1 := I1) (I2 := I2) (by omega) (by omega) hne hu1 hu2
        have hgw3 := Lib.hid (grown_trans (grown_trans hgw2 S1) S2.2)
        have hr3 := Lib.hid S2.1
        have HJ := Lib.hid (And.intro hJ1 hJ2)
        clear S1 S2 hrow2 hgw2 hbin hu1 hu2 hJ1 hJ2
        go_wp2
        go_roundw
        case rel =>
          refine ⟨k + 1, by omega, by go_num, ?_, hgw3.out⟩
          rw [cls_take Hks.out, Hxs.out]
          unfold clsStep
          rw [m1, m2, HJ.out.1, HJ.out.2]
          exact hr3.out
        case measure => simp [intOf]; omega
      · have hge : k = hs.length := by omega
        go_wp2
        go_ret
        rw [hge, List.take_length] at hrow
        exact ⟨_, rfl, hrow.le (by omega), hBel3.out.trans (bound_below hgw (by omega) (fun j hj => by simp at hj; omega))⟩
end Go.Proofs.Ytmnnpfgmdojpmaa
