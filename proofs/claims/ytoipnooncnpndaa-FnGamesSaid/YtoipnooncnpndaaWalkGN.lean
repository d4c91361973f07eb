/-
  The walk of the law FnGames.
-/
import Derived.Test.YtoipnooncnpndaaGameLaw
import Derived.Test.YtoipnooncnpndaaPos
import Derived.Deep.Cut
namespace Go.Proofs.Ytoipnooncnpndaa
open Go.RowKit
open Peg
set_option linter.unusedVariables false
set_option linter.unusedSimpArgs false

def Four (n g o : Nat) (a b c d : Int) (w w' : World) : Prop :=
  w'.cell? ⟨n, 0, none⟩ = some (.int .i64 a) ∧ w'.cell? ⟨n, 1, none⟩ = some (.int .i64 b) ∧ w'.cell? ⟨n, 2, none⟩ = some (.int .i64 c) ∧ w'.cell? ⟨g, o, none⟩ = some (.int .i64 d) ∧ Below w.heap.size w w'
theorem Four.keep {n g o : Nat} {a b c d : Int} {w w' w1 : World} (h : Four n g o a b c d w w') (hb : Below w'.heap.size w' w1) : Four n g o a b c d w w1 :=
  ⟨cell_kept h.1 hb, cell_kept h.2.1 hb, cell_kept h.2.2.1 hb, cell_kept h.2.2.2.1 hb, h.2.2.2.2.andThen hb⟩
theorem pegs_any {W H S P : Nat} (ok : Ok W H S) (hs : P &&& S = P) (w : World) :
    Calls Try.prog 39 #[.agg #[.int .i64 W, .int .i64 H, .int .i64 S], .int .i64 P] w fun e w' => e = .returned (.int .i64 (cnt P (W * H) : Nat)) ∧ Below w.heap.size w w' := by
  have hP : P < 2 ^ 49 := Nat.lt_of_le_of_lt (sub_le hs) ok.lt
  have := specCountPegs_any W H S P (by omega) w
  rw [cnt_pegs ok hs] at this; exact this

set_option maxHeartbeats 1600000 in
set_option maxRecDepth 100000 in
theorem walkFnGames (ad : Option Addr) (len cap : Nat) (w : World) (h : IsCode w ad len) :
    Calls Try.prog 8 #[.slice ad len cap] w fun e w' => e = .returned (.bool true) ∧ Below w.heap.size w w' := by
  have HC := Lib.hid h
  clear h
  by_cases hle : ¬ len ≤ 1048576
  · have hb : decide ((1048576 : Int) < (len : Int)) = true := by simp; omega
    go_enter Try.func8, Try.ntmps8
    go_wp2_with fail
    refine (big_any ad len cap true hb _).mono ?_
    rintro e w1 ⟨rfl, hw1⟩
    subst w1
    go_wp2
    go_ret
    exact ⟨rfl, Below.refl _ _⟩
  have hle : len ≤ 1048576 := by omega
  have hb : decide ((1048576 : Int) < (len : Int)) = false := by simp; omega
  have HLE := Lib.hid hle
  go_enter Try.func8, Try.ntmps8
  go_wp2_with fail
  refine (big_any ad len cap false hb _).mono ?_
  rintro e w1 ⟨rfl, hw1⟩
  subst w1
  clear hb hle
  go_wp2_with fail
  refine (DrawGame_any ad len cap HLE.out _ HC.out).mono ?_
  rintro e w2 hr
  obtain ⟨W, H, S, P, Q, ls, v, ok, hs, hq, hls, hst, rfl, hrow, hB2⟩ := hr
  have fit := gameFit ok hs hq hls hst
  have X2 := BoxAt.new w2 W H S 26
  have b2 := below1 w2 (.cells #[.int .i64 W, .int .i64 H, .int .i64 S] 26)
  have hBel := Lib.hid (hB2.andThen b2)
  obtain ⟨p, cp, rfl, hat⟩ := hrow.lines
  have hat3 := hat.kept b2
  have hP := fit.hP
  have hQ := fit.hQ
  have hplay := fun w (h : LinesAt w p ls) => RetR.yes (PlayAll_any W H S P (by omega) p cp ls (by omega) w h) fit.play
  have hundo := fun w (h : LinesAt w p ls) => RetR.yes (UndoAll_any W H S Q (by omega) p cp ls (by omega) w h) fit.undo
  have hpos := fun w (h : LinesAt w p ls) => PositionsOf_any W H S P (by omega) p cp ls (by omega) w h
  have hsw := fun w (h : LinesAt w p ls) => CountSweeps_any p cp ls (by omega) w h
  have hsol := fun w (h : LinesAt w p ls) => IsSolution_b true W H S P Q (by omega) p cp ls (by omega) (by rw [fit.play]; simp [solB]) w h
  have hsol1 := fun w (h : LinesAt w p ls) => IsSolution_b false W H S P ((Q : Int) + 1) (by omega) p cp ls (by omega) (by rw [fit.play]; simp [solB]; omega) w h
  have hat0 := fit.at0
  have hatJ := fit.atJ
  have hatk := fun k hk => fit.atk k hk
  have hlen := fit.len
  have hw1 := fit.sw
  have hw2 := fit.sw0
  have hw3 := fit.sw1
  obtain ⟨xs, hxs⟩ : ∃ xs, posL W H S P ls = xs := ⟨_, rfl⟩
  rw [hxs] at hpos hat0 hatJ hatk hlen
  obtain ⟨J, hJ⟩ : ∃ J, ls.length = J := ⟨_, rfl⟩
  rw [hJ] at hplay hundo hpos hsw hsol hsol1 hatJ hatk hlen hw1 hw2 hw3 hls
  obtain ⟨Sw, hSw⟩ : ∃ Sw, swp ls J = Sw := ⟨_, rfl⟩
  rw [hSw] at hsw hw1 hw2 hw3
  obtain ⟨n, hn⟩ : ∃ n, w2.heap.size = n := ⟨_, rfl⟩
  rw [hn] at X2
  have HPLAY := Lib.hid hplay
  have HUNDO := Lib.hid hundo
  have HPOS := Lib.hid hpos
  have HSW := Lib.hid hsw
  have HSOL := Lib.hid hsol
  have HSOL1 := Lib.hid hsol1
  have HATK := Lib.hid hatk
  have HOK := Lib.hid ok
  have HS := Lib.hid hs
  have HAT := Lib.hid hat3
  have HAT0 := Lib.hid hat0
  have HATJ := Lib.hid hatJ
  clear hB2 b2 HC ok hs hq hst hrow hat hat3 fit hplay hundo hpos hsw hsol hsol1 hatk hxs hSw hat0 hatJ
  go_wp2_with fail
  (try rw [hn])
  (try rw [hJ])
  generalize w2.alloc (.cells #[.int .i64 W, .int .i64 H, .int .i64 S] 26) = w3 at X2 hBel HAT ⊢
  clear hn
  obtain ⟨b0, b1, b2, bz⟩ := X2
  refine (HPLAY.out _ HAT.out).mono ?_
  rintro e w4 ⟨rfl, hB4⟩
  replace b0 := cell_kept b0 hB4
  replace b1 := cell_kept b1 hB4
  replace b2 := cell_kept b2 hB4
  replace hBel := Lib.hid (hBel.out.andThen hB4)
  replace HAT := Lib.hid (HAT.out.kept hB4)
  clear hB4 bz
  go_wp2_with fail
  refine (HUNDO.out _ HAT.out).mono ?_
  rintro e w5 ⟨rfl, hB5⟩
  replace b0 := cell_kept b0 hB5
  replace b1 := cell_kept b1 hB5
  replace b2 := cell_kept b2 hB5
  replace hBel := Lib.hid (hBel.out.andThen hB5)
  replace HAT := Lib.hid (HAT.out.kept hB5)
  clear hB5
  go_wp2_with fail
  refine (HPOS.out _ HAT.out).mono ?_
  rintro e w6 hr
  obtain ⟨v, rfl, hr1, hB6⟩ := hr
  replace b0 := cell_kept b0 hB6
  replace b1 := cell_kept b1 hB6
  replace b2 := cell_kept b2 hB6
  replace hBel := Lib.hid (hBel.out.andThen hB6)
  replace HAT := Lib.hid (HAT.out.kept hB6)
  clear hB6
  rcases hr1.forms with ⟨h0, q, cq, rfl⟩ | ⟨_, g, cq, rfl, hg1, hg2, _⟩
  · rw [h0] at hlen; simp at hlen
  have hROW := fun j hj => hr1.at j hj
  rw [hlen] at hROW ⊢
  have HROW := Lib.hid hROW
  clear hr1 hROW hg1
  go_wp2_with fail
  refine (HSW.out _ HAT.out).mono ?_
  rintro e w7 ⟨rfl, hB7⟩
  replace b0 := cell_kept b0 hB7
  replace b1 := cell_kept b1 hB7
  replace b2 := cell_kept b2 hB7
  replace hBel := Lib.hid (hBel.out.andThen hB7)
  replace HAT := Lib.hid (HAT.out.kept hB7)
  replace HROW := Lib.hid (show ∀ j, j < J + 1 → w7.cell? ⟨g, j, none⟩ = some (.int .i64 (xs[j]?.getD 0)) from fun j hj => cell_kept (HROW.out j hj) hB7)
  have hgw : g < w7.heap.size := by have := hB7.size; omega
  clear hB7 hg2
  have c0 := HROW.out 0 (by omega)
  have cJ := HROW.out J (by omega)
  rw [HAT0.out] at c0
  rw [HATJ.out] at cJ
  have hJw : IntKind.i64.wrap ((J : Int) + 1) = (J : Int) + 1 := Bit.i64_wrap _ (by omega) (by omega)
  go_wp2_with fail
  refine (HSOL.out _ HAT.out).mono ?_
  rintro e w8 ⟨rfl, hB8⟩
  replace b0 := cell_kept b0 hB8
  replace b1 := cell_kept b1 hB8
  replace b2 := cell_kept b2 hB8
  replace hBel := Lib.hid (hBel.out.andThen hB8)
  replace HAT := Lib.hid (HAT.out.kept hB8)
  replace HROW := Lib.hid (show ∀ j, j < J + 1 → w8.cell? ⟨g, j, none⟩ = some (.int .i64 (xs[j]?.getD 0)) from fun j hj => cell_kept (HROW.out j hj) hB8)
  clear hB8 c0 cJ hgw
  go_wp2_with fail
  go_loopw [12] (fun j wr => ∃ k : Nat, 1 ≤ k ∧ k ≤ J + 1 ∧ j = .int .i64 k ∧ Below w8.heap.size w8 wr) (fun j _ => J + 1 - (intOf j).toNat)
  case atStart => exact ⟨1, by omega, by omega, rfl, Below.refl _ _⟩
  case round =>
    obtain ⟨k, hk1, hk, rfl, hb⟩ := hrel
    replace b0 := cell_kept b0 hb
    replace b1 := cell_kept b1 hb
    replace b2 := cell_kept b2 hb
    by_cases hlt : k < J + 1
    · have hI0 : (0 : Int) ≤ (k : Int) := by omega
      have hI1 : (k : Int) < (J : Int) + 1 := by omega
      have c0 := cell_kept (HROW.out k hlt) hb
      obtain ⟨R, hR, hRs, hRc⟩ := HATK.out k (by omega)
      rw [hR] at c0
      have hgw : g < wr.heap.size := World.block_lt_of_cell? wr _ c0
      have HCR := Lib.hid (pegs_any HOK.out hRs)
      have HCP := Lib.hid (pegs_any HOK.out HS.out)
      have hCb := cnt_le R (W * H)
      have hW49 := HOK.out.area.2
      rw [hRc] at HCP
      obtain ⟨C, hC⟩ : ∃ C, cnt R (W * H) = C := ⟨_, rfl⟩
      rw [hC] at HCR HCP hCb
      have hCw : IntKind.i64.wrap (C : Int) = (C : Int) := Bit.i64_wrap _ (by omega) (by omega)
      have hCk : ((C + k : Nat) : Int) - (k : Int) = (C : Int) := by omega
      obtain ⟨Ck, hCk2⟩ : ∃ Ck : Nat, C + k = Ck := ⟨_, rfl⟩
      rw [hCk2] at HCP hCk
      have hS0 : Four n g k W H S R w8 wr.drew := ⟨b0, b1, b2, c0, hb.drew⟩
      clear hR hRs hRc hC hCk2 hCb hW49
      go_wp2_with fail
      go_cut [102] from 200 (fun c wc => c = .bool false ∧ Below w8.heap.size w8 wc)
      case first =>
        go_region_held3 (fun w' => w'.cell? ⟨n, 0, none⟩ = some (.int .i64 W) ∧ w'.cell? ⟨n, 1, none⟩ = some (.int .i64 H) ∧ w'.cell? ⟨n, 2, none⟩ = some (.int .i64 S) ∧ w'.cell? ⟨g, k, none⟩ = some (.int .i64 R) ∧ Below w8.heap.size w8 w')
          (first | assumption | exact hS0 | exact Four.keep (by assumption) (by assumption))
          (first
            | (go_at_call_of 39 (Value.int .i64 (R : Int)); refine (HCR.out _).mono ?_; rintro e w1 ⟨rfl, hB1⟩)
            | (go_at_call_of 39 (Value.int .i64 (P : Int)); refine (HCP.out _).mono ?_; rintro e w1 ⟨rfl, hB1⟩))
        all_goals go_wp2
        all_goals go_meet
        all_goals (have hfin : Four n g k W H S R w8 w1 := by assumption)
        all_goals exact ⟨rfl, hfin.2.2.2.2⟩
      case rest =>
        obtain ⟨rfl, hbc⟩ := hcut
        go_wp2
        go_roundw
        case rel => exact ⟨k + 1, by omega, by omega, by go_num, hbc⟩
        case measure => simp [intOf]; omega
    · have hI1 : ¬ (k : Int) < (J : Int) + 1 := by omega
      have hQw : IntKind.i64.wrap ((Q : Int) + 1) = (Q : Int) + 1 := Bit.i64_wrap _ (by omega) (by omega)
      have hSJ : (Sw : Int) ≤ (J : Int) := by omega
      replace hBel := Lib.hid (hBel.out.andThen hb)
      replace HAT := Lib.hid (HAT.out.kept hb)
      clear hb
      by_cases hJ0 : J = 0
      · have hSw0 := hw2 hJ0
        subst hJ0 hSw0
        clear hw1 hw2 hw3
        go_wp2_with fail
        refine (HSOL1.out _ HAT.out).mono ?_
        rintro e w9 ⟨rfl, hB9⟩
        replace hBel := Lib.hid (hBel.out.andThen hB9)
        clear hB9
        go_wp2
        go_ret
        exact ⟨rfl, hBel.out⟩
      · have hSw0 := hw3 hJ0
        have e1 : ((Sw : Int) == 0) = false := by simp; omega
        have e2 : ((J : Int) == 0) = false := by simp; omega
        clear hw1 hw2 hw3
        go_wp2_with fail
        refine (HSOL1.out _ HAT.out).mono ?_
        rintro e w9 ⟨rfl, hB9⟩
        replace hBel := Lib.hid (hBel.out.andThen hB9)
        clear hB9
        go_wp2
        go_ret
        exact ⟨rfl, hBel.out⟩
end Go.Proofs.Ytoipnooncnpndaa
