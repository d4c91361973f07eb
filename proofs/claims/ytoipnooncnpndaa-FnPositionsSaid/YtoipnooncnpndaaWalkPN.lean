/-
  The walk of the law FnPositions.
-/
import Derived.Test.YtoipnooncnpndaaPosLaw
import Derived.Test.YtoipnooncnpndaaPos
import Derived.Test.YtoipnooncnpndaaSix
import Derived.Deep.Cut
namespace Go.Proofs.Ytoipnooncnpndaa
open Go.RowKit
open Peg
set_option linter.unusedVariables false
set_option linter.unusedSimpArgs false

/-- The contracts that the law leans on, at a board, a position and a hole. -/
structure PosCalls (W H S P K ON OFF T F C : Nat) : Prop where
  seton : ∀ w, Calls Try.prog 28 #[.agg #[.int .i64 W, .int .i64 H, .int .i64 S], .int .i64 P, .int .i64 K, .bool true] w fun e w' => e = .returned (.tuple #[.int .i64 ON, .bool true]) ∧ Below w.heap.size w w'
  setoff : ∀ w, Calls Try.prog 28 #[.agg #[.int .i64 W, .int .i64 H, .int .i64 S], .int .i64 P, .int .i64 K, .bool false] w fun e w' => e = .returned (.tuple #[.int .i64 OFF, .bool true]) ∧ Below w.heap.size w w'
  hason : ∀ w, Calls Try.prog 30 #[.agg #[.int .i64 W, .int .i64 H, .int .i64 S], .int .i64 ON, .int .i64 K] w fun e w' => e = .returned (.bool true) ∧ Below w.heap.size w w'
  hasoff : ∀ w, Calls Try.prog 30 #[.agg #[.int .i64 W, .int .i64 H, .int .i64 S], .int .i64 OFF, .int .i64 K] w fun e w' => e = .returned (.bool false) ∧ Below w.heap.size w w'
  count : ∀ w, Calls Try.prog 31 #[.agg #[.int .i64 W, .int .i64 H, .int .i64 S], .int .i64 P] w fun e w' => e = .returned (.int .i64 C) ∧ Below w.heap.size w w'
  full : ∀ w, Calls Try.prog 32 #[.agg #[.int .i64 W, .int .i64 H, .int .i64 S], .int .i64 K] w fun e w' => e = .returned (.int .i64 F) ∧ Below w.heap.size w w'
  single : ∀ w, Calls Try.prog 33 #[.agg #[.int .i64 W, .int .i64 H, .int .i64 S], .int .i64 K] w fun e w' => e = .returned (.int .i64 T) ∧ Below w.heap.size w w'
  ok : ∀ w, Calls Try.prog 34 #[.agg #[.int .i64 W, .int .i64 H, .int .i64 S], .int .i64 P] w fun e w' => e = .returned (.bool true) ∧ Below w.heap.size w w'
  one : ∀ w, Calls Try.prog 31 #[.agg #[.int .i64 W, .int .i64 H, .int .i64 S], .int .i64 T] w fun e w' => e = .returned (.int .i64 1) ∧ Below w.heap.size w w'
  wrapT : IntKind.i64.wrap (2 ^ K) = (T : Int)
  wrapT2 : wrap64 (2 ^ K) = (T : Int)
  sumON : (OFF : Int) + T = ON
  sumS : (F : Int) + T = S
  small : ON < 2 ^ 49 ∧ OFF < 2 ^ 49 ∧ T < 2 ^ 49 ∧ F < 2 ^ 49 ∧ S < 2 ^ 49
  one2 : P = ON ∨ P = OFF
  pos : 1 ≤ T

theorem posCalls {W H S P K : Nat} (ok : Ok W H S) (hs : P &&& S = P) (hK : K < W * H) (hb : S.testBit K = true) :
    PosCalls W H S P K (P ||| 2 ^ K) (Bit.diff P (2 ^ K)) (2 ^ K) (S - 2 ^ K) (cnt P (W * H)) := by
  have ha := ok.area
  have hK48 : K ≤ 48 := by omega
  have hf := pegFit ok hs hK48 hb
  have hS := ok.lt
  have hP : P < 2 ^ 49 := Nat.lt_of_le_of_lt (sub_le hs) ok.lt
  have hp : pOk W H S P = true := (pOk_iff ok _).2 ⟨P, rfl, hs⟩
  have hh : hasB W H S K = true := (hasB_iff ok _).2 ⟨K, rfl, hK, hb⟩
  have h2 : 2 ^ K ≤ S := Nat.ge_two_pow_of_testBit hb
  have hoff : Bit.diff P (2 ^ K) < 2 ^ 49 := Nat.lt_of_le_of_lt (Bit.diff_le _ _) hP
  have hT : 2 ^ K < 2 ^ 49 := Nat.pow_lt_pow_right (by decide) (by omega)
  have hpT : pOk W H S (2 ^ K : Nat) = true := (pOk_iff ok _).2 ⟨2 ^ K, rfl, single_sub hb⟩
  refine ⟨fun w => SetPeg_true _ _ _ P K (by omega) hK48 w hp hh, fun w => SetPeg_false _ _ _ P K (by omega) hK48 w hp hh, fun w => HasPeg_b true _ _ _ _ _ (by have := hf.lt; omega) ?_ w, fun w => HasPeg_b false _ _ _ _ _ (by omega) ?_ w, fun w => ?_, fun w => ?_, fun w => ?_,
    fun w => PositionOk_b true _ _ _ _ (by omega) hp w, fun w => ?_, ?_, ?_, ?_, ?_, ⟨hf.lt, hoff, hT, Nat.lt_of_le_of_lt (Nat.sub_le _ _) hS, hS⟩, hf.one, Nat.two_pow_pos K⟩
  · unfold hasP; rw [hf.ond, hh]; simp
  · unfold hasP; rw [hf.offd, hh]; simp [Bit.testBit_diff]
  · have := CountPegs_any W H S P (by omega) w; rw [cnt_pegs ok hs] at this; exact this
  · have := FullBut_any W H S K w
    unfold fullF at this; rw [hh] at this; simp only [if_true, Int.toNat_natCast] at this
    rw [show ((S : Int) - 2 ^ K) = ((S - 2 ^ K : Nat) : Int) from by rw [cast_pow]; omega] at this
    exact this
  · have := SinglePeg_any W H S K w
    unfold singleF at this; rw [hh] at this; simp only [if_true, Int.toNat_natCast] at this
    rw [cast_pow] at this
    exact this
  · have := CountPegs_any W H S (2 ^ K : Nat) (by omega) w; rw [single_count ok hK hb] at this; exact this
  · exact pow_wrap K hK48
  · rw [wrap_pow K (by omega), cast_pow]
  · have := hf.sum; omega
  · omega
theorem holes_some {W H S : Nat} (ok : Ok W H S) : 0 < (holesL W H S).length := by
  obtain ⟨i, hi⟩ := Nat.exists_testBit_of_ne_zero (show S ≠ 0 by have := ok.s1; omega)
  have hlt : i < W * H := by
    apply Classical.byContradiction
    intro hn
    rw [Nat.testBit_lt_two_pow (Nat.lt_of_lt_of_le ok.s2 (Nat.pow_le_pow_right (by decide) (by omega)))] at hi
    cases hi
  rw [cnt_holes ok]
  unfold cnt
  exact List.length_pos_of_mem (a := i) (by rw [List.mem_filter, List.mem_range]; exact ⟨hlt, hi⟩)
theorem ne_of_sum {P ON OFF T : Nat} (h : P = OFF) (h2 : (OFF : Int) + T = ON) (h3 : 1 ≤ T) : ¬ (P : Int) = (ON : Int) := by omega
theorem val_cast {a : Int} {b : Nat} (h : a = (b : Int)) : Value.int .i64 a = Value.int .i64 (b : Int) := by rw [h]

set_option maxHeartbeats 6400000 in
set_option maxRecDepth 100000 in
theorem walkFnPositions (ad : Option Addr) (len cap : Nat) (w : World) (h : IsCode w ad len) :
    Calls Try.prog 5 #[.slice ad len cap] w fun e w' => e = .returned (.bool true) ∧ Below w.heap.size w w' := by
  have HC := Lib.hid h
  clear h
  by_cases hle : ¬ len ≤ 1048576
  · have hb : decide ((1048576 : Int) < (len : Int)) = true := by simp; omega
    go_enter Try.func5, Try.ntmps5
    go_wp2_with fail
    refine (big_any ad len cap true hb _).mono ?_
    rintro e w1 ⟨rfl, hw1⟩
    subst w1
    go_wp2
    go_ret
    exact ⟨rfl, Below.refl _ _⟩
  have hle : len ≤ 1048576 := by omega
  have hb : decide ((1048576 : Int) < (len : Int)) = false := by simp; omega
  have HLE := Lib.hid hle
  go_enter Try.func5, Try.ntmps5
  go_wp2_with fail
  refine (big_any ad len cap false hb _).mono ?_
  rintro e w1 ⟨rfl, hw1⟩
  subst w1
  clear hb hle
  go_wp2_with fail
  refine (DrawPosition_any ad len cap HLE.out _ HC.out).mono ?_
  rintro e w2 ⟨W, H, S, P, ok, hs, rfl, hB2⟩
  have X2 := BoxAt.new w2 W H S 26
  have b2 := below1 w2 (.cells #[.int .i64 W, .int .i64 H, .int .i64 S] 26)
  have hC3 := Lib.hid ((HC.out.kept hB2).kept b2)
  have hBel := Lib.hid (hB2.andThen b2)
  have HOK := Lib.hid ok
  have HS := Lib.hid hs
  obtain ⟨n, hn⟩ : ∃ n, w2.heap.size = n := ⟨_, rfl⟩
  rw [hn] at X2
  clear hB2 b2 HC ok hs
  go_wp2_with fail
  generalize w2.alloc (.cells #[.int .i64 W, .int .i64 H, .int .i64 S] 26) = w3 at X2 hC3 hBel ⊢
  clear hn
  refine (specHolesOf_any _ _ _ _).mono ?_
  rintro e w4 hr
  obtain ⟨v, rfl, hr1, hB4⟩ := hr
  have HAT := Lib.hid (fun j hj => hole_at HOK.out j hj)
  have hLpos := holes_some HOK.out
  have hLc := cnt_holes HOK.out
  have hL49 := holesL_short W H S
  rcases hr1.forms with ⟨h0, q, cp, rfl⟩ | ⟨_, g, cp, rfl, hg1, hg2, _⟩
  · rw [h0] at hLpos; simp at hLpos
  obtain ⟨xs, hxs⟩ : ∃ xs, holesL W H S = xs := ⟨_, rfl⟩
  rw [hxs] at hr1 HAT hLpos hLc hL49 ⊢
  have HROW := Lib.hid (fun j hj => hr1.at j hj)
  obtain ⟨L, hL⟩ : ∃ L, xs.length = L := ⟨_, rfl⟩
  rw [hL] at HROW HAT hLpos hLc hL49 ⊢
  have HLC := Lib.hid hLc
  have X4 := X2.below hB4
  replace hBel := Lib.hid (hBel.out.andThen hB4)
  have hC4 := Lib.hid (hC3.out.kept hB4)
  clear hr1 hB4 hL X2 hC3 hLc hxs hg1
  obtain ⟨b0, b1, b2, bz⟩ := X4
  go_wp2_with fail
  refine (at_any ad len cap 0 (by decide) (by decide) _ hC4.out HLE.out).mono ?_
  rintro e w5 ⟨x, hx, rfl, hw5⟩
  subst w5
  obtain ⟨r, hr⟩ : ∃ r : Nat, x % L = r := ⟨_, rfl⟩
  have hrL : r < L := by rw [← hr]; exact Nat.mod_lt _ hLpos
  have hr1 : (x : Int) % (L : Int) = (r : Int) := by rw [← hr]; rfl
  have hr2 : (x : Int).tmod (L : Int) = (r : Int) := by rw [Int.tmod_eq_emod_of_nonneg (by omega)]; exact hr1
  have hr3 : (0 : Int) ≤ (r : Int) := by omega
  have hr4 : (r : Int) < (L : Int) := by omega
  have hr5 : ¬ (L : Int) = 0 := by omega
  have hww : IntKind.i64.wrap (r : Int) = (r : Int) := Bit.i64_wrap _ (by omega) (by omega)
  obtain ⟨K, hK0, hKW, hK48, hKb⟩ := HAT.out r hrL
  have hcell := HROW.out r hrL
  rw [hK0] at hcell
  have PC := posCalls HOK.out HS.out hKW hKb
  obtain ⟨ON, hON⟩ : ∃ ON, P ||| 2 ^ K = ON := ⟨_, rfl⟩
  obtain ⟨OFF, hOFF⟩ : ∃ OFF, Bit.diff P (2 ^ K) = OFF := ⟨_, rfl⟩
  obtain ⟨F, hF⟩ : ∃ F, S - 2 ^ K = F := ⟨_, rfl⟩
  obtain ⟨T, hT⟩ : ∃ T, 2 ^ K = T := ⟨_, rfl⟩
  obtain ⟨C, hC⟩ : ∃ C, cnt P (W * H) = C := ⟨_, rfl⟩
  rw [hON, hOFF, hF, hT, hC] at PC
  have HPC := Lib.hid PC
  have HC := Lib.hid hC
  have HTX := Lib.hid (fun y hy => text_row HOK.out HS.out y hy)
  have HTL := Lib.hid (text_len HOK.out HS.out)
  have hP63 : P < 2 ^ 63 := Nat.lt_trans (Nat.lt_of_le_of_lt (sub_le HS.out) HOK.out.lt) (by decide)
  have HPT := Lib.hid (fun w => PositionText_any W H S P (by omega) w)
  clear hr hK0 PC hON hOFF hF hT hC hKb hP63
  go_wp2_with fail
  refine (HPC.out.seton _).mono ?_
  rintro e w5 ⟨rfl, hB5⟩
  replace b0 := cell_kept b0 hB5
  replace b1 := cell_kept b1 hB5
  replace b2 := cell_kept b2 hB5
  replace hBel := Lib.hid (hBel.out.andThen hB5)
  clear hB5 hcell hr1 hr2 hr3 hr4 hww bz
  go_wp2_with fail
  refine (HPC.out.setoff _).mono ?_
  rintro e w6 ⟨rfl, hB6⟩
  replace b0 := cell_kept b0 hB6
  replace b1 := cell_kept b1 hB6
  replace b2 := cell_kept b2 hB6
  replace hBel := Lib.hid (hBel.out.andThen hB6)
  clear hB6
  go_wp2_with fail
  refine (HPT.out _).mono ?_
  rintro e w7 hr
  obtain ⟨v, rfl, hr1, hB7⟩ := hr
  replace b0 := cell_kept b0 hB7
  replace b1 := cell_kept b1 hB7
  replace b2 := cell_kept b2 hB7
  replace hBel := Lib.hid (hBel.out.andThen hB7)
  have hH1 := HOK.out.h1
  have hH7 := HOK.out.h7
  have hW1 := HOK.out.w1
  have hW7 := HOK.out.w7
  clear hB7
  rcases hr1.forms with ⟨h0, q, cp2, rfl⟩ | ⟨_, g2, cp2, rfl, hg3, hg4, _⟩
  · have := HTL.out; rw [h0] at this; simp at this; omega
  have HRT := Lib.hid (fun y hy => hr1.at y hy)
  rw [HTL.out] at HRT ⊢
  clear hr1 hg3
  have HPL := Lib.hid (fun Y X (hY : Y < H) (hX : X ≤ W) => place_lt HOK.out hY hX)
  go_wp2_with fail
  go_loopw [12, 13, 14] (fun p q y wr => ∃ Y : Nat, Y ≤ H ∧ y = .int .i64 Y ∧ p = .int .i64 (cnt P (Y * W) : Nat) ∧ q = .int .i64 (cnt S (Y * W) : Nat) ∧ wr = w7) (fun _ _ y _ => H - (intOf y).toNat)
  case atStart => exact ⟨0, by omega, rfl, by simp [cnt_zero], by simp [cnt_zero], rfl⟩
  case round =>
    obtain ⟨Y, hY, rfl, rfl, rfl, hwr⟩ := hrel
    subst wr
    obtain ⟨CP, hCP⟩ : ∃ CP, cnt P (Y * W) = CP := ⟨_, rfl⟩
    obtain ⟨CS, hCS⟩ : ∃ CS, cnt S (Y * W) = CS := ⟨_, rfl⟩
    rw [hCP, hCS]
    have HCP := Lib.hid hCP
    have HCS := Lib.hid hCS
    clear hCP hCS
    by_cases hlt : Y < H
    · have hI0 : (0 : Int) ≤ (Y : Int) := by omega
      have hI1 : (Y : Int) < (H : Int) := by omega
      have hcell := HRT.out Y hlt
      obtain ⟨s, hs, hsz, hch⟩ := HTX.out Y hlt
      rw [hs] at hcell
      have HCH := Lib.hid hch
      clear hs hch
      go_wp2_with fail
      go_loopw [12, 13, 15] (fun p q x wr => ∃ X : Nat, X ≤ W ∧ x = .int .i64 X ∧ p = .int .i64 (cnt P (Y * W + X) : Nat) ∧ q = .int .i64 (cnt S (Y * W + X) : Nat) ∧ wr = w7) (fun _ _ x _ => W - (intOf x).toNat)
      case atStart => exact ⟨0, by omega, rfl, by rw [Nat.add_zero, HCP.out], by rw [Nat.add_zero, HCS.out], rfl⟩
      case round =>
        obtain ⟨X, hX, rfl, rfl, rfl, hwr⟩ := hrel
        subst wr
        clear HCP HCS
        have hpl := HPL.out Y X hlt hX
        have hp1 := cnt_le P (Y * W + X)
        have hp2 := cnt_le S (Y * W + X)
        obtain ⟨DP, hDP⟩ : ∃ DP, cnt P (Y * W + X) = DP := ⟨_, rfl⟩
        obtain ⟨DS, hDS⟩ : ∃ DS, cnt S (Y * W + X) = DS := ⟨_, rfl⟩
        have HDP := Lib.hid hDP
        have HDS := Lib.hid hDS
        rw [hDP] at hp1
        rw [hDS] at hp2
        rw [hDP, hDS]
        have hDP49 : DP ≤ 49 := by omega
        have hDS49 : DS ≤ 49 := by omega
        clear hDP hDS hp1 hp2 hpl
        by_cases hxt : X < W
        · have hJ0 : (0 : Int) ≤ (X : Int) := by omega
          have hJ1 : (X : Int) < (W : Int) := by omega
          have hXs : X < s.size := by omega
          have hJ2 : (X : Int) < (s.size : Int) := by omega
          have hchr := HCH.out X hXs
          cases hp : P.testBit (Y * W + X)
          · cases hsb : S.testBit (Y * W + X)
            · rw [chr_gap hp hsb] at hchr
              have N1 := Lib.hid ((cnt_no hp).trans HDP.out)
              have N2 := Lib.hid ((cnt_no hsb).trans HDS.out)
              clear hp hsb
              go_wp2_with (go_at_call 29; refine (btoi_any _ _).mono ?_; rintro e wq ⟨rfl, hwq⟩; subst wq)
              go_roundw
              case rel => exact ⟨X + 1, by omega, by go_num, val_cast (by rw [show Y * W + (X + 1) = Y * W + X + 1 from rfl, N1.out] <;> go_num), val_cast (by rw [show Y * W + (X + 1) = Y * W + X + 1 from rfl, N2.out] <;> go_num), by first | rfl | trivial⟩
              case measure => simp [intOf]; omega
            · rw [chr_dot hp hsb] at hchr
              have N1 := Lib.hid ((cnt_no hp).trans HDP.out)
              have N2 := Lib.hid ((cnt_yes hsb).trans (by rw [HDS.out]))
              clear hp hsb
              go_wp2_with (go_at_call 29; refine (btoi_any _ _).mono ?_; rintro e wq ⟨rfl, hwq⟩; subst wq)
              go_roundw
              case rel => exact ⟨X + 1, by omega, by go_num, val_cast (by rw [show Y * W + (X + 1) = Y * W + X + 1 from rfl, N1.out] <;> go_num), val_cast (by rw [show Y * W + (X + 1) = Y * W + X + 1 from rfl, N2.out] <;> go_num), by first | rfl | trivial⟩
              case measure => simp [intOf]; omega
          · have hsb := sub_bit HS.out hp
            rw [chr_peg hp] at hchr
            have N1 := Lib.hid ((cnt_yes hp).trans (by rw [HDP.out]))
            have N2 := Lib.hid ((cnt_yes hsb).trans (by rw [HDS.out]))
            clear hp hsb
            go_wp2_with (go_at_call 29; refine (btoi_any _ _).mono ?_; rintro e wq ⟨rfl, hwq⟩; subst wq)
            go_roundw
            case rel => exact ⟨X + 1, by omega, by go_num, val_cast (by rw [show Y * W + (X + 1) = Y * W + X + 1 from rfl, N1.out] <;> go_num), val_cast (by rw [show Y * W + (X + 1) = Y * W + X + 1 from rfl, N2.out] <;> go_num), by first | rfl | trivial⟩
            case measure => simp [intOf]; omega
        · have hJ1 : ¬ (X : Int) < (W : Int) := by omega
          have hJ2 : ¬ (X : Int) < (s.size : Int) := by omega
          obtain rfl : X = W := by omega
          have N1 := Lib.hid (show cnt P ((Y + 1) * X) = DP by rw [Nat.succ_mul]; exact HDP.out)
          have N2 := Lib.hid (show cnt S ((Y + 1) * X) = DS by rw [Nat.succ_mul]; exact HDS.out)
          go_wp2
          go_roundw
          case rel => exact ⟨Y + 1, by omega, by go_num, val_cast (by rw [N1.out]), val_cast (by rw [N2.out]), by first | rfl | trivial⟩
          case measure => simp [intOf]; omega
    · have hI1 : ¬ (Y : Int) < (H : Int) := by omega
      obtain rfl : Y = H := by omega
      have e1 : CP = C := by rw [← HCP.out, ← HC.out, Nat.mul_comm]
      have e2 : CS = L := by rw [← HCS.out, HLC.out, Nat.mul_comm]
      subst e1 e2
      clear HCP HCS HTX HTL HPT HRT HPL hg4 HROW HAT hlt hY hH1 hH7 hW1 hW7
      have hsm := HPC.out.small
      have hT := HPC.out.wrapT
      have hsON := HPC.out.sumON
      have hsS := HPC.out.sumS
      obtain ⟨hs1, hs2, hs3, hs4, hs5⟩ := hsm
      have hT2 := HPC.out.wrapT2
      have hpos := HPC.out.pos
      have hS0 : Three n W Y S w7 w7.drew := ⟨b0, b1, b2, (Below.refl _ _).drew⟩
      simp only [show (2 ^ 49 : Nat) = 562949953421312 from rfl] at hs1 hs2 hs3 hs4 hs5
      have hwON : IntKind.i64.wrap (ON : Int) = (ON : Int) := Bit.i64_wrap _ (by omega) (by omega)
      have hwS : IntKind.i64.wrap (S : Int) = (S : Int) := Bit.i64_wrap _ (by omega) (by omega)
      clear HC HLC HS hC4 hg2 hKW
      rcases HPC.out.one2 with hP | hP
      · obtain rfl : ON = P := hP.symm
        go_wp2_with fail
        refine wp_region_held_drew (S := (fun w' => w'.cell? ⟨n, 0, none⟩ = some (.int .i64 W) ∧ w'.cell? ⟨n, 1, none⟩ = some (.int .i64 Y) ∧ w'.cell? ⟨n, 2, none⟩ = some (.int .i64 S) ∧ Below w7.heap.size w7 w')) (by kernel_rfl) hS0 (fun hHeld => ?_)
        (try dsimp only at hHeld)
        refine takeD (i := 0) (d := some 85) (v := .bool true) rfl (by kernel_rfl) (by kernel_rfl) (by kernel_rfl) rfl (fun _ _ _ h => h) (Or.inl ⟨by kernel_rfl, fun w1 hS1 => by rfl⟩) hHeld ?_
        (try simp only [Act.put, List.setIfInBounds_toArray, List.set_cons_zero, List.set_cons_succ])
        refine takeD (i := 1) (d := some 86) (v := .bool true) rfl (by kernel_rfl) (by kernel_rfl) (by kernel_rfl) rfl (fun _ _ _ h => h) (Or.inl ⟨by kernel_rfl, fun w1 hS1 => by rfl⟩) hHeld ?_
        (try simp only [Act.put, List.setIfInBounds_toArray, List.set_cons_zero, List.set_cons_succ])
        refine takeD (i := 2) (d := some 87) (v := .bool true) rfl (by kernel_rfl) (by kernel_rfl) (by kernel_rfl) rfl (fun _ _ _ h => h) (Or.inl ⟨by kernel_rfl, fun w1 hS1 => by rfl⟩) hHeld ?_
        (try simp only [Act.put, List.setIfInBounds_toArray, List.set_cons_zero, List.set_cons_succ])
        refine takeD (i := 3) (d := some 88) (v := .bool true) rfl (by kernel_rfl) (by kernel_rfl) (by kernel_rfl) rfl (fun _ _ _ h => h) (Or.inl ⟨by kernel_rfl, fun w1 hS1 => by rfl⟩) hHeld ?_
        (try simp only [Act.put, List.setIfInBounds_toArray, List.set_cons_zero, List.set_cons_succ])
        refine takeD (i := 4) (d := some 89) (v := .bool true) rfl (by kernel_rfl) (by kernel_rfl) (by kernel_rfl) rfl (fun _ _ _ h => h) (Or.inl ⟨by kernel_rfl, fun w1 hS1 => by rfl⟩) hHeld ?_
        (try simp only [Act.put, List.setIfInBounds_toArray, List.set_cons_zero, List.set_cons_succ])
        refine takeD (i := 5) (d := some 90) (v := .int .i64 ON) rfl (by kernel_rfl) (by kernel_rfl) (by kernel_rfl) rfl (fun _ _ _ h => h) (Or.inl ⟨by kernel_rfl, fun w1 hS1 => by rfl⟩) hHeld ?_
        (try simp only [Act.put, List.setIfInBounds_toArray, List.set_cons_zero, List.set_cons_succ])
        refine takeD (i := 6) (d := some 91) (v := .int .i64 OFF) rfl (by kernel_rfl) (by kernel_rfl) (by kernel_rfl) rfl (fun _ _ _ h => h) (Or.inl ⟨by kernel_rfl, fun w1 hS1 => by rfl⟩) hHeld ?_
        (try simp only [Act.put, List.setIfInBounds_toArray, List.set_cons_zero, List.set_cons_succ])
        refine takeD (i := 7) (d := some 92) (v := .int .i64 K) rfl (by kernel_rfl) (by kernel_rfl) (by kernel_rfl) rfl (fun _ _ _ h => h) (Or.inl ⟨by kernel_rfl, fun w1 hS1 => by rfl⟩) hHeld ?_
        (try simp only [Act.put, List.setIfInBounds_toArray, List.set_cons_zero, List.set_cons_succ])
        refine takeD (i := 8) (d := some 93) (v := .int .i64 T) rfl (by kernel_rfl) (by kernel_rfl) (by kernel_rfl) rfl (fun _ _ _ h => h) (Or.inl ⟨by kernel_rfl, fun w1 hS1 => by (try dsimp only at hS1); go_simp⟩) hHeld ?_
        (try simp only [Act.put, List.setIfInBounds_toArray, List.set_cons_zero, List.set_cons_succ])
        refine takeD (i := 9) (d := some 94) (v := .int .i64 ON) rfl (by kernel_rfl) (by kernel_rfl) (by kernel_rfl) rfl (fun _ _ _ h => h) (Or.inl ⟨by kernel_rfl, fun w1 hS1 => by (try dsimp only at hS1); go_simp⟩) hHeld ?_
        (try simp only [Act.put, List.setIfInBounds_toArray, List.set_cons_zero, List.set_cons_succ])
        refine takeD (i := 10) (d := some 95) (v := .bool true) rfl (by kernel_rfl) (by kernel_rfl) (by kernel_rfl) rfl (fun _ _ _ h => h) (Or.inl ⟨by kernel_rfl, fun w1 hS1 => by (try dsimp only at hS1); go_simp⟩) hHeld ?_
        (try simp only [Act.put, List.setIfInBounds_toArray, List.set_cons_zero, List.set_cons_succ])
        refine takeD (i := 11) (d := some 96) (v := .bool true) rfl (by kernel_rfl) (by kernel_rfl) (by kernel_rfl) rfl (fun _ _ _ h => h) (Or.inl ⟨by kernel_rfl, fun w1 hS1 => by rfl⟩) hHeld ?_
        (try simp only [Act.put, List.setIfInBounds_toArray, List.set_cons_zero, List.set_cons_succ])
        refine takeD (i := 12) (d := some 97) (v := .bool true) rfl (by kernel_rfl) (by kernel_rfl) (by kernel_rfl) rfl (fun _ _ _ h => h) (Or.inl ⟨by kernel_rfl, fun w1 hS1 => by rfl⟩) hHeld ?_
        (try simp only [Act.put, List.setIfInBounds_toArray, List.set_cons_zero, List.set_cons_succ])
        refine takeD (i := 13) (d := some 98) (v := .agg #[.int .i64 W, .int .i64 Y, .int .i64 S]) rfl (by kernel_rfl) (by kernel_rfl) (by kernel_rfl) rfl (fun _ _ _ h => h) (Or.inl ⟨by kernel_rfl, fun w1 hS1 => by (try dsimp only at hS1); go_simp⟩) hHeld ?_
        (try simp only [Act.put, List.setIfInBounds_toArray, List.set_cons_zero, List.set_cons_succ])
        refine takeD (i := 14) (d := some 99) (v := .int .i64 ON) rfl (by kernel_rfl) (by kernel_rfl) (by kernel_rfl) rfl (fun _ _ _ h => h) (Or.inl ⟨by kernel_rfl, fun w1 hS1 => by rfl⟩) hHeld ?_
        (try simp only [Act.put, List.setIfInBounds_toArray, List.set_cons_zero, List.set_cons_succ])
        refine takeD (i := 15) (d := some 100) (v := .int .i64 K) rfl (by kernel_rfl) (by kernel_rfl) (by kernel_rfl) rfl (fun _ _ _ h => h) (Or.inl ⟨by kernel_rfl, fun w1 hS1 => by rfl⟩) hHeld ?_
        (try simp only [Act.put, List.setIfInBounds_toArray, List.set_cons_zero, List.set_cons_succ])
        refine wpAnyH_ready (rs := [16]) (by kernel_rfl) (by simp) ?_
        refine AllReadyH.cons rfl (fun K hK => ?_) AllReadyH.nil
        go_simp
        go_at_call 30
        refine (HPC.out.hason _).mono ?_
        rintro e w1 ⟨rfl, hB1⟩
        (try go_simp)
        refine hK.out _ _ (Three.keep hHeld hB1) (fun hHeld => ?_)
        clear hK K
        (try simp only [Act.put, List.setIfInBounds_toArray, List.set_cons_zero, List.set_cons_succ])
        (try dsimp only at hHeld)
        refine takeD (i := 17) (d := some 102) (v := .bool true) rfl (by kernel_rfl) (by kernel_rfl) (by kernel_rfl) rfl (fun _ _ _ h => h) (Or.inl ⟨by kernel_rfl, fun w1 hS1 => by rfl⟩) hHeld ?_
        (try simp only [Act.put, List.setIfInBounds_toArray, List.set_cons_zero, List.set_cons_succ])
        refine takeD (i := 18) (d := some 103) (v := .bool true) rfl (by kernel_rfl) (by kernel_rfl) (by kernel_rfl) rfl (fun _ _ _ h => h) (Or.inl ⟨by kernel_rfl, fun w1 hS1 => by rfl⟩) hHeld ?_
        (try simp only [Act.put, List.setIfInBounds_toArray, List.set_cons_zero, List.set_cons_succ])
        refine takeD (i := 19) (d := some 104) (v := .agg #[.int .i64 W, .int .i64 Y, .int .i64 S]) rfl (by kernel_rfl) (by kernel_rfl) (by kernel_rfl) rfl (fun _ _ _ h => h) (Or.inl ⟨by kernel_rfl, fun w1 hS1 => by (try dsimp only at hS1); go_simp⟩) hHeld ?_
        (try simp only [Act.put, List.setIfInBounds_toArray, List.set_cons_zero, List.set_cons_succ])
        refine takeD (i := 20) (d := some 105) (v := .int .i64 OFF) rfl (by kernel_rfl) (by kernel_rfl) (by kernel_rfl) rfl (fun _ _ _ h => h) (Or.inl ⟨by kernel_rfl, fun w1 hS1 => by rfl⟩) hHeld ?_
        (try simp only [Act.put, List.setIfInBounds_toArray, List.set_cons_zero, List.set_cons_succ])
        refine takeD (i := 21) (d := some 106) (v := .int .i64 K) rfl (by kernel_rfl) (by kernel_rfl) (by kernel_rfl) rfl (fun _ _ _ h => h) (Or.inl ⟨by kernel_rfl, fun w1 hS1 => by rfl⟩) hHeld ?_
        (try simp only [Act.put, List.setIfInBounds_toArray, List.set_cons_zero, List.set_cons_succ])
        refine wpAnyH_ready (rs := [22]) (by kernel_rfl) (by simp) ?_
        refine AllReadyH.cons rfl (fun K hK => ?_) AllReadyH.nil
        go_simp
        go_at_call 30
        refine (HPC.out.hasoff _).mono ?_
        rintro e w1 ⟨rfl, hB1⟩
        (try go_simp)
        refine hK.out _ _ (Three.keep hHeld hB1) (fun hHeld => ?_)
        clear hK K
        (try simp only [Act.put, List.setIfInBounds_toArray, List.set_cons_zero, List.set_cons_succ])
        (try dsimp only at hHeld)
        refine takeD (i := 23) (d := some 108) (v := .bool true) rfl (by kernel_rfl) (by kernel_rfl) (by kernel_rfl) rfl (fun _ _ _ h => h) (Or.inl ⟨by kernel_rfl, fun w1 hS1 => by first | rfl | ((try dsimp only at hS1); go_simp)⟩) hHeld ?_
        (try simp only [Act.put, List.setIfInBounds_toArray, List.set_cons_zero, List.set_cons_succ])
        refine takeD (i := 24) (d := some 109) (v := .bool true) rfl (by kernel_rfl) (by kernel_rfl) (by kernel_rfl) rfl (fun _ _ _ h => h) (Or.inl ⟨by kernel_rfl, fun w1 hS1 => by rfl⟩) hHeld ?_
        (try simp only [Act.put, List.setIfInBounds_toArray, List.set_cons_zero, List.set_cons_succ])
        refine takeD (i := 25) (d := some 110) (v := .bool true) rfl (by kernel_rfl) (by kernel_rfl) (by kernel_rfl) rfl (fun _ _ _ h => h) (Or.inl ⟨by kernel_rfl, fun w1 hS1 => by rfl⟩) hHeld ?_
        (try simp only [Act.put, List.setIfInBounds_toArray, List.set_cons_zero, List.set_cons_succ])
        refine takeD (i := 26) (d := some 111) (v := .int .i64 ON) rfl (by kernel_rfl) (by kernel_rfl) (by kernel_rfl) rfl (fun _ _ _ h => h) (Or.inl ⟨by kernel_rfl, fun w1 hS1 => by rfl⟩) hHeld ?_
        (try simp only [Act.put, List.setIfInBounds_toArray, List.set_cons_zero, List.set_cons_succ])
        refine takeD (i := 27) (d := some 112) (v := .int .i64 ON) rfl (by kernel_rfl) (by kernel_rfl) (by kernel_rfl) rfl (fun _ _ _ h => h) (Or.inl ⟨by kernel_rfl, fun w1 hS1 => by rfl⟩) hHeld ?_
        (try simp only [Act.put, List.setIfInBounds_toArray, List.set_cons_zero, List.set_cons_succ])
        refine takeD (i := 28) (d := some 113) (v := .bool true) rfl (by kernel_rfl) (by kernel_rfl) (by kernel_rfl) rfl (fun _ _ _ h => h) (Or.inl ⟨by kernel_rfl, fun w1 hS1 => by (try dsimp only at hS1); go_simp⟩) hHeld ?_
        (try simp only [Act.put, List.setIfInBounds_toArray, List.set_cons_zero, List.set_cons_succ])
        refine takeD (i := 29) (d := some 114) (v := .bool true) rfl (by kernel_rfl) (by kernel_rfl) (by kernel_rfl) rfl (fun _ _ _ h => h) (Or.inl ⟨by kernel_rfl, fun w1 hS1 => by rfl⟩) hHeld ?_
        (try simp only [Act.put, List.setIfInBounds_toArray, List.set_cons_zero, List.set_cons_succ])
        refine takeD (i := 30) (d := some 115) (v := undef) rfl (by kernel_rfl) (by kernel_rfl) (by kernel_rfl) rfl (fun _ _ _ h => h) (Or.inr ⟨by kernel_rfl, rfl⟩) hHeld ?_
        (try simp only [Act.put, List.setIfInBounds_toArray, List.set_cons_zero, List.set_cons_succ])
        refine takeD (i := 31) (d := some 116) (v := undef) rfl (by kernel_rfl) (by kernel_rfl) (by kernel_rfl) rfl (fun _ _ _ h => h) (Or.inr ⟨by kernel_rfl, rfl⟩) hHeld ?_
        (try simp only [Act.put, List.setIfInBounds_toArray, List.set_cons_zero, List.set_cons_succ])
        refine takeD (i := 32) (d := some 117) (v := undef) rfl (by kernel_rfl) (by kernel_rfl) (by kernel_rfl) rfl (fun _ _ _ h => h) (Or.inr ⟨by kernel_rfl, rfl⟩) hHeld ?_
        (try simp only [Act.put, List.setIfInBounds_toArray, List.set_cons_zero, List.set_cons_succ])
        refine takeD (i := 33) (d := some 118) (v := .bool true) rfl (by kernel_rfl) (by kernel_rfl) (by kernel_rfl) rfl (fun _ _ _ h => h) (Or.inl ⟨by kernel_rfl, fun w1 hS1 => by rfl⟩) hHeld ?_
        (try simp only [Act.put, List.setIfInBounds_toArray, List.set_cons_zero, List.set_cons_succ])
        refine takeD (i := 34) (d := some 119) (v := .bool true) rfl (by kernel_rfl) (by kernel_rfl) (by kernel_rfl) rfl (fun _ _ _ h => h) (Or.inl ⟨by kernel_rfl, fun w1 hS1 => by rfl⟩) hHeld ?_
        (try simp only [Act.put, List.setIfInBounds_toArray, List.set_cons_zero, List.set_cons_succ])
        refine takeD (i := 35) (d := some 120) (v := .bool true) rfl (by kernel_rfl) (by kernel_rfl) (by kernel_rfl) rfl (fun _ _ _ h => h) (Or.inl ⟨by kernel_rfl, fun w1 hS1 => by rfl⟩) hHeld ?_
        (try simp only [Act.put, List.setIfInBounds_toArray, List.set_cons_zero, List.set_cons_succ])
        refine takeD (i := 36) (d := some 121) (v := .int .i64 CP) rfl (by kernel_rfl) (by kernel_rfl) (by kernel_rfl) rfl (fun _ _ _ h => h) (Or.inl ⟨by kernel_rfl, fun w1 hS1 => by rfl⟩) hHeld ?_
        (try simp only [Act.put, List.setIfInBounds_toArray, List.set_cons_zero, List.set_cons_succ])
        refine takeD (i := 37) (d := some 122) (v := .agg #[.int .i64 W, .int .i64 Y, .int .i64 S]) rfl (by kernel_rfl) (by kernel_rfl) (by kernel_rfl) rfl (fun _ _ _ h => h) (Or.inl ⟨by kernel_rfl, fun w1 hS1 => by (try dsimp only at hS1); go_simp⟩) hHeld ?_
        (try simp only [Act.put, List.setIfInBounds_toArray, List.set_cons_zero, List.set_cons_succ])
        refine takeD (i := 38) (d := some 123) (v := .int .i64 ON) rfl (by kernel_rfl) (by kernel_rfl) (by kernel_rfl) rfl (fun _ _ _ h => h) (Or.inl ⟨by kernel_rfl, fun w1 hS1 => by rfl⟩) hHeld ?_
        (try simp only [Act.put, List.setIfInBounds_toArray, List.set_cons_zero, List.set_cons_succ])
        refine wpAnyH_ready (rs := [39]) (by kernel_rfl) (by simp) ?_
        refine AllReadyH.cons rfl (fun K hK => ?_) AllReadyH.nil
        go_simp
        go_at_call 31
        refine (HPC.out.count _).mono ?_
        rintro e w1 ⟨rfl, hB1⟩
        (try go_simp)
        refine hK.out _ _ (Three.keep hHeld hB1) (fun hHeld => ?_)
        clear hK K
        (try simp only [Act.put, List.setIfInBounds_toArray, List.set_cons_zero, List.set_cons_succ])
        (try dsimp only at hHeld)
        refine takeD (i := 40) (d := some 125) (v := .bool true) rfl (by kernel_rfl) (by kernel_rfl) (by kernel_rfl) rfl (fun _ _ _ h => h) (Or.inl ⟨by kernel_rfl, fun w1 hS1 => by (try dsimp only at hS1); go_simp⟩) hHeld ?_
        (try simp only [Act.put, List.setIfInBounds_toArray, List.set_cons_zero, List.set_cons_succ])
        refine takeD (i := 41) (d := some 126) (v := .bool true) rfl (by kernel_rfl) (by kernel_rfl) (by kernel_rfl) rfl (fun _ _ _ h => h) (Or.inl ⟨by kernel_rfl, fun w1 hS1 => by rfl⟩) hHeld ?_
        (try simp only [Act.put, List.setIfInBounds_toArray, List.set_cons_zero, List.set_cons_succ])
        refine takeD (i := 42) (d := some 127) (v := .bool true) rfl (by kernel_rfl) (by kernel_rfl) (by kernel_rfl) rfl (fun _ _ _ h => h) (Or.inl ⟨by kernel_rfl, fun w1 hS1 => by rfl⟩) hHeld ?_
        (try simp only [Act.put, List.setIfInBounds_toArray, List.set_cons_zero, List.set_cons_succ])
        refine takeD (i := 43) (d := some 128) (v := .int .i64 CS) rfl (by kernel_rfl) (by kernel_rfl) (by kernel_rfl) rfl (fun _ _ _ h => h) (Or.inl ⟨by kernel_rfl, fun w1 hS1 => by rfl⟩) hHeld ?_
        (try simp only [Act.put, List.setIfInBounds_toArray, List.set_cons_zero, List.set_cons_succ])
        refine takeD (i := 44) (d := some 129) (v := .slice (some ⟨g, 0, none⟩) CS cp) rfl (by kernel_rfl) (by kernel_rfl) (by kernel_rfl) rfl (fun _ _ _ h => h) (Or.inl ⟨by kernel_rfl, fun w1 hS1 => by rfl⟩) hHeld ?_
        (try simp only [Act.put, List.setIfInBounds_toArray, List.set_cons_zero, List.set_cons_succ])
        refine takeD (i := 45) (d := some 130) (v := .int .i64 CS) rfl (by kernel_rfl) (by kernel_rfl) (by kernel_rfl) rfl (fun _ _ _ h => h) (Or.inl ⟨by kernel_rfl, fun w1 hS1 => by (try dsimp only at hS1); go_simp⟩) hHeld ?_
        (try simp only [Act.put, List.setIfInBounds_toArray, List.set_cons_zero, List.set_cons_succ])
        refine takeD (i := 46) (d := some 131) (v := .bool true) rfl (by kernel_rfl) (by kernel_rfl) (by kernel_rfl) rfl (fun _ _ _ h => h) (Or.inl ⟨by kernel_rfl, fun w1 hS1 => by (try dsimp only at hS1); go_simp⟩) hHeld ?_
        (try simp only [Act.put, List.setIfInBounds_toArray, List.set_cons_zero, List.set_cons_succ])
        refine takeD (i := 47) (d := some 132) (v := .bool true) rfl (by kernel_rfl) (by kernel_rfl) (by kernel_rfl) rfl (fun _ _ _ h => h) (Or.inl ⟨by kernel_rfl, fun w1 hS1 => by rfl⟩) hHeld ?_
        (try simp only [Act.put, List.setIfInBounds_toArray, List.set_cons_zero, List.set_cons_succ])
        refine takeD (i := 48) (d := some 133) (v := .bool true) rfl (by kernel_rfl) (by kernel_rfl) (by kernel_rfl) rfl (fun _ _ _ h => h) (Or.inl ⟨by kernel_rfl, fun w1 hS1 => by rfl⟩) hHeld ?_
        (try simp only [Act.put, List.setIfInBounds_toArray, List.set_cons_zero, List.set_cons_succ])
        refine takeD (i := 49) (d := some 134) (v := .agg #[.int .i64 W, .int .i64 Y, .int .i64 S]) rfl (by kernel_rfl) (by kernel_rfl) (by kernel_rfl) rfl (fun _ _ _ h => h) (Or.inl ⟨by kernel_rfl, fun w1 hS1 => by (try dsimp only at hS1); go_simp⟩) hHeld ?_
        (try simp only [Act.put, List.setIfInBounds_toArray, List.set_cons_zero, List.set_cons_succ])
        refine takeD (i := 50) (d := some 135) (v := .int .i64 K) rfl (by kernel_rfl) (by kernel_rfl) (by kernel_rfl) rfl (fun _ _ _ h => h) (Or.inl ⟨by kernel_rfl, fun w1 hS1 => by rfl⟩) hHeld ?_
        (try simp only [Act.put, List.setIfInBounds_toArray, List.set_cons_zero, List.set_cons_succ])
        refine takeD (i := 52) (d := some 137) (v := .agg #[.int .i64 W, .int .i64 Y, .int .i64 S]) rfl (by kernel_rfl) (by kernel_rfl) (by kernel_rfl) rfl (fun _ _ _ h => h) (Or.inl ⟨by kernel_rfl, fun w1 hS1 => by (try dsimp only at hS1); go_simp⟩) hHeld ?_
        (try simp only [Act.put, List.setIfInBounds_toArray, List.set_cons_zero, List.set_cons_succ])
        refine takeD (i := 53) (d := some 138) (v := .int .i64 K) rfl (by kernel_rfl) (by kernel_rfl) (by kernel_rfl) rfl (fun _ _ _ h => h) (Or.inl ⟨by kernel_rfl, fun w1 hS1 => by rfl⟩) hHeld ?_
        (try simp only [Act.put, List.setIfInBounds_toArray, List.set_cons_zero, List.set_cons_succ])
        refine takeD (i := 56) (d := some 141) (v := .pointer (some ⟨n, 2, none⟩)) rfl (by kernel_rfl) (by kernel_rfl) (by kernel_rfl) rfl (fun _ _ _ h => h) (Or.inl ⟨by kernel_rfl, fun w1 hS1 => by (try dsimp only at hS1); go_simp⟩) hHeld ?_
        (try simp only [Act.put, List.setIfInBounds_toArray, List.set_cons_zero, List.set_cons_succ])
        refine takeD (i := 57) (d := some 142) (v := .int .i64 S) rfl (by kernel_rfl) (by kernel_rfl) (by kernel_rfl) rfl (fun _ _ _ h => h) (Or.inl ⟨by kernel_rfl, fun w1 hS1 => by (try dsimp only at hS1); go_simp⟩) hHeld ?_
        (try simp only [Act.put, List.setIfInBounds_toArray, List.set_cons_zero, List.set_cons_succ])
        refine wpAnyH_ready (rs := [51]) (by kernel_rfl) (by simp) ?_
        refine AllReadyH.cons rfl (fun K hK => ?_) AllReadyH.nil
        go_simp
        go_at_call 32
        refine (HPC.out.full _).mono ?_
        rintro e w1 ⟨rfl, hB1⟩
        (try go_simp)
        refine hK.out _ _ (Three.keep hHeld hB1) (fun hHeld => ?_)
        clear hK K
        (try simp only [Act.put, List.setIfInBounds_toArray, List.set_cons_zero, List.set_cons_succ])
        (try dsimp only at hHeld)
        refine wpAnyH_ready (rs := [54]) (by kernel_rfl) (by simp) ?_
        refine AllReadyH.cons rfl (fun K hK => ?_) AllReadyH.nil
        go_simp
        go_at_call 33
        refine (HPC.out.single _).mono ?_
        rintro e w1 ⟨rfl, hB1⟩
        (try go_simp)
        refine hK.out _ _ (Three.keep hHeld hB1) (fun hHeld => ?_)
        clear hK K
        (try simp only [Act.put, List.setIfInBounds_toArray, List.set_cons_zero, List.set_cons_succ])
        (try dsimp only at hHeld)
        refine takeD (i := 55) (d := some 140) (v := .int .i64 S) rfl (by kernel_rfl) (by kernel_rfl) (by kernel_rfl) rfl (fun _ _ _ h => h) (Or.inl ⟨by kernel_rfl, fun w1 hS1 => by (try dsimp only at hS1); go_simp⟩) hHeld ?_
        (try simp only [Act.put, List.setIfInBounds_toArray, List.set_cons_zero, List.set_cons_succ])
        refine takeD (i := 58) (d := some 143) (v := .bool true) rfl (by kernel_rfl) (by kernel_rfl) (by kernel_rfl) rfl (fun _ _ _ h => h) (Or.inl ⟨by kernel_rfl, fun w1 hS1 => by (try dsimp only at hS1); go_simp⟩) hHeld ?_
        (try simp only [Act.put, List.setIfInBounds_toArray, List.set_cons_zero, List.set_cons_succ])
        refine takeD (i := 59) (d := some 144) (v := .bool true) rfl (by kernel_rfl) (by kernel_rfl) (by kernel_rfl) rfl (fun _ _ _ h => h) (Or.inl ⟨by kernel_rfl, fun w1 hS1 => by rfl⟩) hHeld ?_
        (try simp only [Act.put, List.setIfInBounds_toArray, List.set_cons_zero, List.set_cons_succ])
        refine takeD (i := 60) (d := some 145) (v := .bool true) rfl (by kernel_rfl) (by kernel_rfl) (by kernel_rfl) rfl (fun _ _ _ h => h) (Or.inl ⟨by kernel_rfl, fun w1 hS1 => by rfl⟩) hHeld ?_
        (try simp only [Act.put, List.setIfInBounds_toArray, List.set_cons_zero, List.set_cons_succ])
        refine takeD (i := 61) (d := some 146) (v := .agg #[.int .i64 W, .int .i64 Y, .int .i64 S]) rfl (by kernel_rfl) (by kernel_rfl) (by kernel_rfl) rfl (fun _ _ _ h => h) (Or.inl ⟨by kernel_rfl, fun w1 hS1 => by (try dsimp only at hS1); go_simp⟩) hHeld ?_
        (try simp only [Act.put, List.setIfInBounds_toArray, List.set_cons_zero, List.set_cons_succ])
        refine takeD (i := 62) (d := some 147) (v := .int .i64 ON) rfl (by kernel_rfl) (by kernel_rfl) (by kernel_rfl) rfl (fun _ _ _ h => h) (Or.inl ⟨by kernel_rfl, fun w1 hS1 => by rfl⟩) hHeld ?_
        (try simp only [Act.put, List.setIfInBounds_toArray, List.set_cons_zero, List.set_cons_succ])
        refine wpAnyH_ready (rs := [63]) (by kernel_rfl) (by simp) ?_
        refine AllReadyH.cons rfl (fun K hK => ?_) AllReadyH.nil
        go_simp
        go_at_call 34
        refine (HPC.out.ok _).mono ?_
        rintro e w1 ⟨rfl, hB1⟩
        (try go_simp)
        refine hK.out _ _ (Three.keep hHeld hB1) (fun hHeld => ?_)
        clear hK K
        (try simp only [Act.put, List.setIfInBounds_toArray, List.set_cons_zero, List.set_cons_succ])
        (try dsimp only at hHeld)
        refine takeD (i := 64) (d := some 149) (v := .bool true) rfl (by kernel_rfl) (by kernel_rfl) (by kernel_rfl) rfl (fun _ _ _ h => h) (Or.inl ⟨by kernel_rfl, fun w1 hS1 => by rfl⟩) hHeld ?_
        (try simp only [Act.put, List.setIfInBounds_toArray, List.set_cons_zero, List.set_cons_succ])
        refine takeD (i := 65) (d := some 150) (v := .bool true) rfl (by kernel_rfl) (by kernel_rfl) (by kernel_rfl) rfl (fun _ _ _ h => h) (Or.inl ⟨by kernel_rfl, fun w1 hS1 => by rfl⟩) hHeld ?_
        (try simp only [Act.put, List.setIfInBounds_toArray, List.set_cons_zero, List.set_cons_succ])
        refine takeD (i := 66) (d := some 151) (v := .agg #[.int .i64 W, .int .i64 Y, .int .i64 S]) rfl (by kernel_rfl) (by kernel_rfl) (by kernel_rfl) rfl (fun _ _ _ h => h) (Or.inl ⟨by kernel_rfl, fun w1 hS1 => by (try dsimp only at hS1); go_simp⟩) hHeld ?_
        (try simp only [Act.put, List.setIfInBounds_toArray, List.set_cons_zero, List.set_cons_succ])
        refine takeD (i := 67) (d := some 152) (v := .agg #[.int .i64 W, .int .i64 Y, .int .i64 S]) rfl (by kernel_rfl) (by kernel_rfl) (by kernel_rfl) rfl (fun _ _ _ h => h) (Or.inl ⟨by kernel_rfl, fun w1 hS1 => by (try dsimp only at hS1); go_simp⟩) hHeld ?_
        (try simp only [Act.put, List.setIfInBounds_toArray, List.set_cons_zero, List.set_cons_succ])
        refine takeD (i := 68) (d := some 153) (v := .int .i64 K) rfl (by kernel_rfl) (by kernel_rfl) (by kernel_rfl) rfl (fun _ _ _ h => h) (Or.inl ⟨by kernel_rfl, fun w1 hS1 => by rfl⟩) hHeld ?_
        (try simp only [Act.put, List.setIfInBounds_toArray, List.set_cons_zero, List.set_cons_succ])
        refine wpAnyH_ready (rs := [69]) (by kernel_rfl) (by simp) ?_
        refine AllReadyH.cons rfl (fun K hK => ?_) AllReadyH.nil
        go_simp
        go_at_call 33
        refine (HPC.out.single _).mono ?_
        rintro e w1 ⟨rfl, hB1⟩
        (try go_simp)
        refine hK.out _ _ (Three.keep hHeld hB1) (fun hHeld => ?_)
        clear hK K
        (try simp only [Act.put, List.setIfInBounds_toArray, List.set_cons_zero, List.set_cons_succ])
        (try dsimp only at hHeld)
        refine wpAnyH_ready (rs := [70]) (by kernel_rfl) (by simp) ?_
        refine AllReadyH.cons rfl (fun K hK => ?_) AllReadyH.nil
        go_simp
        go_at_call 31
        refine (HPC.out.one _).mono ?_
        rintro e w1 ⟨rfl, hB1⟩
        (try go_simp)
        refine hK.out _ _ (Three.keep hHeld hB1) (fun hHeld => ?_)
        clear hK K
        (try simp only [Act.put, List.setIfInBounds_toArray, List.set_cons_zero, List.set_cons_succ])
        (try dsimp only at hHeld)
        refine takeD (i := 71) (d := some 156) (v := .bool true) rfl (by kernel_rfl) (by kernel_rfl) (by kernel_rfl) rfl (fun _ _ _ h => h) (Or.inl ⟨by kernel_rfl, fun w1 hS1 => by (try dsimp only at hS1); go_simp⟩) hHeld ?_
        (try simp only [Act.put, List.setIfInBounds_toArray, List.set_cons_zero, List.set_cons_succ])
        refine takeD (i := 72) (d := some 157) (v := .bool true) rfl (by kernel_rfl) (by kernel_rfl) (by kernel_rfl) rfl (fun _ _ _ h => h) (Or.inl ⟨by kernel_rfl, fun w1 hS1 => by rfl⟩) hHeld ?_
        (try simp only [Act.put, List.setIfInBounds_toArray, List.set_cons_zero, List.set_cons_succ])
        refine takeD (i := 73) (d := some 2) (v := .bool true) rfl (by kernel_rfl) (by kernel_rfl) (by kernel_rfl) rfl (fun _ _ _ h => h) (Or.inl ⟨by kernel_rfl, fun w1 hS1 => by rfl⟩) hHeld ?_
        (try simp only [Act.put, List.setIfInBounds_toArray, List.set_cons_zero, List.set_cons_succ])
        refine wpAnyH_done (by kernel_rfl) ?_ _
        go_wp2
        go_ret
        exact ⟨rfl, hBel.out.andThen hHeld.2.2.2⟩
      · have hne : ¬ (P : Int) = (ON : Int) := ne_of_sum hP hsON hpos
        obtain rfl : OFF = P := hP.symm
        go_wp2_with fail
        refine wp_region_held_drew (S := (fun w' => w'.cell? ⟨n, 0, none⟩ = some (.int .i64 W) ∧ w'.cell? ⟨n, 1, none⟩ = some (.int .i64 Y) ∧ w'.cell? ⟨n, 2, none⟩ = some (.int .i64 S) ∧ Below w7.heap.size w7 w')) (by kernel_rfl) hS0 (fun hHeld => ?_)
        (try dsimp only at hHeld)
        refine takeD (i := 0) (d := some 85) (v := .bool true) rfl (by kernel_rfl) (by kernel_rfl) (by kernel_rfl) rfl (fun _ _ _ h => h) (Or.inl ⟨by kernel_rfl, fun w1 hS1 => by rfl⟩) hHeld ?_
        (try simp only [Act.put, List.setIfInBounds_toArray, List.set_cons_zero, List.set_cons_succ])
        refine takeD (i := 1) (d := some 86) (v := .bool true) rfl (by kernel_rfl) (by kernel_rfl) (by kernel_rfl) rfl (fun _ _ _ h => h) (Or.inl ⟨by kernel_rfl, fun w1 hS1 => by rfl⟩) hHeld ?_
        (try simp only [Act.put, List.setIfInBounds_toArray, List.set_cons_zero, List.set_cons_succ])
        refine takeD (i := 2) (d := some 87) (v := .bool true) rfl (by kernel_rfl) (by kernel_rfl) (by kernel_rfl) rfl (fun _ _ _ h => h) (Or.inl ⟨by kernel_rfl, fun w1 hS1 => by rfl⟩) hHeld ?_
        (try simp only [Act.put, List.setIfInBounds_toArray, List.set_cons_zero, List.set_cons_succ])
        refine takeD (i := 3) (d := some 88) (v := .bool true) rfl (by kernel_rfl) (by kernel_rfl) (by kernel_rfl) rfl (fun _ _ _ h => h) (Or.inl ⟨by kernel_rfl, fun w1 hS1 => by rfl⟩) hHeld ?_
        (try simp only [Act.put, List.setIfInBounds_toArray, List.set_cons_zero, List.set_cons_succ])
        refine takeD (i := 4) (d := some 89) (v := .bool true) rfl (by kernel_rfl) (by kernel_rfl) (by kernel_rfl) rfl (fun _ _ _ h => h) (Or.inl ⟨by kernel_rfl, fun w1 hS1 => by rfl⟩) hHeld ?_
        (try simp only [Act.put, List.setIfInBounds_toArray, List.set_cons_zero, List.set_cons_succ])
        refine takeD (i := 5) (d := some 90) (v := .int .i64 ON) rfl (by kernel_rfl) (by kernel_rfl) (by kernel_rfl) rfl (fun _ _ _ h => h) (Or.inl ⟨by kernel_rfl, fun w1 hS1 => by rfl⟩) hHeld ?_
        (try simp only [Act.put, List.setIfInBounds_toArray, List.set_cons_zero, List.set_cons_succ])
        refine takeD (i := 6) (d := some 91) (v := .int .i64 OFF) rfl (by kernel_rfl) (by kernel_rfl) (by kernel_rfl) rfl (fun _ _ _ h => h) (Or.inl ⟨by kernel_rfl, fun w1 hS1 => by rfl⟩) hHeld ?_
        (try simp only [Act.put, List.setIfInBounds_toArray, List.set_cons_zero, List.set_cons_succ])
        refine takeD (i := 7) (d := some 92) (v := .int .i64 K) rfl (by kernel_rfl) (by kernel_rfl) (by kernel_rfl) rfl (fun _ _ _ h => h) (Or.inl ⟨by kernel_rfl, fun w1 hS1 => by rfl⟩) hHeld ?_
        (try simp only [Act.put, List.setIfInBounds_toArray, List.set_cons_zero, List.set_cons_succ])
        refine takeD (i := 8) (d := some 93) (v := .int .i64 T) rfl (by kernel_rfl) (by kernel_rfl) (by kernel_rfl) rfl (fun _ _ _ h => h) (Or.inl ⟨by kernel_rfl, fun w1 hS1 => by (try dsimp only at hS1); go_simp⟩) hHeld ?_
        (try simp only [Act.put, List.setIfInBounds_toArray, List.set_cons_zero, List.set_cons_succ])
        refine takeD (i := 9) (d := some 94) (v := .int .i64 ON) rfl (by kernel_rfl) (by kernel_rfl) (by kernel_rfl) rfl (fun _ _ _ h => h) (Or.inl ⟨by kernel_rfl, fun w1 hS1 => by (try dsimp only at hS1); go_simp⟩) hHeld ?_
        (try simp only [Act.put, List.setIfInBounds_toArray, List.set_cons_zero, List.set_cons_succ])
        refine takeD (i := 10) (d := some 95) (v := .bool true) rfl (by kernel_rfl) (by kernel_rfl) (by kernel_rfl) rfl (fun _ _ _ h => h) (Or.inl ⟨by kernel_rfl, fun w1 hS1 => by (try dsimp only at hS1); go_simp⟩) hHeld ?_
        (try simp only [Act.put, List.setIfInBounds_toArray, List.set_cons_zero, List.set_cons_succ])
        refine takeD (i := 11) (d := some 96) (v := .bool true) rfl (by kernel_rfl) (by kernel_rfl) (by kernel_rfl) rfl (fun _ _ _ h => h) (Or.inl ⟨by kernel_rfl, fun w1 hS1 => by rfl⟩) hHeld ?_
        (try simp only [Act.put, List.setIfInBounds_toArray, List.set_cons_zero, List.set_cons_succ])
        refine takeD (i := 12) (d := some 97) (v := .bool true) rfl (by kernel_rfl) (by kernel_rfl) (by kernel_rfl) rfl (fun _ _ _ h => h) (Or.inl ⟨by kernel_rfl, fun w1 hS1 => by rfl⟩) hHeld ?_
        (try simp only [Act.put, List.setIfInBounds_toArray, List.set_cons_zero, List.set_cons_succ])
        refine takeD (i := 13) (d := some 98) (v := .agg #[.int .i64 W, .int .i64 Y, .int .i64 S]) rfl (by kernel_rfl) (by kernel_rfl) (by kernel_rfl) rfl (fun _ _ _ h => h) (Or.inl ⟨by kernel_rfl, fun w1 hS1 => by (try dsimp only at hS1); go_simp⟩) hHeld ?_
        (try simp only [Act.put, List.setIfInBounds_toArray, List.set_cons_zero, List.set_cons_succ])
        refine takeD (i := 14) (d := some 99) (v := .int .i64 ON) rfl (by kernel_rfl) (by kernel_rfl) (by kernel_rfl) rfl (fun _ _ _ h => h) (Or.inl ⟨by kernel_rfl, fun w1 hS1 => by rfl⟩) hHeld ?_
        (try simp only [Act.put, List.setIfInBounds_toArray, List.set_cons_zero, List.set_cons_succ])
        refine takeD (i := 15) (d := some 100) (v := .int .i64 K) rfl (by kernel_rfl) (by kernel_rfl) (by kernel_rfl) rfl (fun _ _ _ h => h) (Or.inl ⟨by kernel_rfl, fun w1 hS1 => by rfl⟩) hHeld ?_
        (try simp only [Act.put, List.setIfInBounds_toArray, List.set_cons_zero, List.set_cons_succ])
        refine wpAnyH_ready (rs := [16]) (by kernel_rfl) (by simp) ?_
        refine AllReadyH.cons rfl (fun K hK => ?_) AllReadyH.nil
        go_simp
        go_at_call 30
        refine (HPC.out.hason _).mono ?_
        rintro e w1 ⟨rfl, hB1⟩
        (try go_simp)
        refine hK.out _ _ (Three.keep hHeld hB1) (fun hHeld => ?_)
        clear hK K
        (try simp only [Act.put, List.setIfInBounds_toArray, List.set_cons_zero, List.set_cons_succ])
        (try dsimp only at hHeld)
        refine takeD (i := 17) (d := some 102) (v := .bool true) rfl (by kernel_rfl) (by kernel_rfl) (by kernel_rfl) rfl (fun _ _ _ h => h) (Or.inl ⟨by kernel_rfl, fun w1 hS1 => by rfl⟩) hHeld ?_
        (try simp only [Act.put, List.setIfInBounds_toArray, List.set_cons_zero, List.set_cons_succ])
        refine takeD (i := 18) (d := some 103) (v := .bool true) rfl (by kernel_rfl) (by kernel_rfl) (by kernel_rfl) rfl (fun _ _ _ h => h) (Or.inl ⟨by kernel_rfl, fun w1 hS1 => by rfl⟩) hHeld ?_
        (try simp only [Act.put, List.setIfInBounds_toArray, List.set_cons_zero, List.set_cons_succ])
        refine takeD (i := 19) (d := some 104) (v := .agg #[.int .i64 W, .int .i64 Y, .int .i64 S]) rfl (by kernel_rfl) (by kernel_rfl) (by kernel_rfl) rfl (fun _ _ _ h => h) (Or.inl ⟨by kernel_rfl, fun w1 hS1 => by (try dsimp only at hS1); go_simp⟩) hHeld ?_
        (try simp only [Act.put, List.setIfInBounds_toArray, List.set_cons_zero, List.set_cons_succ])
        refine takeD (i := 20) (d := some 105) (v := .int .i64 OFF) rfl (by kernel_rfl) (by kernel_rfl) (by kernel_rfl) rfl (fun _ _ _ h => h) (Or.inl ⟨by kernel_rfl, fun w1 hS1 => by rfl⟩) hHeld ?_
        (try simp only [Act.put, List.setIfInBounds_toArray, List.set_cons_zero, List.set_cons_succ])
        refine takeD (i := 21) (d := some 106) (v := .int .i64 K) rfl (by kernel_rfl) (by kernel_rfl) (by kernel_rfl) rfl (fun _ _ _ h => h) (Or.inl ⟨by kernel_rfl, fun w1 hS1 => by rfl⟩) hHeld ?_
        (try simp only [Act.put, List.setIfInBounds_toArray, List.set_cons_zero, List.set_cons_succ])
        refine wpAnyH_ready (rs := [22]) (by kernel_rfl) (by simp) ?_
        refine AllReadyH.cons rfl (fun K hK => ?_) AllReadyH.nil
        go_simp
        go_at_call 30
        refine (HPC.out.hasoff _).mono ?_
        rintro e w1 ⟨rfl, hB1⟩
        (try go_simp)
        refine hK.out _ _ (Three.keep hHeld hB1) (fun hHeld => ?_)
        clear hK K
        (try simp only [Act.put, List.setIfInBounds_toArray, List.set_cons_zero, List.set_cons_succ])
        (try dsimp only at hHeld)
        refine takeD (i := 23) (d := some 108) (v := .bool true) rfl (by kernel_rfl) (by kernel_rfl) (by kernel_rfl) rfl (fun _ _ _ h => h) (Or.inl ⟨by kernel_rfl, fun w1 hS1 => by first | rfl | ((try dsimp only at hS1); go_simp)⟩) hHeld ?_
        (try simp only [Act.put, List.setIfInBounds_toArray, List.set_cons_zero, List.set_cons_succ])
        refine takeD (i := 24) (d := some 109) (v := .bool true) rfl (by kernel_rfl) (by kernel_rfl) (by kernel_rfl) rfl (fun _ _ _ h => h) (Or.inl ⟨by kernel_rfl, fun w1 hS1 => by rfl⟩) hHeld ?_
        (try simp only [Act.put, List.setIfInBounds_toArray, List.set_cons_zero, List.set_cons_succ])
        refine takeD (i := 25) (d := some 110) (v := .bool true) rfl (by kernel_rfl) (by kernel_rfl) (by kernel_rfl) rfl (fun _ _ _ h => h) (Or.inl ⟨by kernel_rfl, fun w1 hS1 => by rfl⟩) hHeld ?_
        (try simp only [Act.put, List.setIfInBounds_toArray, List.set_cons_zero, List.set_cons_succ])
        refine takeD (i := 26) (d := some 111) (v := .int .i64 OFF) rfl (by kernel_rfl) (by kernel_rfl) (by kernel_rfl) rfl (fun _ _ _ h => h) (Or.inl ⟨by kernel_rfl, fun w1 hS1 => by rfl⟩) hHeld ?_
        (try simp only [Act.put, List.setIfInBounds_toArray, List.set_cons_zero, List.set_cons_succ])
        refine takeD (i := 27) (d := some 112) (v := .int .i64 ON) rfl (by kernel_rfl) (by kernel_rfl) (by kernel_rfl) rfl (fun _ _ _ h => h) (Or.inl ⟨by kernel_rfl, fun w1 hS1 => by rfl⟩) hHeld ?_
        (try simp only [Act.put, List.setIfInBounds_toArray, List.set_cons_zero, List.set_cons_succ])
        refine takeD (i := 28) (d := some 113) (v := .bool false) rfl (by kernel_rfl) (by kernel_rfl) (by kernel_rfl) rfl (fun _ _ _ h => h) (Or.inl ⟨by kernel_rfl, fun w1 hS1 => by (try dsimp only at hS1); go_simp⟩) hHeld ?_
        (try simp only [Act.put, List.setIfInBounds_toArray, List.set_cons_zero, List.set_cons_succ])
        refine takeD (i := 29) (d := some 114) (v := .bool false) rfl (by kernel_rfl) (by kernel_rfl) (by kernel_rfl) rfl (fun _ _ _ h => h) (Or.inl ⟨by kernel_rfl, fun w1 hS1 => by rfl⟩) hHeld ?_
        (try simp only [Act.put, List.setIfInBounds_toArray, List.set_cons_zero, List.set_cons_succ])
        refine takeD (i := 30) (d := some 115) (v := .int .i64 OFF) rfl (by kernel_rfl) (by kernel_rfl) (by kernel_rfl) rfl (fun _ _ _ h => h) (Or.inl ⟨by kernel_rfl, fun w1 hS1 => by rfl⟩) hHeld ?_
        (try simp only [Act.put, List.setIfInBounds_toArray, List.set_cons_zero, List.set_cons_succ])
        refine takeD (i := 31) (d := some 116) (v := .int .i64 OFF) rfl (by kernel_rfl) (by kernel_rfl) (by kernel_rfl) rfl (fun _ _ _ h => h) (Or.inl ⟨by kernel_rfl, fun w1 hS1 => by rfl⟩) hHeld ?_
        (try simp only [Act.put, List.setIfInBounds_toArray, List.set_cons_zero, List.set_cons_succ])
        refine takeD (i := 32) (d := some 117) (v := .bool true) rfl (by kernel_rfl) (by kernel_rfl) (by kernel_rfl) rfl (fun _ _ _ h => h) (Or.inl ⟨by kernel_rfl, fun w1 hS1 => by (try dsimp only at hS1); go_simp⟩) hHeld ?_
        (try simp only [Act.put, List.setIfInBounds_toArray, List.set_cons_zero, List.set_cons_succ])
        refine takeD (i := 33) (d := some 118) (v := .bool true) rfl (by kernel_rfl) (by kernel_rfl) (by kernel_rfl) rfl (fun _ _ _ h => h) (Or.inl ⟨by kernel_rfl, fun w1 hS1 => by rfl⟩) hHeld ?_
        (try simp only [Act.put, List.setIfInBounds_toArray, List.set_cons_zero, List.set_cons_succ])
        refine takeD (i := 34) (d := some 119) (v := .bool true) rfl (by kernel_rfl) (by kernel_rfl) (by kernel_rfl) rfl (fun _ _ _ h => h) (Or.inl ⟨by kernel_rfl, fun w1 hS1 => by rfl⟩) hHeld ?_
        (try simp only [Act.put, List.setIfInBounds_toArray, List.set_cons_zero, List.set_cons_succ])
        refine takeD (i := 35) (d := some 120) (v := .bool true) rfl (by kernel_rfl) (by kernel_rfl) (by kernel_rfl) rfl (fun _ _ _ h => h) (Or.inl ⟨by kernel_rfl, fun w1 hS1 => by rfl⟩) hHeld ?_
        (try simp only [Act.put, List.setIfInBounds_toArray, List.set_cons_zero, List.set_cons_succ])
        refine takeD (i := 36) (d := some 121) (v := .int .i64 CP) rfl (by kernel_rfl) (by kernel_rfl) (by kernel_rfl) rfl (fun _ _ _ h => h) (Or.inl ⟨by kernel_rfl, fun w1 hS1 => by rfl⟩) hHeld ?_
        (try simp only [Act.put, List.setIfInBounds_toArray, List.set_cons_zero, List.set_cons_succ])
        refine takeD (i := 37) (d := some 122) (v := .agg #[.int .i64 W, .int .i64 Y, .int .i64 S]) rfl (by kernel_rfl) (by kernel_rfl) (by kernel_rfl) rfl (fun _ _ _ h => h) (Or.inl ⟨by kernel_rfl, fun w1 hS1 => by (try dsimp only at hS1); go_simp⟩) hHeld ?_
        (try simp only [Act.put, List.setIfInBounds_toArray, List.set_cons_zero, List.set_cons_succ])
        refine takeD (i := 38) (d := some 123) (v := .int .i64 OFF) rfl (by kernel_rfl) (by kernel_rfl) (by kernel_rfl) rfl (fun _ _ _ h => h) (Or.inl ⟨by kernel_rfl, fun w1 hS1 => by rfl⟩) hHeld ?_
        (try simp only [Act.put, List.setIfInBounds_toArray, List.set_cons_zero, List.set_cons_succ])
        refine wpAnyH_ready (rs := [39]) (by kernel_rfl) (by simp) ?_
        refine AllReadyH.cons rfl (fun K hK => ?_) AllReadyH.nil
        go_simp
        go_at_call 31
        refine (HPC.out.count _).mono ?_
        rintro e w1 ⟨rfl, hB1⟩
        (try go_simp)
        refine hK.out _ _ (Three.keep hHeld hB1) (fun hHeld => ?_)
        clear hK K
        (try simp only [Act.put, List.setIfInBounds_toArray, List.set_cons_zero, List.set_cons_succ])
        (try dsimp only at hHeld)
        refine takeD (i := 40) (d := some 125) (v := .bool true) rfl (by kernel_rfl) (by kernel_rfl) (by kernel_rfl) rfl (fun _ _ _ h => h) (Or.inl ⟨by kernel_rfl, fun w1 hS1 => by (try dsimp only at hS1); go_simp⟩) hHeld ?_
        (try simp only [Act.put, List.setIfInBounds_toArray, List.set_cons_zero, List.set_cons_succ])
        refine takeD (i := 41) (d := some 126) (v := .bool true) rfl (by kernel_rfl) (by kernel_rfl) (by kernel_rfl) rfl (fun _ _ _ h => h) (Or.inl ⟨by kernel_rfl, fun w1 hS1 => by rfl⟩) hHeld ?_
        (try simp only [Act.put, List.setIfInBounds_toArray, List.set_cons_zero, List.set_cons_succ])
        refine takeD (i := 42) (d := some 127) (v := .bool true) rfl (by kernel_rfl) (by kernel_rfl) (by kernel_rfl) rfl (fun _ _ _ h => h) (Or.inl ⟨by kernel_rfl, fun w1 hS1 => by rfl⟩) hHeld ?_
        (try simp only [Act.put, List.setIfInBounds_toArray, List.set_cons_zero, List.set_cons_succ])
        refine takeD (i := 43) (d := some 128) (v := .int .i64 CS) rfl (by kernel_rfl) (by kernel_rfl) (by kernel_rfl) rfl (fun _ _ _ h => h) (Or.inl ⟨by kernel_rfl, fun w1 hS1 => by rfl⟩) hHeld ?_
        (try simp only [Act.put, List.setIfInBounds_toArray, List.set_cons_zero, List.set_cons_succ])
        refine takeD (i := 44) (d := some 129) (v := .slice (some ⟨g, 0, none⟩) CS cp) rfl (by kernel_rfl) (by kernel_rfl) (by kernel_rfl) rfl (fun _ _ _ h => h) (Or.inl ⟨by kernel_rfl, fun w1 hS1 => by rfl⟩) hHeld ?_
        (try simp only [Act.put, List.setIfInBounds_toArray, List.set_cons_zero, List.set_cons_succ])
        refine takeD (i := 45) (d := some 130) (v := .int .i64 CS) rfl (by kernel_rfl) (by kernel_rfl) (by kernel_rfl) rfl (fun _ _ _ h => h) (Or.inl ⟨by kernel_rfl, fun w1 hS1 => by (try dsimp only at hS1); go_simp⟩) hHeld ?_
        (try simp only [Act.put, List.setIfInBounds_toArray, List.set_cons_zero, List.set_cons_succ])
        refine takeD (i := 46) (d := some 131) (v := .bool true) rfl (by kernel_rfl) (by kernel_rfl) (by kernel_rfl) rfl (fun _ _ _ h => h) (Or.inl ⟨by kernel_rfl, fun w1 hS1 => by (try dsimp only at hS1); go_simp⟩) hHeld ?_
        (try simp only [Act.put, List.setIfInBounds_toArray, List.set_cons_zero, List.set_cons_succ])
        refine takeD (i := 47) (d := some 132) (v := .bool true) rfl (by kernel_rfl) (by kernel_rfl) (by kernel_rfl) rfl (fun _ _ _ h => h) (Or.inl ⟨by kernel_rfl, fun w1 hS1 => by rfl⟩) hHeld ?_
        (try simp only [Act.put, List.setIfInBounds_toArray, List.set_cons_zero, List.set_cons_succ])
        refine takeD (i := 48) (d := some 133) (v := .bool true) rfl (by kernel_rfl) (by kernel_rfl) (by kernel_rfl) rfl (fun _ _ _ h => h) (Or.inl ⟨by kernel_rfl, fun w1 hS1 => by rfl⟩) hHeld ?_
        (try simp only [Act.put, List.setIfInBounds_toArray, List.set_cons_zero, List.set_cons_succ])
        refine takeD (i := 49) (d := some 134) (v := .agg #[.int .i64 W, .int .i64 Y, .int .i64 S]) rfl (by kernel_rfl) (by kernel_rfl) (by kernel_rfl) rfl (fun _ _ _ h => h) (Or.inl ⟨by kernel_rfl, fun w1 hS1 => by (try dsimp only at hS1); go_simp⟩) hHeld ?_
        (try simp only [Act.put, List.setIfInBounds_toArray, List.set_cons_zero, List.set_cons_succ])
        refine takeD (i := 50) (d := some 135) (v := .int .i64 K) rfl (by kernel_rfl) (by kernel_rfl) (by kernel_rfl) rfl (fun _ _ _ h => h) (Or.inl ⟨by kernel_rfl, fun w1 hS1 => by rfl⟩) hHeld ?_
        (try simp only [Act.put, List.setIfInBounds_toArray, List.set_cons_zero, List.set_cons_succ])
        refine takeD (i := 52) (d := some 137) (v := .agg #[.int .i64 W, .int .i64 Y, .int .i64 S]) rfl (by kernel_rfl) (by kernel_rfl) (by kernel_rfl) rfl (fun _ _ _ h => h) (Or.inl ⟨by kernel_rfl, fun w1 hS1 => by (try dsimp only at hS1); go_simp⟩) hHeld ?_
        (try simp only [Act.put, List.setIfInBounds_toArray, List.set_cons_zero, List.set_cons_succ])
        refine takeD (i := 53) (d := some 138) (v := .int .i64 K) rfl (by kernel_rfl) (by kernel_rfl) (by kernel_rfl) rfl (fun _ _ _ h => h) (Or.inl ⟨by kernel_rfl, fun w1 hS1 => by rfl⟩) hHeld ?_
        (try simp only [Act.put, List.setIfInBounds_toArray, List.set_cons_zero, List.set_cons_succ])
        refine takeD (i := 56) (d := some 141) (v := .pointer (some ⟨n, 2, none⟩)) rfl (by kernel_rfl) (by kernel_rfl) (by kernel_rfl) rfl (fun _ _ _ h => h) (Or.inl ⟨by kernel_rfl, fun w1 hS1 => by (try dsimp only at hS1); go_simp⟩) hHeld ?_
        (try simp only [Act.put, List.setIfInBounds_toArray, List.set_cons_zero, List.set_cons_succ])
        refine takeD (i := 57) (d := some 142) (v := .int .i64 S) rfl (by kernel_rfl) (by kernel_rfl) (by kernel_rfl) rfl (fun _ _ _ h => h) (Or.inl ⟨by kernel_rfl, fun w1 hS1 => by (try dsimp only at hS1); go_simp⟩) hHeld ?_
        (try simp only [Act.put, List.setIfInBounds_toArray, List.set_cons_zero, List.set_cons_succ])
        refine wpAnyH_ready (rs := [51]) (by kernel_rfl) (by simp) ?_
        refine AllReadyH.cons rfl (fun K hK => ?_) AllReadyH.nil
        go_simp
        go_at_call 32
        refine (HPC.out.full _).mono ?_
        rintro e w1 ⟨rfl, hB1⟩
        (try go_simp)
        refine hK.out _ _ (Three.keep hHeld hB1) (fun hHeld => ?_)
        clear hK K
        (try simp only [Act.put, List.setIfInBounds_toArray, List.set_cons_zero, List.set_cons_succ])
        (try dsimp only at hHeld)
        refine wpAnyH_ready (rs := [54]) (by kernel_rfl) (by simp) ?_
        refine AllReadyH.cons rfl (fun K hK => ?_) AllReadyH.nil
        go_simp
        go_at_call 33
        refine (HPC.out.single _).mono ?_
        rintro e w1 ⟨rfl, hB1⟩
        (try go_simp)
        refine hK.out _ _ (Three.keep hHeld hB1) (fun hHeld => ?_)
        clear hK K
        (try simp only [Act.put, List.setIfInBounds_toArray, List.set_cons_zero, List.set_cons_succ])
        (try dsimp only at hHeld)
        refine takeD (i := 55) (d := some 140) (v := .int .i64 S) rfl (by kernel_rfl) (by kernel_rfl) (by kernel_rfl) rfl (fun _ _ _ h => h) (Or.inl ⟨by kernel_rfl, fun w1 hS1 => by (try dsimp only at hS1); go_simp⟩) hHeld ?_
        (try simp only [Act.put, List.setIfInBounds_toArray, List.set_cons_zero, List.set_cons_succ])
        refine takeD (i := 58) (d := some 143) (v := .bool true) rfl (by kernel_rfl) (by kernel_rfl) (by kernel_rfl) rfl (fun _ _ _ h => h) (Or.inl ⟨by kernel_rfl, fun w1 hS1 => by (try dsimp only at hS1); go_simp⟩) hHeld ?_
        (try simp only [Act.put, List.setIfInBounds_toArray, List.set_cons_zero, List.set_cons_succ])
        refine takeD (i := 59) (d := some 144) (v := .bool true) rfl (by kernel_rfl) (by kernel_rfl) (by kernel_rfl) rfl (fun _ _ _ h => h) (Or.inl ⟨by kernel_rfl, fun w1 hS1 => by rfl⟩) hHeld ?_
        (try simp only [Act.put, List.setIfInBounds_toArray, List.set_cons_zero, List.set_cons_succ])
        refine takeD (i := 60) (d := some 145) (v := .bool true) rfl (by kernel_rfl) (by kernel_rfl) (by kernel_rfl) rfl (fun _ _ _ h => h) (Or.inl ⟨by kernel_rfl, fun w1 hS1 => by rfl⟩) hHeld ?_
        (try simp only [Act.put, List.setIfInBounds_toArray, List.set_cons_zero, List.set_cons_succ])
        refine takeD (i := 61) (d := some 146) (v := .agg #[.int .i64 W, .int .i64 Y, .int .i64 S]) rfl (by kernel_rfl) (by kernel_rfl) (by kernel_rfl) rfl (fun _ _ _ h => h) (Or.inl ⟨by kernel_rfl, fun w1 hS1 => by (try dsimp only at hS1); go_simp⟩) hHeld ?_
        (try simp only [Act.put, List.setIfInBounds_toArray, List.set_cons_zero, List.set_cons_succ])
        refine takeD (i := 62) (d := some 147) (v := .int .i64 OFF) rfl (by kernel_rfl) (by kernel_rfl) (by kernel_rfl) rfl (fun _ _ _ h => h) (Or.inl ⟨by kernel_rfl, fun w1 hS1 => by rfl⟩) hHeld ?_
        (try simp only [Act.put, List.setIfInBounds_toArray, List.set_cons_zero, List.set_cons_succ])
        refine wpAnyH_ready (rs := [63]) (by kernel_rfl) (by simp) ?_
        refine AllReadyH.cons rfl (fun K hK => ?_) AllReadyH.nil
        go_simp
        go_at_call 34
        refine (HPC.out.ok _).mono ?_
        rintro e w1 ⟨rfl, hB1⟩
        (try go_simp)
        refine hK.out _ _ (Three.keep hHeld hB1) (fun hHeld => ?_)
        clear hK K
        (try simp only [Act.put, List.setIfInBounds_toArray, List.set_cons_zero, List.set_cons_succ])
        (try dsimp only at hHeld)
        refine takeD (i := 64) (d := some 149) (v := .bool true) rfl (by kernel_rfl) (by kernel_rfl) (by kernel_rfl) rfl (fun _ _ _ h => h) (Or.inl ⟨by kernel_rfl, fun w1 hS1 => by rfl⟩) hHeld ?_
        (try simp only [Act.put, List.setIfInBounds_toArray, List.set_cons_zero, List.set_cons_succ])
        refine takeD (i := 65) (d := some 150) (v := .bool true) rfl (by kernel_rfl) (by kernel_rfl) (by kernel_rfl) rfl (fun _ _ _ h => h) (Or.inl ⟨by kernel_rfl, fun w1 hS1 => by rfl⟩) hHeld ?_
        (try simp only [Act.put, List.setIfInBounds_toArray, List.set_cons_zero, List.set_cons_succ])
        refine takeD (i := 66) (d := some 151) (v := .agg #[.int .i64 W, .int .i64 Y, .int .i64 S]) rfl (by kernel_rfl) (by kernel_rfl) (by kernel_rfl) rfl (fun _ _ _ h => h) (Or.inl ⟨by kernel_rfl, fun w1 hS1 => by (try dsimp only at hS1); go_simp⟩) hHeld ?_
        (try simp only [Act.put, List.setIfInBounds_toArray, List.set_cons_zero, List.set_cons_succ])
        refine takeD (i := 67) (d := some 152) (v := .agg #[.int .i64 W, .int .i64 Y, .int .i64 S]) rfl (by kernel_rfl) (by kernel_rfl) (by kernel_rfl) rfl (fun _ _ _ h => h) (Or.inl ⟨by kernel_rfl, fun w1 hS1 => by (try dsimp only at hS1); go_simp⟩) hHeld ?_
        (try simp only [Act.put, List.setIfInBounds_toArray, List.set_cons_zero, List.set_cons_succ])
        refine takeD (i := 68) (d := some 153) (v := .int .i64 K) rfl (by kernel_rfl) (by kernel_rfl) (by kernel_rfl) rfl (fun _ _ _ h => h) (Or.inl ⟨by kernel_rfl, fun w1 hS1 => by rfl⟩) hHeld ?_
        (try simp only [Act.put, List.setIfInBounds_toArray, List.set_cons_zero, List.set_cons_succ])
        refine wpAnyH_ready (rs := [69]) (by kernel_rfl) (by simp) ?_
        refine AllReadyH.cons rfl (fun K hK => ?_) AllReadyH.nil
        go_simp
        go_at_call 33
        refine (HPC.out.single _).mono ?_
        rintro e w1 ⟨rfl, hB1⟩
        (try go_simp)
        refine hK.out _ _ (Three.keep hHeld hB1) (fun hHeld => ?_)
        clear hK K
        (try simp only [Act.put, List.setIfInBounds_toArray, List.set_cons_zero, List.set_cons_succ])
        (try dsimp only at hHeld)
        refine wpAnyH_ready (rs := [70]) (by kernel_rfl) (by simp) ?_
        refine AllReadyH.cons rfl (fun K hK => ?_) AllReadyH.nil
        go_simp
        go_at_call 31
        refine (HPC.out.one _).mono ?_
        rintro e w1 ⟨rfl, hB1⟩
        (try go_simp)
        refine hK.out _ _ (Three.keep hHeld hB1) (fun hHeld => ?_)
        clear hK K
        (try simp only [Act.put, List.setIfInBounds_toArray, List.set_cons_zero, List.set_cons_succ])
        (try dsimp only at hHeld)
        refine takeD (i := 71) (d := some 156) (v := .bool true) rfl (by kernel_rfl) (by kernel_rfl) (by kernel_rfl) rfl (fun _ _ _ h => h) (Or.inl ⟨by kernel_rfl, fun w1 hS1 => by (try dsimp only at hS1); go_simp⟩) hHeld ?_
        (try simp only [Act.put, List.setIfInBounds_toArray, List.set_cons_zero, List.set_cons_succ])
        refine takeD (i := 72) (d := some 157) (v := .bool true) rfl (by kernel_rfl) (by kernel_rfl) (by kernel_rfl) rfl (fun _ _ _ h => h) (Or.inl ⟨by kernel_rfl, fun w1 hS1 => by rfl⟩) hHeld ?_
        (try simp only [Act.put, List.setIfInBounds_toArray, List.set_cons_zero, List.set_cons_succ])
        refine takeD (i := 73) (d := some 2) (v := .bool true) rfl (by kernel_rfl) (by kernel_rfl) (by kernel_rfl) rfl (fun _ _ _ h => h) (Or.inl ⟨by kernel_rfl, fun w1 hS1 => by rfl⟩) hHeld ?_
        (try simp only [Act.put, List.setIfInBounds_toArray, List.set_cons_zero, List.set_cons_succ])
        refine wpAnyH_done (by kernel_rfl) ?_ _
        go_wp2
        go_ret
        exact ⟨rfl, hBel.out.andThen hHeld.2.2.2⟩
end Go.Proofs.Ytoipnooncnpndaa
