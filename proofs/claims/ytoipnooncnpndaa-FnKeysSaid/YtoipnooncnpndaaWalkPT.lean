/-
  The walks of PositionText (impl and spec).
-/
import Derived.Test.YtoipnooncnpndaaMarkS
import Derived.Test.YtoipnooncnpndaaHexI
import Derived.Test.YtoipnooncnpndaaWalkJ
import Derived.Test.YtoipnooncnpndaaWalkB
import Derived.Maps.AppendAt
namespace Go.Proofs.Ytoipnooncnpndaa
open Go.RowKit
open Peg
set_option linter.unusedVariables false
set_option linter.unusedSimpArgs false

def chrP (P S k : Nat) : Int := if P.testBit k then 111 else if S.testBit k then 46 else 32
def rowP (P S W y x : Nat) : List Int := (List.range x).map (fun j => chrP P S (y * W + j))
theorem rowP_succ (P S W y x : Nat) : rowP P S W y (x + 1) = rowP P S W y x ++ [chrP P S (y * W + x)] := by
  unfold rowP; rw [List.range_succ, List.map_append]; rfl
theorem rowP_len (P S W y x : Nat) : (rowP P S W y x).length = x := by simp [rowP]
def textP (P S W y : Nat) : List ByteArray := (List.range y).map (fun j => strOfNums (rowP P S W j W))
theorem textP_succ (P S W y : Nat) : textP P S W (y + 1) = textP P S W y ++ [strOfNums (rowP P S W y W)] := by
  unfold textP; rw [List.range_succ, List.map_append]; rfl
theorem textP_len (P S W y : Nat) : (textP P S W y).length = y := by simp [textP]
theorem strOfNums_snoc (xs : List Int) (c : Int) : strOfNums (xs ++ [c]) = strOfNums xs ++ strOfNums [c] := by
  apply ByteArray.ext; simp [strOfNums, ByteArray.data_append]
theorem chr_o {P S k : Nat} (h : P.testBit k = true) : chrP P S k = 111 := by unfold chrP; rw [h]; rfl
theorem chr_d {P S k : Nat} (h : P.testBit k = false) (h2 : S.testBit k = true) : chrP P S k = 46 := by unfold chrP; rw [h, h2]; rfl
theorem chr_s {P S k : Nat} (h : P.testBit k = false) (h2 : S.testBit k = false) : chrP P S k = 32 := by unfold chrP; rw [h, h2]; rfl
theorem sub_bit {P S k : Nat} (h : P &&& S = P) (h2 : P.testBit k = true) : S.testBit k = true := by
  have := congrArg (fun x => x.testBit k) h
  simp only [Nat.testBit_and, h2, Bool.true_and] at this
  exact this
theorem place_lt {W H S y x : Nat} (ok : Ok W H S) (hy : y < H) (hx : x ≤ W) : y * W + x ≤ 49 := by
  have h1 : (y + 1) * W ≤ 7 * 7 := Nat.mul_le_mul (by have := ok.h7; omega) ok.w7
  rw [Nat.succ_mul] at h1
  omega
/-- The text of a position, or none. -/
def textR (a h s p : Int) : List ByteArray := if pOk a h s p then textP p.toNat s.toNat a.toNat h.toNat else []
theorem textR_ok {W H S P : Nat} (ok : Ok W H S) (h : P &&& S = P) : textR W H S P = textP P S W H := by
  unfold textR
  rw [(pOk_iff ok _).2 ⟨P, rfl, h⟩]; simp
theorem textR_no {a h s p : Int} (hb : pOk a h s p = false) : textR a h s p = [] := by unfold textR; rw [hb]; rfl
theorem cell_keptP {w w1 : World} {n o : Nat} {v : Value} (h : w.cell? ⟨n, o, none⟩ = some v) (hb : Below w.heap.size w w1) : w1.cell? ⟨n, o, none⟩ = some v :=
  (hb.cell (p := ⟨n, o, none⟩) (World.block_lt_of_cell? w _ h)).trans h

theorem PositionText_no (a h s p : Int) (hp : p < 2 ^ 63) (hb : pOk a h s p = false) (w : World) :
    Calls Try.prog 11 #[.agg #[.int .i64 a, .int .i64 h, .int .i64 s], .int .i64 p] w (RetS w []) := by
  go_enter Try.func11, Try.ntmps11
  go_wp2_with fail
  refine (PositionOk_b false _ _ _ _ hp hb _).mono ?_
  rintro e w1 ⟨rfl, hB1⟩
  go_wp2
  go_ret
  exact ⟨_, rfl, ⟨rfl, .inl ⟨rfl, rfl⟩⟩, (below1 _ _).andThen hB1⟩

set_option maxHeartbeats 1600000 in
set_option maxRecDepth 100000 in
theorem PositionText_yes (W H S P : Nat) (ok : Ok W H S) (hsub : P &&& S = P) (w : World) :
    Calls Try.prog 11 #[.agg #[.int .i64 W, .int .i64 H, .int .i64 S], .int .i64 P] w (RetS w (textP P S W H)) := by
  obtain ⟨i0, hi, hz0, hz1, hz2⟩ := info_parts info_str
  obtain ⟨j0, hj, hy0, hy1, hy2⟩ := info_parts_u8 info_u8
  have hS := ok.lt63
  have hP : P < 2 ^ 63 := Nat.lt_of_le_of_lt (sub_le hsub) hS
  have hPi := Lib.hid (show (P : Int) < 2 ^ 63 by omega)
  have HP := Lib.hid hP
  have HS := Lib.hid hS
  have hok := Lib.hid ((pOk_iff ok (P : Int)).2 ⟨P, rfl, hsub⟩)
  have hw7 := ok.w7
  have hh7 := ok.h7
  have HO := Lib.hid ok
  clear ok hsub hP hS
  go_enter Try.func11, Try.ntmps11
  have X0 := BoxAt.new w W H S 26
  have hBel0 := Lib.hid (below1 w (.cells #[.int .i64 W, .int .i64 H, .int .i64 S] 26))
  go_wp2_with fail
  refine (PositionOk_b true _ _ _ _ hPi.out hok.out _).mono ?_
  rintro e w1 ⟨rfl, hB1⟩
  have X1 := X0.below hB1
  have hBel1 := Lib.hid (hBel0.out.andThen hB1)
  clear X0 hBel0 hB1 hok
  obtain ⟨b0, b1, b2, bz⟩ := X1
  have R0 := rowNilS w1 w1.heap.size w1.heap.size (Nat.le_refl _) rfl
  have hBelS : Below w1.heap.size w1 (w1.alloc (.cells #[] 9)) := (Below.refl _ _).alloc (Nat.le_refl _) _
  go_wp2_with fail
  go_loopw [5, 6] (fun v j wr => ∃ y : Nat, y ≤ H ∧ j = .int .i64 y ∧ RowS wr w1.heap.size v (textP P S W y) ∧ Below w1.heap.size w1 wr) (fun _ j _ => H - (intOf j).toNat)
  case atStart => exact ⟨0, by omega, rfl, R0, hBelS⟩
  case round =>
    clear R0 hBelS
    obtain ⟨y, hy, rfl, hrow, hB⟩ := hrel
    have hszr := hB.size
    have hzr : w.heap.size < wr.heap.size := Nat.lt_of_lt_of_le bz hszr
    have d0 := cell_keptP b0 hB
    have d1 := cell_keptP b1 hB
    have d2 := cell_keptP b2 hB
    clear b0 b1 b2
    by_cases hlt : y < H
    · have hlt1 : (y : Int) < (H : Int) := by omega
      have hpl := place_lt HO.out hlt (Nat.le_refl W)
      obtain ⟨Y, hY⟩ : ∃ Y, y * W = Y := ⟨_, rfl⟩
      have hm1 : (y : Int) * (W : Int) = (Y : Int) := by rw [← hY]; simp
      have hm2 : ((y : Int) + 1) * (W : Int) = (Y : Int) + (W : Int) := by rw [Int.add_mul, hm1]; omega
      rw [hY] at hpl
      have HY := Lib.hid hY
      clear hY
      rename World => wo
      have R1 := rowNilU wo wo.heap.size wo.heap.size (Nat.le_refl _) rfl
      have hBelU : Below wo.heap.size wo (wo.alloc (.cells #[] 5)) := (Below.refl _ _).alloc (Nat.le_refl _) _
      have HB := Lib.hid hB
      have HROW := Lib.hid hrow
      clear hB hrow
      go_wp2_with fail
      go_loopw [7, 8] (fun v j wr => ∃ x : Nat, x ≤ W ∧ j = .int .i64 (Y + x : Nat) ∧ RowU wr wo.heap.size v (rowP P S W y x) ∧ Below wo.heap.size wo wr) (fun _ j _ => Y + W - (intOf j).toNat)
      case atStart => exact ⟨0, by omega, rfl, R1, hBelU⟩
      case round =>
        clear R1 hBelU
        obtain ⟨x, hx, rfl, hrow, hB⟩ := hrel
        have hszi := hB.size
        have hzi : w.heap.size < wr.heap.size := Nat.lt_of_lt_of_le hzr hszi
        have e0 := cell_keptP d0 hB
        have e1 := cell_keptP d1 hB
        have e2 := cell_keptP d2 hB
        clear d0 d1 d2
        have hlen : (rowP P S W y x).length ≤ 7 := by rw [rowP_len]; omega
        by_cases hlx : x < W
        · have hl1 : ((Y + x : Nat) : Int) < (Y : Int) + (W : Int) := by omega
          have hl2 : (Y : Int) + (x : Int) < (Y : Int) + (W : Int) := by omega
          have hk62 : Y + x ≤ 62 := by omega
          have hown := hrow
          unfold RowU at hown
          have HN := Lib.hid (rowP_succ P S W y x)
          rw [HY.out] at HN
          have HB2 := Lib.hid hB
          clear hB hrow
          cases hpb : P.testBit (Y + x)
          · cases hsb : S.testBit (Y + x)
            · have HC := Lib.hid (chr_s (P := P) (S := S) hpb hsb)
              have HPB := Lib.hid hpb
              have HSB := Lib.hid hsb
              clear hpb hsb
              go_wp2_with (first | (go_at_call 58; refine (hasBit_c _ P _ HP.out (by omega) HPB.out _).mono ?_; rintro e wq ⟨rfl, hwq⟩; subst wq) | (go_at_call 58; refine (hasBit_c _ S _ HS.out (by omega) HSB.out _).mono ?_; rintro e wq ⟨rfl, hwq⟩; subst wq) | (at_builtin; refine wpList_append_own_at _ rfl _ _ 31 rfl wo.heap.size 5 j0 (.int .u8 0) 1 1 Try.underlying31 hj hy0 hy1 hy2 rfl (by decide) _ _ _ rfl (hown.alloc _) ⟨wr.heap.size, 0, none⟩ 1 1 [.int .u8 32] rfl rfl (cell_one_new _ _ _) (by simp [Value.oneCell']) (by unfold maxLen; omega) (by omega) (by simp; omega) ?_))
              intro v' w3 hown' hgrow _ hat
              have R := Lib.hid (RowU.put1 hown')
              rw [← HC.out, ← HN.out] at R
              have hB3 := Lib.hid ((HB2.out.more _).grown hgrow (by simp; omega) (fun j hj => (World.ownsRow.lt hown j hj).1))
              clear hown hown' hgrow hat
              go_wp2
              go_roundw
              case rel => exact ⟨x + 1, by omega, by go_num, R.out, hB3.out⟩
              case measure => simp [intOf]; omega
            · have HC := Lib.hid (chr_d (P := P) (S := S) hpb hsb)
              have HPB := Lib.hid hpb
              have HSB := Lib.hid hsb
              clear hpb hsb
              go_wp2_with (first | (go_at_call 58; refine (hasBit_c _ P _ HP.out (by omega) HPB.out _).mono ?_; rintro e wq ⟨rfl, hwq⟩; subst wq) | (go_at_call 58; refine (hasBit_c _ S _ HS.out (by omega) HSB.out _).mono ?_; rintro e wq ⟨rfl, hwq⟩; subst wq) | (at_builtin; refine wpList_append_own_at _ rfl _ _ 31 rfl wo.heap.size 5 j0 (.int .u8 0) 1 1 Try.underlying31 hj hy0 hy1 hy2 rfl (by decide) _ _ _ rfl (hown.alloc _) ⟨wr.heap.size, 0, none⟩ 1 1 [.int .u8 46] rfl rfl (cell_one_new _ _ _) (by simp [Value.oneCell']) (by unfold maxLen; omega) (by omega) (by simp; omega) ?_))
              intro v' w3 hown' hgrow _ hat
              have R := Lib.hid (RowU.put1 hown')
              rw [← HC.out, ← HN.out] at R
              have hB3 := Lib.hid ((HB2.out.more _).grown hgrow (by simp; omega) (fun j hj => (World.ownsRow.lt hown j hj).1))
              clear hown hown' hgrow hat
              go_wp2
              go_roundw
              case rel => exact ⟨x + 1, by omega, by go_num, R.out, hB3.out⟩
              case measure => simp [intOf]; omega
          · have HC := Lib.hid (chr_o (P := P) (S := S) hpb)
            have HPB := Lib.hid hpb
            have HSB := Lib.hid True.intro
            clear hpb
            go_wp2_with (first | (go_at_call 58; refine (hasBit_c _ P _ HP.out (by omega) HPB.out _).mono ?_; rintro e wq ⟨rfl, hwq⟩; subst wq) | (go_at_call 58; refine (hasBit_c _ S _ HS.out (by omega) HSB.out _).mono ?_; rintro e wq ⟨rfl, hwq⟩; subst wq) | (at_builtin; refine wpList_append_own_at _ rfl _ _ 31 rfl wo.heap.size 5 j0 (.int .u8 0) 1 1 Try.underlying31 hj hy0 hy1 hy2 rfl (by decide) _ _ _ rfl (hown.alloc _) ⟨wr.heap.size, 0, none⟩ 1 1 [.int .u8 111] rfl rfl (cell_one_new _ _ _) (by simp [Value.oneCell']) (by unfold maxLen; omega) (by omega) (by simp; omega) ?_))
            intro v' w3 hown' hgrow _ hat
            have R := Lib.hid (RowU.put1 hown')
            rw [← HC.out, ← HN.out] at R
            have hB3 := Lib.hid ((HB2.out.more _).grown hgrow (by simp; omega) (fun j hj => (World.ownsRow.lt hown j hj).1))
            clear hown hown' hgrow hat
            go_wp2
            go_roundw
            case rel => exact ⟨x + 1, by omega, by go_num, R.out, hB3.out⟩
            case measure => simp [intOf]; omega
        · have hl1 : ¬ ((Y + x : Nat) : Int) < (Y : Int) + (W : Int) := by omega
          have hl2 : ¬ (Y : Int) + (x : Int) < (Y : Int) + (W : Int) := by omega
          have hxe : x = W := by omega
          have hrowW : RowU wr wo.heap.size u7 (rowP P S W y W) := by have h := hrow; rw [hxe] at h; exact h
          have hcv := RowU.str (P := Try.prog) hrowW 31 9 Try.underlying31 Try.underlying5 Try.underlying9
          have HX := Lib.hid hxe
          have HT := Lib.hid (textP_succ P S W y)
          have htl : (textP P S W y).length ≤ 7 := by rw [textP_len]; omega
          have hown := HROW.out.kept hB
          unfold RowS at hown
          have HB2 := Lib.hid (HB.out.andThen hB)
          have hkeep := Lib.hid (fun k hk => (World.ownsRow.lt hown k hk).1)
          clear hxe hrow hrowW hB HB HROW
          go_wp2_with (at_builtin; refine wpList_append_own_at _ rfl _ _ 24 rfl w1.heap.size 9 i0 (.string ByteArray.empty) 1 16 Try.underlying24 hi hz0 hz1 hz2 rfl (by decide) _ _ _ rfl (hown.alloc _) ⟨wr.heap.size, 0, none⟩ 1 1 [.string (strOfNums (rowP P S W y W))] rfl rfl (cell_one_new _ _ _) (by simp [Value.oneCell']) (by unfold maxLen; omega) (by omega) (by simp; omega) ?_)
          intro v' w3 hown' hgrow _ hat
          have R := Lib.hid (RowS.put hown')
          rw [← HT.out] at R
          have hB3 := Lib.hid ((HB2.out.more _).grown hgrow (by simp; omega) hkeep.out)
          clear hown hown' hgrow hat
          go_wp2
          go_roundw
          case rel => exact ⟨y + 1, by omega, by go_num, R.out, hB3.out⟩
          case measure => simp [intOf]; omega
    · have hlt1 : ¬ (y : Int) < (H : Int) := by omega
      have hye : y = H := by omega
      have R := Lib.hid hrow
      rw [hye] at R
      have HB2 := Lib.hid (hBel1.out.andThen hB)
      have hsz := hBel1.out.size
      clear hye
      go_wp2
      go_ret
      exact ⟨_, rfl, R.out.le hsz, HB2.out⟩

end Go.Proofs.Ytoipnooncnpndaa
