/-
  The walk of spec.PositionText.
-/
import Derived.Test.YtoipnooncnpndaaWalkPT
namespace Go.Proofs.Ytoipnooncnpndaa
open Go.RowKit
open Peg
set_option linter.unusedVariables false
set_option linter.unusedSimpArgs false

theorem and_one0 (S k : Nat) (hS : S < 2 ^ 63) (b : Bool) (hb : S.testBit k = b) : (bits BinOp.and IntKind.i64 ((S : Int) / 2 ^ k) 1 == 0) = !b := by
  have e : ((S : Int) / 2 ^ k) = ((S / 2 ^ k : Nat) : Int) := by simp
  have h1 : S / 2 ^ k < 2 ^ 63 := Nat.lt_of_le_of_lt (Nat.div_le_self _ _) hS
  rw [e, show (1 : Int) = ((1 : Nat) : Int) from rfl, Bit.i64_and _ _ h1 (by decide), Nat.and_one_is_mod]
  rw [Nat.testBit_eq_decide_div_mod_eq] at hb
  subst hb
  rcases Nat.mod_two_eq_zero_or_one (S / 2 ^ k) with h | h <;> rw [h] <;> rfl
theorem and_one1 (S k : Nat) (hS : S < 2 ^ 63) (b : Bool) (hb : S.testBit k = b) : (bits BinOp.and IntKind.i64 ((S : Int) / 2 ^ k) 1 == 1) = b := by
  rw [bit_test S k hS, hb]

theorem specPositionText_no (a h s p : Int) (hp : p < 2 ^ 63) (hb : pOk a h s p = false) (w : World) :
    Calls Try.prog 9 #[.agg #[.int .i64 a, .int .i64 h, .int .i64 s], .int .i64 p] w (RetS w []) := by
  go_enter Try.func9, Try.ntmps9
  have hp2 := Lib.hid hp
  clear hp
  by_cases hh : 0 < h
  · go_wp2_with fail
    refine wp_loop_rounds 1 ?_
    rw [rounds_succ]
    go_wp2_with fail
    refine (specPositionOk_b false _ _ _ _ hp2.out hb _).mono ?_
    rintro e w1 ⟨rfl, hB1⟩
    have hrow : RowS ((w.alloc (.cells #[.int .i64 a, .int .i64 h, .int .i64 s] 26)).alloc (.cells #[] 9)) w.heap.size (.slice (some ⟨w.heap.size + 1, 0, none⟩) 0 0) [] :=
      rowNilS (w.alloc _) _ _ (by simp) (by simp)
    have HR := Lib.hid (hrow.kept hB1)
    clear hrow
    go_wp2
    go_ret
    exact ⟨_, rfl, HR.out, ((below1 _ _).more _).andThen hB1⟩
  · have hrow : RowS ((w.alloc (.cells #[.int .i64 a, .int .i64 h, .int .i64 s] 26)).alloc (.cells #[] 9)) w.heap.size (.slice (some ⟨w.heap.size + 1, 0, none⟩) 0 0) [] :=
      rowNilS (w.alloc _) _ _ (by simp) (by simp)
    have HR := Lib.hid hrow
    clear hrow
    go_wp2_with fail
    refine wp_loop_rounds 1 ?_
    rw [rounds_succ]
    go_wp2_with fail
    go_ret
    exact ⟨_, rfl, HR.out, (below1 _ _).more _⟩

set_option maxHeartbeats 1600000 in
set_option maxRecDepth 100000 in
theorem specPositionText_yes (W H S P : Nat) (ok : Ok W H S) (hsub : P &&& S = P) (w : World) :
    Calls Try.prog 9 #[.agg #[.int .i64 W, .int .i64 H, .int .i64 S], .int .i64 P] w (RetS w (textP P S W H)) := by
  obtain ⟨i0, hi, hz0, hz1, hz2⟩ := info_parts info_str
  have hS := ok.lt63
  have hP : P < 2 ^ 63 := Nat.lt_of_le_of_lt (sub_le hsub) hS
  have hPi := Lib.hid (show (P : Int) < 2 ^ 63 by omega)
  have HP := Lib.hid hP
  have HS := Lib.hid hS
  have hok := Lib.hid ((pOk_iff ok (P : Int)).2 ⟨P, rfl, hsub⟩)
  have hw7 := ok.w7
  have hh7 := ok.h7
  have HO := Lib.hid ok
  have HSUB := Lib.hid hsub
  clear ok hsub hP hS
  go_enter Try.func9, Try.ntmps9
  go_wp2_with fail
  go_loopw [5, 6] (fun v j wr => ∃ y : Nat, y ≤ H ∧ j = .int .i64 y ∧ RowS wr (w.heap.size + 1) v (textP P S W y) ∧ Below (w.heap.size + 1) (w.alloc (.cells #[.int .i64 W, .int .i64 H, .int .i64 S] 26)) wr) (fun _ j _ => H - (intOf j).toNat)
  case atStart => exact ⟨0, by omega, rfl, rowNilS (w.alloc _) _ _ (by simp) (by simp), (Below.refl _ _).alloc (by simp) _⟩
  case round =>
    obtain ⟨y, hy, rfl, hrow, hB⟩ := hrel
    have hszr : w.heap.size + 1 ≤ wr.heap.size := by have := hB.size; simpa using this
    have hzr : w.heap.size < wr.heap.size := hszr
    have b0 : wr.cell? ⟨w.heap.size, 0, none⟩ = some (.int .i64 W) := by
      rw [hB.cell (p := ⟨w.heap.size, 0, none⟩) (Nat.lt_succ_self _), World.cell?_alloc_at _ _ _ _ rfl]; rfl
    have b1 : wr.cell? ⟨w.heap.size, 1, none⟩ = some (.int .i64 H) := by
      rw [hB.cell (p := ⟨w.heap.size, 1, none⟩) (Nat.lt_succ_self _), World.cell?_alloc_at _ _ _ _ rfl]; rfl
    have b2 : wr.cell? ⟨w.heap.size, 2, none⟩ = some (.int .i64 S) := by
      rw [hB.cell (p := ⟨w.heap.size, 2, none⟩) (Nat.lt_succ_self _), World.cell?_alloc_at _ _ _ _ rfl]; rfl
    by_cases hlt : y < H
    · have hlt1 : (y : Int) < (H : Int) := by omega
      have hpl := place_lt HO.out hlt (Nat.le_refl W)
      obtain ⟨Y, hY⟩ : ∃ Y, y * W = Y := ⟨_, rfl⟩
      have hm1 : (y : Int) * (W : Int) = (Y : Int) := by rw [← hY]; simp
      rw [hY] at hpl
      have HY := Lib.hid hY
      clear hY
      go_wp2_with fail
      refine (specPositionOk_b true _ _ _ _ hPi.out hok.out _).mono ?_
      rintro e wo ⟨rfl, hB1⟩
      have d0 := cell_keptP b0 hB1
      have d1 := cell_keptP b1 hB1
      have d2 := cell_keptP b2 hB1
      clear b0 b1 b2
      have HROW := Lib.hid (hrow.kept hB1)
      have hzo : w.heap.size < wo.heap.size := Nat.lt_of_lt_of_le hzr hB1.size
      have HB := Lib.hid (hB.trans (hB1.mono hszr))
      have hszo : w.heap.size + 1 ≤ wo.heap.size := hzo
      clear hB hrow hB1
      go_wp2_with fail
      go_loopw [7, 8] (fun v j wr => ∃ x : Nat, x ≤ W ∧ j = .int .i64 x ∧ v = .string (strOfNums (rowP P S W y x)) ∧ wr = wo) (fun _ j _ => W - (intOf j).toNat)
      case atStart => exact ⟨0, by omega, rfl, rfl, rfl⟩
      case round =>
        obtain ⟨x, hx, rfl, rfl, rfl⟩ := hrel
        have hlen : (strOfNums (rowP P S W y x)).size ≤ 7 := by rw [strOfNums_size, rowP_len]; omega
        have hov : ¬ 9223372036854775807 < (strOfNums (rowP P S W y x)).size + 1 := by omega
        have hov2 : ¬ 9223372036854775807 < (strOfNums (rowP P S W y x)).size + (⟨#[111]⟩ : ByteArray).size := by have : (⟨#[111]⟩ : ByteArray).size = 1 := rfl; omega
        have hov3 : ¬ 9223372036854775807 < (strOfNums (rowP P S W y x)).size + (⟨#[46]⟩ : ByteArray).size := by have : (⟨#[46]⟩ : ByteArray).size = 1 := rfl; omega
        have hov4 : ¬ 9223372036854775807 < (strOfNums (rowP P S W y x)).size + (⟨#[32]⟩ : ByteArray).size := by have : (⟨#[32]⟩ : ByteArray).size = 1 := rfl; omega
        by_cases hlx : x < W
        · have hl1 : (x : Int) < (W : Int) := by omega
          have HN := Lib.hid (rowP_succ P S W y x)
          rw [HY.out] at HN
          have hk : ((Y : Int) + (x : Int)).toNat = Y + x := by omega
          have hk0 : (0 : Int) ≤ (Y : Int) + (x : Int) := by omega
          cases hsb : S.testBit (Y + x)
          · have hpb : P.testBit (Y + x) = false := by
              cases h : P.testBit (Y + x)
              · rfl
              · have := sub_bit HSUB.out h; rw [hsb] at this; cases this
            have hb1 := and_one0 S (Y + x) HS.out _ hsb
            have hb2 := and_one1 P (Y + x) HP.out _ hpb
            have hb3 : (bits BinOp.and IntKind.i64 ((S : Int) / 2 ^ ((Y : Int) + (x : Int)).toNat) 1 == 0) = true := by rw [hk]; exact hb1
            have hb4 : (bits BinOp.and IntKind.i64 ((P : Int) / 2 ^ ((Y : Int) + (x : Int)).toNat) 1 == 1) = false := by rw [hk]; exact hb2
            have HC := Lib.hid (chr_s (P := P) (S := S) hpb hsb)
            have HE : strOfNums (rowP P S W y x) ++ (⟨#[32]⟩ : ByteArray) = strOfNums (rowP P S W y (x + 1)) := by rw [HN.out, HC.out, strOfNums_snoc]; rfl
            have HEE := Lib.hid HE
            clear HE hpb hsb
            go_wp2
            go_roundw
            case rel => exact ⟨x + 1, by omega, by go_num, by rw [← HEE.out], by first | rfl | trivial⟩
            case measure => simp [intOf]; omega
          · cases hpb : P.testBit (Y + x)
            · have hb1 := and_one0 S (Y + x) HS.out _ hsb
              have hb2 := and_one1 P (Y + x) HP.out _ hpb
              have hb3 : (bits BinOp.and IntKind.i64 ((S : Int) / 2 ^ ((Y : Int) + (x : Int)).toNat) 1 == 0) = false := by rw [hk]; exact hb1
              have hb4 : (bits BinOp.and IntKind.i64 ((P : Int) / 2 ^ ((Y : Int) + (x : Int)).toNat) 1 == 1) = false := by rw [hk]; exact hb2
              have HC := Lib.hid (chr_d (P := P) (S := S) hpb hsb)
              have HE : strOfNums (rowP P S W y x) ++ (⟨#[46]⟩ : ByteArray) = strOfNums (rowP P S W y (x + 1)) := by rw [HN.out, HC.out, strOfNums_snoc]; rfl
              have HEE := Lib.hid HE
              clear HE hpb hsb
              go_wp2
              go_roundw
              case rel => exact ⟨x + 1, by omega, by go_num, by rw [← HEE.out], by first | rfl | trivial⟩
              case measure => simp [intOf]; omega
            · have hb1 := and_one0 S (Y + x) HS.out _ hsb
              have hb2 := and_one1 P (Y + x) HP.out _ hpb
              have hb3 : (bits BinOp.and IntKind.i64 ((S : Int) / 2 ^ ((Y : Int) + (x : Int)).toNat) 1 == 0) = false := by rw [hk]; exact hb1
              have hb4 : (bits BinOp.and IntKind.i64 ((P : Int) / 2 ^ ((Y : Int) + (x : Int)).toNat) 1 == 1) = true := by rw [hk]; exact hb2
              have HC := Lib.hid (chr_o (P := P) (S := S) hpb)
              have HE : strOfNums (rowP P S W y x) ++ (⟨#[111]⟩ : ByteArray) = strOfNums (rowP P S W y (x + 1)) := by rw [HN.out, HC.out, strOfNums_snoc]; rfl
              have HEE := Lib.hid HE
              clear HE hpb hsb
              go_wp2
              go_roundw
              case rel => exact ⟨x + 1, by omega, by go_num, by rw [← HEE.out], by first | rfl | trivial⟩
              case measure => simp [intOf]; omega
        · have hl1 : ¬ (x : Int) < (W : Int) := by omega
          have hxe : x = W := by omega
          rw [hxe] at hlen
          have hxx := Lib.hid hxe
          clear hov hov2 hov3 hov4
          subst hxe
          have HT := Lib.hid (textP_succ P S x y)
          have htl : (textP P S x y).length ≤ 7 := by rw [textP_len]; omega
          have hown := HROW.out
          unfold RowS at hown
          have hkeep := Lib.hid (fun k hk => (World.ownsRow.lt hown k hk).1)
          clear HROW hxx
          go_wp2_with (at_builtin; refine wpList_append_own_at _ rfl _ _ 24 rfl (w.heap.size + 1) 9 i0 (.string ByteArray.empty) 1 16 Try.underlying24 hi hz0 hz1 hz2 rfl (by decide) _ _ _ rfl (hown.alloc _) ⟨wr.heap.size, 0, none⟩ 1 1 [.string (strOfNums (rowP P S x y x))] rfl rfl (cell_one_new _ _ _) (by simp [Value.oneCell']) (by unfold maxLen; omega) (by omega) (by simp; omega) ?_)
          intro v' w3 hown' hgrow _ hat
          have R := Lib.hid (RowS.put hown')
          rw [← HT.out] at R
          have hB3 := Lib.hid ((HB.out.alloc hszo _).grown hgrow (by simp; omega) hkeep.out)
          clear hown hown' hgrow hat
          go_wp2
          go_roundw
          case rel => exact ⟨y + 1, by omega, by go_num, R.out, hB3.out⟩
          case measure => simp [intOf]; omega
    · have hlt1 : ¬ (y : Int) < (H : Int) := by omega
      have hye : y = H := by omega
      have R := Lib.hid hrow
      rw [hye] at R
      have HB2 := Lib.hid hB
      clear hye hrow hB
      go_wp2
      go_ret
      exact ⟨_, rfl, R.out.le (by omega), (below1 _ _).trans (HB2.out.mono (by omega))⟩

theorem specPositionText_any (a h s p : Int) (hp : p < 2 ^ 63) (w : World) :
    Calls Try.prog 9 #[.agg #[.int .i64 a, .int .i64 h, .int .i64 s], .int .i64 p] w (RetS w (textR a h s p)) := by
  cases hb : pOk a h s p
  · rw [textR_no hb]; exact specPositionText_no a h s p hp hb w
  · cases hbo : bOk a h s
    · unfold pOk at hb; rw [hbo] at hb; cases hb
    · obtain ⟨W, H, S, rfl, rfl, rfl, ok⟩ := (bOk_iff _ _ _).1 hbo
      obtain ⟨P, rfl, hsub⟩ := (pOk_iff ok _).1 hb
      rw [textR_ok ok hsub]
      exact specPositionText_yes W H S P ok hsub w

theorem PositionText_any (a h s p : Int) (hp : p < 2 ^ 63) (w : World) :
    Calls Try.prog 11 #[.agg #[.int .i64 a, .int .i64 h, .int .i64 s], .int .i64 p] w (RetS w (textR a h s p)) := by
  cases hb : pOk a h s p
  · rw [textR_no hb]; exact PositionText_no a h s p hp hb w
  · cases hbo : bOk a h s
    · unfold pOk at hb; rw [hbo] at hb; cases hb
    · obtain ⟨W, H, S, rfl, rfl, rfl, ok⟩ := (bOk_iff _ _ _).1 hbo
      obtain ⟨P, rfl, hsub⟩ := (pOk_iff ok _).1 hb
      rw [textR_ok ok hsub]
      exact PositionText_yes W H S P ok hsub w
theorem textR_short (a h s p : Int) : (textR a h s p).length ≤ 7 := by
  cases hb : pOk a h s p
  · rw [textR_no hb]; decide
  · cases hbo : bOk a h s
    · unfold pOk at hb; rw [hbo] at hb; cases hb
    · obtain ⟨W, H, S, rfl, rfl, rfl, ok⟩ := (bOk_iff _ _ _).1 hbo
      obtain ⟨P, rfl, hsub⟩ := (pOk_iff ok _).1 hb
      rw [textR_ok ok hsub, textP_len]
      exact ok.h7

end Go.Proofs.Ytoipnooncnpndaa
