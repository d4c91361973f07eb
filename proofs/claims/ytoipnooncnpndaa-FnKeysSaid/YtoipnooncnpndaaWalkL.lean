/-
  The walks of LinesOf (impl and spec).
-/
import Derived.Test.YtoipnooncnpndaaAcc
import Derived.Test.YtoipnooncnpndaaWalkK
import Derived.Test.YtoipnooncnpndaaWalkI
import Derived.Deep.RegionHeld3
namespace Go.Proofs.Ytoipnooncnpndaa
open Go.RowKit
open Peg
set_option linter.unusedVariables false

theorem stepF_cases {W H S k way : Nat} (P : Int → Prop) (hx : inB (stepX W k way) 0 ((W : Int) - 1) = false → P (-1))
    (hy : inB (stepX W k way) 0 ((W : Int) - 1) = true → inB (stepY W k way) 0 ((H : Int) - 1) = false → P (-1))
    (hn : inB (stepX W k way) 0 ((W : Int) - 1) = true → inB (stepY W k way) 0 ((H : Int) - 1) = true → S.testBit (stepY W k way * W + stepX W k way).toNat = false → P (-1))
    (hj : inB (stepX W k way) 0 ((W : Int) - 1) = true → inB (stepY W k way) 0 ((H : Int) - 1) = true → S.testBit (stepY W k way * W + stepX W k way).toNat = true → P (stepY W k way * W + stepX W k way)) : P (stepF W H S k way) := by
  unfold stepF
  cases h1 : inB (stepX W k way) 0 ((W : Int) - 1)
  · simpa [h1] using hx h1
  · cases h2 : inB (stepY W k way) 0 ((H : Int) - 1)
    · simpa [h1, h2] using hy h1 h2
    · cases h3 : S.testBit (stepY W k way * W + stepX W k way).toNat
      · simpa [h1, h2, h3] using hn h1 h2 h3
      · simpa [h1, h2, h3] using hj h1 h2 h3

theorem beside_any (W H S : Nat) (ok : Ok W H S) (k : Int) (way : Nat) (hw : way < 4) (w : World) :
    Calls Try.prog 63 #[.agg #[.int .i64 W, .int .i64 H, .int .i64 S], .int .i64 k, .int .i64 way] w fun e w' => e = .returned (.int .i64 (besideF W H S k way)) ∧ Below w.heap.size w w' := by
  unfold besideF
  cases hb : hasB W H S k
  · exact beside_no W H S k way w hb
  · obtain ⟨K, rfl, hk, _⟩ := (hasB_iff ok k).1 hb
    rw [if_pos rfl, Int.toNat_natCast]
    match way, hw with
    | 0, _ => exact stepF_cases (fun r => Calls Try.prog 63 _ w fun e w' => e = .returned (.int .i64 r) ∧ Below w.heap.size w w') (fun h1 => beside_0_x W H S K ok hk hb (stepX W K 0) (stepY W K 0) (by simp [stepX, dX]) (by simp [stepY, dY]) h1 w) (fun h1 h2 => beside_0_y W H S K ok hk hb (stepX W K 0) (stepY W K 0) (by simp [stepX, dX]) (by simp [stepY, dY]) h1 h2 w) (fun h1 h2 h3 => beside_0_n W H S K ok hk hb (stepX W K 0) (stepY W K 0) (by simp [stepX, dX]) (by simp [stepY, dY]) h1 h2 h3 w) (fun h1 h2 h3 => beside_0_j W H S K ok hk hb (stepX W K 0) (stepY W K 0) (by simp [stepX, dX]) (by simp [stepY, dY]) h1 h2 h3 w)
    | 1, _ => exact stepF_cases (fun r => Calls Try.prog 63 _ w fun e w' => e = .returned (.int .i64 r) ∧ Below w.heap.size w w') (fun h1 => beside_1_x W H S K ok hk hb (stepX W K 1) (stepY W K 1) (by simp [stepX, dX]) (by simp [stepY, dY]) h1 w) (fun h1 h2 => beside_1_y W H S K ok hk hb (stepX W K 1) (stepY W K 1) (by simp [stepX, dX]) (by simp [stepY, dY]) h1 h2 w) (fun h1 h2 h3 => beside_1_n W H S K ok hk hb (stepX W K 1) (stepY W K 1) (by simp [stepX, dX]) (by simp [stepY, dY]) h1 h2 h3 w) (fun h1 h2 h3 => beside_1_j W H S K ok hk hb (stepX W K 1) (stepY W K 1) (by simp [stepX, dX]) (by simp [stepY, dY]) h1 h2 h3 w)
    | 2, _ => exact stepF_cases (fun r => Calls Try.prog 63 _ w fun e w' => e = .returned (.int .i64 r) ∧ Below w.heap.size w w') (fun h1 => beside_2_x W H S K ok hk hb (stepX W K 2) (stepY W K 2) (by simp [stepX, dX]) (by simp [stepY, dY]) h1 w) (fun h1 h2 => beside_2_y W H S K ok hk hb (stepX W K 2) (stepY W K 2) (by simp [stepX, dX]) (by simp [stepY, dY]) h1 h2 w) (fun h1 h2 h3 => beside_2_n W H S K ok hk hb (stepX W K 2) (stepY W K 2) (by simp [stepX, dX]) (by simp [stepY, dY]) h1 h2 h3 w) (fun h1 h2 h3 => beside_2_j W H S K ok hk hb (stepX W K 2) (stepY W K 2) (by simp [stepX, dX]) (by simp [stepY, dY]) h1 h2 h3 w)
    | 3, _ => exact stepF_cases (fun r => Calls Try.prog 63 _ w fun e w' => e = .returned (.int .i64 r) ∧ Below w.heap.size w w') (fun h1 => beside_3_x W H S K ok hk hb (stepX W K 3) (stepY W K 3) (by simp [stepX, dX]) (by simp [stepY, dY]) h1 w) (fun h1 h2 => beside_3_y W H S K ok hk hb (stepX W K 3) (stepY W K 3) (by simp [stepX, dX]) (by simp [stepY, dY]) h1 h2 w) (fun h1 h2 h3 => beside_3_n W H S K ok hk hb (stepX W K 3) (stepY W K 3) (by simp [stepX, dX]) (by simp [stepY, dY]) h1 h2 h3 w) (fun h1 h2 h3 => beside_3_j W H S K ok hk hb (stepX W K 3) (stepY W K 3) (by simp [stepX, dX]) (by simp [stepY, dY]) h1 h2 h3 w)

theorem RowI.pos {w : World} {B : Nat} {v : Value} {xs : List Int} (h : RowI w B v xs) (hx : 0 < xs.length) :
    ∃ g cap, v = .slice (some ⟨g, 0, none⟩) xs.length cap ∧ B ≤ g ∧ g < w.heap.size := by
  rcases h.forms with ⟨rfl, _⟩ | ⟨_, g, cap, hv, hb, hg, _⟩
  · simp at hx
  · exact ⟨g, cap, hv, hb, hg⟩

theorem bitsTo_holes (S n : Nat) : bitsTo S n = (holesN S n).map (fun i : Nat => (i : Int)) := rfl
theorem holes_pos {W H S : Nat} (ok : Ok W H S) : 0 < (holesN S (W * H)).length := by
  by_cases h : 0 < (holesN S (W * H)).length
  · exact h
  · exfalso
    have h0 : holesN S (W * H) = [] := List.eq_nil_of_length_eq_zero (by omega)
    have hz : S = 0 := by
      apply Nat.eq_of_testBit_eq
      intro i
      rw [Nat.zero_testBit]
      by_cases hi : i < W * H
      · cases hb : S.testBit i
        · rfl
        · have : i ∈ holesN S (W * H) := by unfold holesN; simpa using ⟨hi, hb⟩
          rw [h0] at this; cases this
      · exact Nat.testBit_lt_two_pow (Nat.lt_of_lt_of_le ok.s2 (Nat.pow_le_pow_right (by decide) (by omega)))
    have := ok.s1
    omega

set_option maxHeartbeats 800000 in
set_option maxRecDepth 100000 in
theorem LinesOf_yes (W H S : Nat) (ok : Ok W H S) (w : World) :
    Calls Try.prog 17 #[.agg #[.int .i64 W, .int .i64 H, .int .i64 S]] w (RetL w (linesF W H S)) := by
  obtain ⟨i0, hi, hz0, hz1, hz2⟩ := info_parts info_line
  obtain ⟨L, hL⟩ : ∃ L, holesN S (W * H) = L := ⟨_, rfl⟩
  have hLlen : L.length ≤ 49 := by rw [← hL]; exact Nat.le_trans (holesN_le _ _) ok.area.2
  have hLpos : 0 < L.length := by rw [← hL]; exact holes_pos ok
  have HL := Lib.hid hL
  clear hL
  go_enter Try.func17, Try.ntmps17
  have X0 := BoxAt.new w W H S 26
  go_wp2_with fail
  refine (HolesOf_yes W H S ok _).mono ?_
  rintro e ws hr
  obtain ⟨hv, rfl, hr1, hB⟩ := hr
  rw [bitsTo_holes, HL.out] at hr1
  obtain ⟨g, cap, rfl, hgB, hgs⟩ := hr1.pos (by simpa using hLpos)
  rw [List.length_map] at hr1
  have X1 := (X0.below (below1 _ (.cells #[] 38))).below hB
  have R1 := RowX.kept (rowNilL (w.alloc (.cells #[.int .i64 W, .int .i64 H, .int .i64 S] 26)) (w.heap.size + 1) (w.heap.size + 1) (by simp) (by simp)) hB
  have hBel := Lib.hid (((below1 w (.cells #[.int .i64 W, .int .i64 H, .int .i64 S] 26)).more (.cells #[] 38)).andThen hB)
  have hgB2 : w.heap.size + 1 < g := by simp at hgB; omega
  clear X0 hB
  go_wp2_with fail
  go_loopw [3, 13] (fun v j wr => ∃ i : Nat, i ≤ L.length ∧ j = .int .i64 i ∧ RowL wr (w.heap.size + 1) v (linesTo W H S i) ∧ Acc ws (w.heap.size + 1) v wr) (fun _ j _ => L.length - (intOf j).toNat)
  case atStart => exact ⟨0, by omega, rfl, R1, Acc.start _ _ _ (fun k hk => by simp [Value.ownBlock] at hk; omega)⟩
  case round =>
    obtain ⟨i, hi2, rfl, hrow, hacc⟩ := hrel
    by_cases hlt : i < L.length
    · have hcell : wr.cell? ⟨g, i, none⟩ = some (.int .i64 (L[i] : Nat)) := by
        have h1 := hacc.rowI hr1 (fun k hk => by simp [Value.ownBlock] at hk; omega)
        have h2 := h1
        unfold RowI at h2
        rw [List.length_map] at h2
        have h3 := World.ownsRow.cellAt h2 i (by omega)
        rw [h3]; simp [hlt]
      obtain ⟨k, hkL⟩ : ∃ k, L[i] = k := ⟨_, rfl⟩
      rw [hkL] at hcell
      have hmem : k < W * H ∧ S.testBit k = true := holesN_mem (by rw [HL.out, ← hkL]; exact List.getElem_mem hlt)
      have hkk : k < W * H := hmem.1
      have hsucc : linesTo W H S (i + 1) = linesTo W H S i ++ linesAt W H S k 4 := by
        have h1 := linesTo_succ W H S i (by rw [HL.out]; exact hlt)
        have h2 : (holesN S (W * H))[i]'(by rw [HL.out]; exact hlt) = k := by rw [← hkL]; simp only [HL.out]
        rw [h1, h2]
      have HS := Lib.hid hsucc
      have Hmem := Lib.hid hmem
      have Hk := Lib.hid hkL
      clear hsucc hmem hkL
      have hle := linesTo_le W H S i
      go_wp2_with fail
      obtain ⟨wo, rfl⟩ : ∃ wo : World, wo = wr := ⟨_, rfl⟩
      go_loopw [3, 6] (fun v j wr => ∃ m : Nat, m ≤ 4 ∧ j = .int .i64 m ∧ RowL wr (w.heap.size + 1) v (linesTo W H S i ++ linesAt W H S k m) ∧ Acc ws (w.heap.size + 1) v wr) (fun _ j _ => 4 - (intOf j).toNat)
      case atStart => exact ⟨0, by omega, rfl, by simpa [linesAt] using hrow, hacc⟩
      case round =>
        clear hcell hrow hacc
        obtain ⟨m, hm4, rfl, hrow, hacc⟩ := hrel
        obtain ⟨ls, hls⟩ : ∃ ls, linesTo W H S i ++ linesAt W H S k m = ls := ⟨_, rfl⟩
        rw [hls] at hrow
        have hln : ls.length ≤ 300 := by
          have hlm := linesAt_le W H S k m
          rw [← hls, List.length_append]; omega
        have Hls := Lib.hid hls
        clear hls
        by_cases hltm : m < 4
        · obtain ⟨c0, c1, c2, cz⟩ := hacc.box X1 (by omega)
          obtain ⟨o, ho⟩ : ∃ o, besideF W H S k m = o := ⟨_, rfl⟩
          obtain ⟨t, ht⟩ : ∃ t, besideF W H S o m = t := ⟨_, rfl⟩
          have Ho := Lib.hid ho
          have Ht := Lib.hid ht
          clear ho ht
          go_wp2_with fail
          refine (beside_any W H S ok k m hltm _).mono ?_
          rintro e w1 ⟨rfl, hB1⟩
          rw [Ho.out]
          obtain ⟨d0, d1, d2, dz⟩ := (BoxAt.mk c0 c1 c2 cz).below hB1
          have hacc1 := hacc.below hB1
          have hrow1 := RowX.kept hrow hB1
          clear hB1 hacc hrow c0 c1 c2 cz
          go_wp2_with fail
          refine (beside_any W H S ok o m hltm _).mono ?_
          rintro e w2 ⟨rfl, hB2⟩
          rw [Ht.out]
          have hacc2 := hacc1.below hB2
          have hrow2 := RowX.kept hrow1 hB2
          clear hB2 hacc1 hrow1 d0 d1 d2 dz
          have hline : lineOf W H S k m = if 0 ≤ t then some ⟨k, o, t⟩ else none := by
            have h1 : stepF W H S k m = o := by
              rw [← Ho.out]; unfold besideF
              rw [(hasB_iff ok _).2 ⟨k, rfl, Hmem.out⟩]; simp
            show (if 0 ≤ besideF W H S (stepF W H S k m) m then some (Ln.mk k (stepF W H S k m) (besideF W H S (stepF W H S k m) m)) else none) = _
            rw [h1, Ht.out]
          have Hl := Lib.hid hline
          clear hline
          by_cases h0 : 0 ≤ t
          · have hown := hrow2
            unfold RowX at hown
            have hsz := hacc2.gr.size
            clear hrow2
            go_wp2_with (at_builtin; refine wpList_append_own_at _ rfl _ _ 34 rfl (w.heap.size + 1) 38 i0 (.agg #[.int .i64 0, .int .i64 0, .int .i64 0]) 3 24 Try.underlying34 hi hz0 hz1 hz2 rfl (by decide) _ _ _ rfl (hown.alloc _) ⟨w2.heap.size, 0, none⟩ 1 1 [.int .i64 k, .int .i64 o, .int .i64 t] rfl rfl ?c1 ?c2 ?c3 ?c4 ?c5 ?_)
            case c1 => exact cell_three _ _ _ _ _
            case c2 => simp [Value.oneCell']
            case c3 => unfold maxLen; omega
            case c4 => omega
            case c5 => simp; omega
            intro v' w3 hown' hgrow _ hat
            have R := Lib.hid (RowL.put (l := ⟨k, o, t⟩) hown')
            have A := Lib.hid (hacc2.append hgrow hat)
            clear hown hown' hgrow hat hacc2
            go_wp2
            go_roundw
            case rel => exact ⟨m + 1, by omega, by go_num, by rw [linesAt_succ, Hl.out, if_pos h0, ← List.append_assoc, Hls.out]; exact R.out, A.out⟩
            case measure => simp [intOf]; omega
          · go_wp2
            go_roundw
            case rel => exact ⟨m + 1, by omega, by go_num, by rw [linesAt_succ, Hl.out, if_neg (by omega), ← List.append_assoc, Hls.out, Option.toList_none, List.append_nil]; exact hrow2, hacc2⟩
            case measure => simp [intOf]; omega
        · have hme : m = 4 := by omega
          rw [← Hls.out, hme, ← HS.out] at hrow
          have hge : 4 ≤ m := by omega
          clear hme
          go_wp2
          go_roundw
          case rel => exact ⟨i + 1, by omega, by go_num, hrow, hacc⟩
          case measure => simp [intOf]; omega
    · have hge : L.length ≤ i := by omega
      have hie : i = (holesN S (W * H)).length := by rw [HL.out]; omega
      rw [hie, linesTo_all] at hrow
      clear hie
      go_wp2
      go_ret
      exact ⟨_, rfl, hrow.le (by omega), hacc.ret hBel.out (by omega)⟩
end Go.Proofs.Ytoipnooncnpndaa
