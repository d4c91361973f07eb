/-
  The walk of the reference's LinesOf.
-/
import Derived.Test.YtoipnooncnpndaaWalkL
import Derived.StillTailTactics
namespace Go.Proofs.Ytoipnooncnpndaa
open Go.RowKit
open Peg
set_option linter.unusedVariables false

theorem l03Step_any (W H S : Nat) (ok : Ok W H S) (K : Nat) (hk : K < W * H) (way : Nat) (hw : way < 4) (w : World) :
    Calls Try.prog 86 #[.agg #[.int .i64 W, .int .i64 H, .int .i64 S], .int .i64 K, .int .i64 way] w fun e w' => e = .returned (.int .i64 (stepF W H S K way)) ∧ Below w.heap.size w w' := by
    match way, hw with
    | 0, _ => exact stepF_cases (fun r => Calls Try.prog 86 _ w fun e w' => e = .returned (.int .i64 r) ∧ Below w.heap.size w w') (fun h1 => l03Step_0_x W H S K ok hk (stepX W K 0) (stepY W K 0) (by simp [stepX, dX]) (by simp [stepY, dY]) h1 w) (fun h1 h2 => l03Step_0_y W H S K ok hk (stepX W K 0) (stepY W K 0) (by simp [stepX, dX]) (by simp [stepY, dY]) h1 h2 w) (fun h1 h2 h3 => l03Step_0_n W H S K ok hk (stepX W K 0) (stepY W K 0) (by simp [stepX, dX]) (by simp [stepY, dY]) h1 h2 h3 w) (fun h1 h2 h3 => l03Step_0_j W H S K ok hk (stepX W K 0) (stepY W K 0) (by simp [stepX, dX]) (by simp [stepY, dY]) h1 h2 h3 w)
    | 1, _ => exact stepF_cases (fun r => Calls Try.prog 86 _ w fun e w' => e = .returned (.int .i64 r) ∧ Below w.heap.size w w') (fun h1 => l03Step_1_x W H S K ok hk (stepX W K 1) (stepY W K 1) (by simp [stepX, dX]) (by simp [stepY, dY]) h1 w) (fun h1 h2 => l03Step_1_y W H S K ok hk (stepX W K 1) (stepY W K 1) (by simp [stepX, dX]) (by simp [stepY, dY]) h1 h2 w) (fun h1 h2 h3 => l03Step_1_n W H S K ok hk (stepX W K 1) (stepY W K 1) (by simp [stepX, dX]) (by simp [stepY, dY]) h1 h2 h3 w) (fun h1 h2 h3 => l03Step_1_j W H S K ok hk (stepX W K 1) (stepY W K 1) (by simp [stepX, dX]) (by simp [stepY, dY]) h1 h2 h3 w)
    | 2, _ => exact stepF_cases (fun r => Calls Try.prog 86 _ w fun e w' => e = .returned (.int .i64 r) ∧ Below w.heap.size w w') (fun h1 => l03Step_2_x W H S K ok hk (stepX W K 2) (stepY W K 2) (by simp [stepX, dX]) (by simp [stepY, dY]) h1 w) (fun h1 h2 => l03Step_2_y W H S K ok hk (stepX W K 2) (stepY W K 2) (by simp [stepX, dX]) (by simp [stepY, dY]) h1 h2 w) (fun h1 h2 h3 => l03Step_2_n W H S K ok hk (stepX W K 2) (stepY W K 2) (by simp [stepX, dX]) (by simp [stepY, dY]) h1 h2 h3 w) (fun h1 h2 h3 => l03Step_2_j W H S K ok hk (stepX W K 2) (stepY W K 2) (by simp [stepX, dX]) (by simp [stepY, dY]) h1 h2 h3 w)
    | 3, _ => exact stepF_cases (fun r => Calls Try.prog 86 _ w fun e w' => e = .returned (.int .i64 r) ∧ Below w.heap.size w w') (fun h1 => l03Step_3_x W H S K ok hk (stepX W K 3) (stepY W K 3) (by simp [stepX, dX]) (by simp [stepY, dY]) h1 w) (fun h1 h2 => l03Step_3_y W H S K ok hk (stepX W K 3) (stepY W K 3) (by simp [stepX, dX]) (by simp [stepY, dY]) h1 h2 w) (fun h1 h2 h3 => l03Step_3_n W H S K ok hk (stepX W K 3) (stepY W K 3) (by simp [stepX, dX]) (by simp [stepY, dY]) h1 h2 h3 w) (fun h1 h2 h3 => l03Step_3_j W H S K ok hk (stepX W K 3) (stepY W K 3) (by simp [stepX, dX]) (by simp [stepY, dY]) h1 h2 h3 w)

set_option maxHeartbeats 800000 in
set_option maxRecDepth 100000 in
theorem specLinesOf_yes (W H S : Nat) (ok : Ok W H S) (w : World) :
    Calls Try.prog 75 #[.agg #[.int .i64 W, .int .i64 H, .int .i64 S]] w (RetL w (linesF W H S)) := by
  obtain ⟨i0, hi, hz0, hz1, hz2⟩ := info_parts info_line
  obtain ⟨L, hL⟩ : ∃ L, holesN S (W * H) = L := ⟨_, rfl⟩
  have hLlen : L.length ≤ 49 := by rw [← hL]; exact Nat.le_trans (holesN_le _ _) ok.area.2
  have hLpos : 0 < L.length := by rw [← hL]; exact holes_pos ok
  have HL := Lib.hid hL
  clear hL
  go_enter Try.func75, Try.ntmps75
  have X0 := BoxAt.new w W H S 26
  go_wp2_with fail
  refine (specHolesOf_yes W H S ok _).mono ?_
  rintro e ws hr
  obtain ⟨hv, rfl, hr1, hB⟩ := hr
  rw [bits49 ok, bitsTo_holes, HL.out] at hr1
  obtain ⟨g, cap, rfl, hgB, hgs⟩ := hr1.pos (by simpa using hLpos)
  rw [List.length_map] at hr1
  have X1 := (X0.below (below1 _ (.cells #[] 38))).below hB
  have R1 := RowX.kept (rowNilL (w.alloc (.cells #[.int .i64 W, .int .i64 H, .int .i64 S] 26)) (w.heap.size + 1) (w.heap.size + 1) (by simp) (by simp)) hB
  have hBel := Lib.hid (((below1 w (.cells #[.int .i64 W, .int .i64 H, .int .i64 S] 26)).more (.cells #[] 38)).andThen hB)
  have hgB2 : w.heap.size + 1 < g := by simp at hgB; omega
  clear X0 hB
  go_wp2_with fail
  go_loopw [3, 5] (fun v j wr => ∃ i : Nat, i ≤ L.length ∧ j = .int .i64 i ∧ RowL wr (w.heap.size + 1) v (linesTo W H S i) ∧ Acc ws (w.heap.size + 1) v wr) (fun _ j _ => L.length - (intOf j).toNat)
  case atStart => exact ⟨0, by omega, rfl, R1, Acc.start _ _ _ (fun k hk => by simp [Value.ownBlock] at hk; omega)⟩
  case round =>
    obtain ⟨i, hi2, rfl, hrow, hacc⟩ := hrel
    by_cases hlt : i < L.length
    · have hcell : ws.cell? ⟨g, i, none⟩ = some (.int .i64 (L[i] : Nat)) := by
        have h2 := hr1
        unfold RowI at h2
        rw [List.length_map] at h2
        have h3 := World.ownsRow.cellAt h2 i (by omega)
        rw [h3]; simp [hlt]
      obtain ⟨k, hkL⟩ : ∃ k, L[i] = k := ⟨_, rfl⟩
      rw [hkL] at hcell
      have hmem : k < W * H ∧ S.testBit k = true := holesN_mem (by rw [HL.out, ← hkL]; exact List.getElem_mem hlt)
      have hkk : k < W * H := hmem.1
      have hsucc : linesTo W H S (i + 1) = linesTo W H S i ++ linesAt W H S k 4 := by
        have h1 := linesTo_succ W H S i (by rw [HL.out]; exact hlt)
        have h2 : (holesN S (W * H))[i]'(by rw [HL.out]; exact hlt) = k := by rw [← hkL]; simp only [HL.out]
        rw [h1, h2]
      have HS := Lib.hid hsucc
      have Hmem := Lib.hid hmem
      have Hk := Lib.hid hkL
      have Hcell := Lib.hid hcell
      clear hsucc hmem hkL hcell
      have hle := linesTo_le W H S i
      go_wp2_with fail
      obtain ⟨wo, rfl⟩ : ∃ wo : World, wo = wr := ⟨_, rfl⟩
      go_loopw [3, 6] (fun v j wr => ∃ m : Nat, m ≤ 4 ∧ j = .int .i64 m ∧ RowL wr (w.heap.size + 1) v (linesTo W H S i ++ linesAt W H S k m) ∧ Acc ws (w.heap.size + 1) v wr) (fun _ j _ => 4 - (intOf j).toNat)
      case atStart => exact ⟨0, by omega, rfl, by simpa [linesAt] using hrow, hacc⟩
      case round =>
        clear hrow hacc
        obtain ⟨m, hm4, rfl, hrow, hacc⟩ := hrel
        obtain ⟨ls, hls⟩ : ∃ ls, linesTo W H S i ++ linesAt W H S k m = ls := ⟨_, rfl⟩
        rw [hls] at hrow
        have hln : ls.length ≤ 300 := by
          have hlm := linesAt_le W H S k m
          rw [← hls, List.length_append]; omega
        have Hls := Lib.hid hls
        clear hls
        by_cases hltm : m < 4
        · obtain ⟨c0, c1, c2, cz⟩ := hacc.box X1 (by omega)
          have hcell : wr.cell? ⟨g, i, none⟩ = some (.int .i64 k) := hacc.gr.cell Hcell.out (by simp; omega)
          obtain ⟨o, ho⟩ : ∃ o, stepF W H S k m = o := ⟨_, rfl⟩
          have Ho := Lib.hid ho
          clear ho
          go_wp2_with fail
          go_still_tail 6, (by kernel_rfl)
          change wpList _ _ _ _ _ wr.drew
          go_wp2_with fail
          refine (l03Step_any W H S ok k hkk m hltm _).mono ?_
          rintro e w1 ⟨rfl, hB1⟩
          rw [Ho.out]
          have hacc1 := hacc.drew.below hB1
          have hrow1 := RowX.kept (w := wr.drew) hrow hB1
          have Xb := BoxAt.below (w := wr.drew) (BoxAt.mk c0 c1 c2 cz) hB1
          have hcell1 : w1.cell? ⟨g, i, none⟩ = some (.int .i64 k) := hacc1.gr.cell Hcell.out (by simp; omega)
          clear hB1 hacc hrow c0 c1 c2 cz hcell
          by_cases hneg : o < 0
          · have hline : lineOf W H S k m = none := by
              show (if 0 ≤ besideF W H S (stepF W H S k m) m then some (Ln.mk k (stepF W H S k m) (besideF W H S (stepF W H S k m) m)) else none) = _
              rw [Ho.out, beside_neg hneg]; rfl
            have Hl := Lib.hid hline
            clear hline
            go_wp2
            go_roundw
            case rel => exact ⟨m + 1, by omega, by go_num, by rw [linesAt_succ, Hl.out, ← List.append_assoc, Hls.out, Option.toList_none, List.append_nil]; exact hrow1, hacc1⟩
            case measure => simp [intOf]; omega
          · have hopos : 0 ≤ stepF W H S k m := by rw [Ho.out]; omega
            obtain ⟨X, Y, _, _, hX, hY, hb, hoe⟩ := stepF_range hopos
            rw [Ho.out] at hoe
            have hol := cell_lt hX hY
            obtain ⟨O, hO⟩ : ∃ O : Nat, Y * W + X = O := ⟨_, rfl⟩
            rw [hO] at hoe hol hb
            subst hoe
            obtain ⟨t, ht⟩ : ∃ t, stepF W H S O m = t := ⟨_, rfl⟩
            have hline : lineOf W H S k m = if 0 ≤ t then some ⟨k, O, t⟩ else none := by
              show (if 0 ≤ besideF W H S (stepF W H S k m) m then some (Ln.mk k (stepF W H S k m) (besideF W H S (stepF W H S k m) m)) else none) = _
              rw [beside_step ok hopos, Ho.out, Int.toNat_natCast, ht]
            have Hl := Lib.hid hline
            have Ht := Lib.hid ht
            clear hline ht hopos hX hY hb hO
            obtain ⟨d0, d1, d2, dz⟩ := Xb
            go_wp2_with fail
            refine (l03Step_any W H S ok O hol m hltm _).mono ?_
            rintro e w2 ⟨rfl, hB2⟩
            rw [Ht.out]
            have hacc2 := hacc1.below hB2
            have hrow2 := RowX.kept hrow1 hB2
            have hcell2 : w2.cell? ⟨g, i, none⟩ = some (.int .i64 k) := hacc2.gr.cell Hcell.out (by simp; omega)
            clear hB2 hacc1 hrow1 d0 d1 d2 dz hcell1
            by_cases h0 : 0 ≤ t
            · have hown := hrow2
              unfold RowX at hown
              have hsz := hacc2.gr.size
              clear hrow2
              go_wp2_with (at_builtin; refine wpList_append_own_at _ rfl _ _ 34 rfl (w.heap.size + 1) 38 i0 (.agg #[.int .i64 0, .int .i64 0, .int .i64 0]) 3 24 Try.underlying34 hi hz0 hz1 hz2 rfl (by decide) _ _ _ rfl (hown.alloc _) ⟨w2.heap.size, 0, none⟩ 1 1 [.int .i64 k, .int .i64 O, .int .i64 t] rfl rfl ?c1 ?c2 ?c3 ?c4 ?c5 ?_)
              case c1 => exact cell_three _ _ _ _ _
              case c2 => simp [Value.oneCell']
              case c3 => unfold maxLen; omega
              case c4 => omega
              case c5 => simp; omega
              intro v' w3 hown' hgrow _ hat
              have R := Lib.hid (RowL.put (l := ⟨k, O, t⟩) hown')
              have A := Lib.hid (hacc2.append hgrow hat)
              clear hown hown' hgrow hat hacc2 hcell2
              go_wp2
              go_roundw
              case rel => exact ⟨m + 1, by omega, by go_num, by rw [linesAt_succ, Hl.out, if_pos h0, ← List.append_assoc, Hls.out]; exact R.out, A.out⟩
              case measure => simp [intOf]; omega
            · go_wp2
              go_roundw
              case rel => exact ⟨m + 1, by omega, by go_num, by rw [linesAt_succ, Hl.out, if_neg (by omega), ← List.append_assoc, Hls.out, Option.toList_none, List.append_nil]; exact hrow2, hacc2⟩
              case measure => simp [intOf]; omega
        · have hme : m = 4 := by omega
          rw [← Hls.out, hme, ← HS.out] at hrow
          have hge : 4 ≤ m := by omega
          clear hme
          go_wp2
          go_roundw
          case rel => exact ⟨i + 1, by omega, by go_num, hrow, hacc⟩
          case measure => simp [intOf]; omega
    · have hge : L.length ≤ i := by omega
      have hie : i = (holesN S (W * H)).length := by rw [HL.out]; omega
      rw [hie, linesTo_all] at hrow
      clear hie
      go_wp2
      go_ret
      exact ⟨_, rfl, hrow.le (by omega), hacc.ret hBel.out (by omega)⟩
end Go.Proofs.Ytoipnooncnpndaa
