/-
  The walks of the reference's JumpsOf, UndosOf.
-/
import Derived.Test.YtoipnooncnpndaaWalkG
namespace Go.Proofs.Ytoipnooncnpndaa
open Go.RowKit
open Peg
set_option linter.unusedVariables false

theorem held4 {w' w1 ws : World} {g i0 i1 i2 b0 : Nat} {x y z v : Value} {zs : List Ln} {B : Nat}
    (h : w'.cell? ⟨g, i0, none⟩ = some x ∧ w'.cell? ⟨g, i1, none⟩ = some y ∧ w'.cell? ⟨g, i2, none⟩ = some z ∧ RowL w' B v zs ∧ Acc ws b0 v w') (hb : Below w'.heap.size w' w1) :
    w1.cell? ⟨g, i0, none⟩ = some x ∧ w1.cell? ⟨g, i1, none⟩ = some y ∧ w1.cell? ⟨g, i2, none⟩ = some z ∧ RowL w1 B v zs ∧ Acc ws b0 v w1 := by
  obtain ⟨h0, h1, h2, h3, h4⟩ := h
  exact ⟨cell_kept h0 hb, cell_kept h1 hb, cell_kept h2 hb, RowX.kept h3 hb, h4.below hb⟩

set_option maxHeartbeats 800000 in
set_option maxRecDepth 100000 in
theorem specJumpsOf_no (a h s q : Int) (hq : q < 2 ^ 63) (h1 : pOk a h s q = false) (w : World) :
    Calls Try.prog 42 #[.agg #[.int .i64 a, .int .i64 h, .int .i64 s], .int .i64 q] w (RetL w []) := by
  obtain ⟨ls, hls⟩ : ∃ ls, linesL a h s = ls := ⟨_, rfl⟩
  have HL := Lib.hid hls
  clear hls
  go_enter Try.func42, Try.ntmps42
  have X0 := BoxAt.new w a h s 26
  go_wp2_with fail
  refine (specLinesOf_any _ _ _ _).mono ?_
  rintro e ws hr
  obtain ⟨v, rfl, hr1, hB⟩ := hr
  rw [HL.out] at hr1
  have R1 := RowX.kept (rowNilL (w.alloc (.cells #[.int .i64 a, .int .i64 h, .int .i64 s] 26)) w.heap.size (w.heap.size + 1) (by simp) (by simp)) hB
  have hBel := ((below1 w (.cells #[.int .i64 a, .int .i64 h, .int .i64 s] 26)).more (.cells #[] 38)).andThen hB
  obtain ⟨b0, b1, b2, bz⟩ := (X0.below (below1 _ (.cells #[] 38))).below hB
  clear X0 hB
  rcases hr1.forms with ⟨h0, q, cap, rfl⟩ | ⟨hpos, g, cap, rfl, hgB, hgs⟩
  · subst h0
    go_wp2_with fail
    refine wp_loop_rounds 1 ?_
    rw [rounds_succ]
    go_wp2
    go_ret
    exact ⟨_, rfl, R1, hBel⟩
  · go_wp2_with fail
    refine wp_loop_rounds 1 ?_
    rw [rounds_succ]
    go_wp2_with fail
    refine (specPositionOk_b false _ _ _ _ hq h1 _).mono ?_
    rintro e w1 ⟨rfl, hB1⟩
    have R2 := Lib.hid (RowX.kept R1 hB1)
    have hBel2 := Lib.hid (hBel.andThen hB1)
    clear R1 hBel hr1 hB1
    go_wp2
    go_ret
    exact ⟨_, rfl, R2.out, hBel2.out⟩

set_option maxHeartbeats 800000 in
set_option maxRecDepth 100000 in
theorem specJumpsOf_yes (W H S P : Nat) (ok : Ok W H S) (hP : P < 2 ^ 49) (h1 : pOk W H S P = true) (w : World) :
    Calls Try.prog 42 #[.agg #[.int .i64 W, .int .i64 H, .int .i64 S], .int .i64 P] w (RetL w ((linesL W H S).filter (canJL P))) := by
  obtain ⟨i0, hi, hz0, hz1, hz2⟩ := info_parts info_line
  have hsh := linesL_short W H S
  have Hnat := Lib.hid (fun i l h => lines_nat ok (i := i) (l := l) h)
  obtain ⟨ls, hls⟩ : ∃ ls, linesL W H S = ls := ⟨_, rfl⟩
  rw [hls] at hsh Hnat ⊢
  have HL := Lib.hid hls
  clear hls ok
  obtain ⟨f, hf⟩ : ∃ f : Ln → Bool, canJL P = f := ⟨_, rfl⟩
  rw [hf]
  have HF := Lib.hid hf
  clear hf
  have H1 := Lib.hid h1
  clear h1
  go_enter Try.func42, Try.ntmps42
  have X0 := BoxAt.new w W H S 26
  go_wp2_with fail
  refine (specLinesOf_any _ _ _ _).mono ?_
  rintro e ws hr
  obtain ⟨v, rfl, hr1, hB⟩ := hr
  rw [HL.out] at hr1
  have R1 := RowX.kept (rowNilL (w.alloc (.cells #[.int .i64 W, .int .i64 H, .int .i64 S] 26)) (w.heap.size + 1) (w.heap.size + 1) (by simp) (by simp)) hB
  have hBel := Lib.hid (((below1 w (.cells #[.int .i64 W, .int .i64 H, .int .i64 S] 26)).more (.cells #[] 38)).andThen hB)
  have X1 := (X0.below (below1 _ (.cells #[] 38))).below hB
  have hsz := hB.size
  simp at hsz
  clear X0 hB
  rcases hr1.forms with ⟨h0, q, cap, rfl⟩ | ⟨_, g, cap, rfl, hgB, hgs⟩
  · subst h0
    go_wp2_with fail
    refine wp_loop_rounds 1 ?_
    rw [rounds_succ]
    go_wp2
    go_ret
    exact ⟨_, rfl, R1.le (by omega), hBel.out⟩
  · go_wp2_with fail
    simp at hgB
    go_loopw [5, 7] (fun v j wr => ∃ i : Nat, i ≤ ls.length ∧ j = .int .i64 i ∧ RowL wr (w.heap.size + 1) v (sift f ls i) ∧ Acc ws (w.heap.size + 1) v wr) (fun _ j _ => ls.length - (intOf j).toNat)
    case atStart => exact ⟨0, by omega, rfl, by rw [sift_zero]; exact R1, Acc.start _ _ _ (fun k hk => by simp [Value.ownBlock] at hk; omega)⟩
    case round =>
      obtain ⟨i, hi2, rfl, hrow, hacc⟩ := hrel
      by_cases hlt : i < ls.length
      · obtain ⟨b0, b1, b2, bz⟩ := hacc.box X1 (by omega)
        obtain ⟨l, hl⟩ : ∃ x, ls[i] = x := ⟨_, rfl⟩
        have Hl := Lib.hid (show ls[i]? = some l by rw [← hl]; simp [hlt])
        clear hl
        obtain ⟨A, B, C, rfl, ha, hb, hc, n1, n2, n3⟩ := Hnat.out i l Hl.out
        have hln := sift_le f ls i
        obtain ⟨zs, hzs⟩ : ∃ zs, sift f ls i = zs := ⟨_, rfl⟩
        rw [hzs] at hrow hln
        have Hzs := Lib.hid hzs
        clear hzs
        obtain ⟨b, hb2⟩ : ∃ b, canJ P A B C = b := ⟨_, rfl⟩
        have Hb := Lib.hid (show f ⟨A, B, C⟩ = b by rw [← HF.out, ← hb2]; rfl)
        have hcan : (bits BinOp.and IntKind.i64 (P : Int) (bits3 A B C : Nat) == bits BinOp.or IntKind.i64 (IntKind.i64.wrap (2 ^ A)) (IntKind.i64.wrap (2 ^ B))) = b := (canJ_val P A B C hP ha hb hc n1 n2 n3).trans hb2
        clear hb2
        have HC := Lib.hid hcan
        clear hcan
        go_wp2_with fail
        refine (specPositionOk_b true _ _ _ _ (by omega) H1.out _).mono ?_
        rintro e w2 ⟨rfl, hB2⟩
        have hacc2 := hacc.below hB2
        have hrow2 : RowL w2 _ _ zs := RowX.kept hrow hB2
        obtain ⟨e0, e1, e2⟩ := RowL.at (RowX.keptBut hr1 hacc2.gr (fun k hk e => by simp [Value.ownBlock] at hk e; omega)) i hlt
        rw [show ls[i] = ⟨A, B, C⟩ from by have := Hl.out; simp [hlt] at this; exact this] at e0 e1 e2
        dsimp only at e0 e1 e2
        have hgw : g < w2.heap.size := by have := hacc2.gr.size; omega
        have hI0 : (0 : Int) ≤ (i : Int) := by omega
        have hI1 : (i : Int) < (ls.length : Int) := by omega
        clear hacc hrow hB2 b0 b1 b2 bz
        go_wp2_with fail
        go_region_held3 (fun w' : World => w'.cell? ⟨g, i * 3, none⟩ = some (.int .i64 A) ∧ w'.cell? ⟨g, i * 3 + 1, none⟩ = some (.int .i64 B) ∧ w'.cell? ⟨g, i * 3 + 2, none⟩ = some (.int .i64 C) ∧ RowL w' (w.heap.size + 1) u5 zs ∧ Acc ws (w.heap.size + 1) u5 w')
          (first | assumption | exact ⟨e0, e1, e2, hrow2, hacc2.drew⟩ | exact held4 (by assumption) hB1)
          (first | (go_at_call 76; refine (l05Bits_any A B C ha hb hc _).mono ?_; rintro e w1 ⟨rfl, hB1⟩))
        clear e0 e1 e2 hrow2 hacc2
        rename_i hX
        obtain ⟨e0, e1, e2, hrow1, hacc1⟩ := hX
        have hgw1 : g < w1.heap.size := by have := hacc1.gr.size; omega
        rw [HC.out]
        cases b
        · go_wp2
          go_roundw
          case rel => exact ⟨i + 1, by omega, by go_num, by rw [sift_out Hl.out Hb.out, Hzs.out]; exact hrow1, hacc1⟩
          case measure => simp [intOf]; omega
        · have hown := hrow1
          unfold RowL RowX at hown
          have hsz1 := hacc1.gr.size
          clear hrow1
          go_wp2_with (at_builtin; refine wpList_append_own_at _ rfl _ _ 34 rfl (w.heap.size + 1) 38 i0 (.agg #[.int .i64 0, .int .i64 0, .int .i64 0]) 3 24 Try.underlying34 hi hz0 hz1 hz2 rfl (by decide) _ _ _ rfl (hown.alloc _) ⟨w1.heap.size, 0, none⟩ 1 1 [.int .i64 A, .int .i64 B, .int .i64 C] rfl rfl ?c1 ?c2 ?c3 ?c4 ?c5 ?_)
          case c1 => exact cell_three _ _ _ _ _
          case c2 => simp [Value.oneCell']
          case c3 => unfold maxLen; omega
          case c4 => omega
          case c5 => simp; omega
          intro v' w3 hown' hgrow _ hat
          have R := Lib.hid (RowL.put (l := ⟨A, B, C⟩) hown')
          have Ac := Lib.hid (hacc1.append hgrow hat)
          clear hown hown' hgrow hat hacc1 e0 e1 e2
          go_wp2
          go_roundw
          case rel => exact ⟨i + 1, by omega, by go_num, by rw [sift_in Hl.out Hb.out, Hzs.out]; exact R.out, Ac.out⟩
          case measure => simp [intOf]; omega
      · have hge : ls.length ≤ i := by omega
        rw [sift_all hge] at hrow
        go_wp2
        go_ret
        exact ⟨_, rfl, hrow.le (by omega), hacc.ret hBel.out (by omega)⟩

theorem specJumpsOf_any (a h s q : Int) (hq : q < 2 ^ 63) (w : World) :
    Calls Try.prog 42 #[.agg #[.int .i64 a, .int .i64 h, .int .i64 s], .int .i64 q] w (RetL w (jumpL a h s q)) := by
  cases h1 : pOk a h s q
  · rw [jumpL_no h1]; exact specJumpsOf_no a h s q hq h1 w
  · obtain ⟨W, H, S, P, rfl, rfl, rfl, rfl, ok, hP⟩ := pOk_nat h1
    rw [jumpL_yes h1]; exact specJumpsOf_yes W H S P ok hP h1 w

set_option maxHeartbeats 800000 in
set_option maxRecDepth 100000 in
theorem specUndosOf_no (a h s q : Int) (hq : q < 2 ^ 63) (h1 : pOk a h s q = false) (w : World) :
    Calls Try.prog 43 #[.agg #[.int .i64 a, .int .i64 h, .int .i64 s], .int .i64 q] w (RetL w []) := by
  obtain ⟨ls, hls⟩ : ∃ ls, linesL a h s = ls := ⟨_, rfl⟩
  have HL := Lib.hid hls
  clear hls
  go_enter Try.func43, Try.ntmps43
  have X0 := BoxAt.new w a h s 26
  go_wp2_with fail
  refine (specLinesOf_any _ _ _ _).mono ?_
  rintro e ws hr
  obtain ⟨v, rfl, hr1, hB⟩ := hr
  rw [HL.out] at hr1
  have R1 := RowX.kept (rowNilL (w.alloc (.cells #[.int .i64 a, .int .i64 h, .int .i64 s] 26)) w.heap.size (w.heap.size + 1) (by simp) (by simp)) hB
  have hBel := ((below1 w (.cells #[.int .i64 a, .int .i64 h, .int .i64 s] 26)).more (.cells #[] 38)).andThen hB
  obtain ⟨b0, b1, b2, bz⟩ := (X0.below (below1 _ (.cells #[] 38))).below hB
  clear X0 hB
  rcases hr1.forms with ⟨h0, q, cap, rfl⟩ | ⟨hpos, g, cap, rfl, hgB, hgs⟩
  · subst h0
    go_wp2_with fail
    refine wp_loop_rounds 1 ?_
    rw [rounds_succ]
    go_wp2
    go_ret
    exact ⟨_, rfl, R1, hBel⟩
  · go_wp2_with fail
    refine wp_loop_rounds 1 ?_
    rw [rounds_succ]
    go_wp2_with fail
    refine (specPositionOk_b false _ _ _ _ hq h1 _).mono ?_
    rintro e w1 ⟨rfl, hB1⟩
    have R2 := Lib.hid (RowX.kept R1 hB1)
    have hBel2 := Lib.hid (hBel.andThen hB1)
    clear R1 hBel hr1 hB1
    go_wp2
    go_ret
    exact ⟨_, rfl, R2.out, hBel2.out⟩

set_option maxHeartbeats 800000 in
set_option maxRecDepth 100000 in
theorem specUndosOf_yes (W H S P : Nat) (ok : Ok W H S) (hP : P < 2 ^ 49) (h1 : pOk W H S P = true) (w : World) :
    Calls Try.prog 43 #[.agg #[.int .i64 W, .int .i64 H, .int .i64 S], .int .i64 P] w (RetL w ((linesL W H S).filter (canUL P))) := by
  obtain ⟨i0, hi, hz0, hz1, hz2⟩ := info_parts info_line
  have hsh := linesL_short W H S
  have Hnat := Lib.hid (fun i l h => lines_nat ok (i := i) (l := l) h)
  obtain ⟨ls, hls⟩ : ∃ ls, linesL W H S = ls := ⟨_, rfl⟩
  rw [hls] at hsh Hnat ⊢
  have HL := Lib.hid hls
  clear hls ok
  obtain ⟨f, hf⟩ : ∃ f : Ln → Bool, canUL P = f := ⟨_, rfl⟩
  rw [hf]
  have HF := Lib.hid hf
  clear hf
  have H1 := Lib.hid h1
  clear h1
  go_enter Try.func43, Try.ntmps43
  have X0 := BoxAt.new w W H S 26
  go_wp2_with fail
  refine (specLinesOf_any _ _ _ _).mono ?_
  rintro e ws hr
  obtain ⟨v, rfl, hr1, hB⟩ := hr
  rw [HL.out] at hr1
  have R1 := RowX.kept (rowNilL (w.alloc (.cells #[.int .i64 W, .int .i64 H, .int .i64 S] 26)) (w.heap.size + 1) (w.heap.size + 1) (by simp) (by simp)) hB
  have hBel := Lib.hid (((below1 w (.cells #[.int .i64 W, .int .i64 H, .int .i64 S] 26)).more (.cells #[] 38)).andThen hB)
  have X1 := (X0.below (below1 _ (.cells #[] 38))).below hB
  have hsz := hB.size
  simp at hsz
  clear X0 hB
  rcases hr1.forms with ⟨h0, q, cap, rfl⟩ | ⟨_, g, cap, rfl, hgB, hgs⟩
  · subst h0
    go_wp2_with fail
    refine wp_loop_rounds 1 ?_
    rw [rounds_succ]
    go_wp2
    go_ret
    exact ⟨_, rfl, R1.le (by omega), hBel.out⟩
  · go_wp2_with fail
    simp at hgB
    go_loopw [5, 7] (fun v j wr => ∃ i : Nat, i ≤ ls.length ∧ j = .int .i64 i ∧ RowL wr (w.heap.size + 1) v (sift f ls i) ∧ Acc ws (w.heap.size + 1) v wr) (fun _ j _ => ls.length - (intOf j).toNat)
    case atStart => exact ⟨0, by omega, rfl, by rw [sift_zero]; exact R1, Acc.start _ _ _ (fun k hk => by simp [Value.ownBlock] at hk; omega)⟩
    case round =>
      obtain ⟨i, hi2, rfl, hrow, hacc⟩ := hrel
      by_cases hlt : i < ls.length
      · obtain ⟨b0, b1, b2, bz⟩ := hacc.box X1 (by omega)
        obtain ⟨l, hl⟩ : ∃ x, ls[i] = x := ⟨_, rfl⟩
        have Hl := Lib.hid (show ls[i]? = some l by rw [← hl]; simp [hlt])
        clear hl
        obtain ⟨A, B, C, rfl, ha, hb, hc, n1, n2, n3⟩ := Hnat.out i l Hl.out
        have hln := sift_le f ls i
        obtain ⟨zs, hzs⟩ : ∃ zs, sift f ls i = zs := ⟨_, rfl⟩
        rw [hzs] at hrow hln
        have Hzs := Lib.hid hzs
        clear hzs
        obtain ⟨b, hb2⟩ : ∃ b, canU P A B C = b := ⟨_, rfl⟩
        have Hb := Lib.hid (show f ⟨A, B, C⟩ = b by rw [← HF.out, ← hb2]; rfl)
        have hcan : (bits BinOp.and IntKind.i64 (P : Int) (bits3 A B C : Nat) == IntKind.i64.wrap (2 ^ C)) = b := (canU_val P A B C hP ha hb hc n1 n2 n3).trans hb2
        clear hb2
        have HC := Lib.hid hcan
        clear hcan
        go_wp2_with fail
        refine (specPositionOk_b true _ _ _ _ (by omega) H1.out _).mono ?_
        rintro e w2 ⟨rfl, hB2⟩
        have hacc2 := hacc.below hB2
        have hrow2 : RowL w2 _ _ zs := RowX.kept hrow hB2
        obtain ⟨e0, e1, e2⟩ := RowL.at (RowX.keptBut hr1 hacc2.gr (fun k hk e => by simp [Value.ownBlock] at hk e; omega)) i hlt
        rw [show ls[i] = ⟨A, B, C⟩ from by have := Hl.out; simp [hlt] at this; exact this] at e0 e1 e2
        dsimp only at e0 e1 e2
        have hgw : g < w2.heap.size := by have := hacc2.gr.size; omega
        have hI0 : (0 : Int) ≤ (i : Int) := by omega
        have hI1 : (i : Int) < (ls.length : Int) := by omega
        clear hacc hrow hB2 b0 b1 b2 bz
        go_wp2_with fail
        go_region_held3 (fun w' : World => w'.cell? ⟨g, i * 3, none⟩ = some (.int .i64 A) ∧ w'.cell? ⟨g, i * 3 + 1, none⟩ = some (.int .i64 B) ∧ w'.cell? ⟨g, i * 3 + 2, none⟩ = some (.int .i64 C) ∧ RowL w' (w.heap.size + 1) u5 zs ∧ Acc ws (w.heap.size + 1) u5 w')
          (first | assumption | exact ⟨e0, e1, e2, hrow2, hacc2.drew⟩ | exact held4 (by assumption) hB1)
          (first | (go_at_call 76; refine (l05Bits_any A B C ha hb hc _).mono ?_; rintro e w1 ⟨rfl, hB1⟩))
        clear e0 e1 e2 hrow2 hacc2
        rename_i hX
        obtain ⟨e0, e1, e2, hrow1, hacc1⟩ := hX
        have hgw1 : g < w1.heap.size := by have := hacc1.gr.size; omega
        rw [HC.out]
        cases b
        · go_wp2
          go_roundw
          case rel => exact ⟨i + 1, by omega, by go_num, by rw [sift_out Hl.out Hb.out, Hzs.out]; exact hrow1, hacc1⟩
          case measure => simp [intOf]; omega
        · have hown := hrow1
          unfold RowL RowX at hown
          have hsz1 := hacc1.gr.size
          clear hrow1
          go_wp2_with (at_builtin; refine wpList_append_own_at _ rfl _ _ 34 rfl (w.heap.size + 1) 38 i0 (.agg #[.int .i64 0, .int .i64 0, .int .i64 0]) 3 24 Try.underlying34 hi hz0 hz1 hz2 rfl (by decide) _ _ _ rfl (hown.alloc _) ⟨w1.heap.size, 0, none⟩ 1 1 [.int .i64 A, .int .i64 B, .int .i64 C] rfl rfl ?c1 ?c2 ?c3 ?c4 ?c5 ?_)
          case c1 => exact cell_three _ _ _ _ _
          case c2 => simp [Value.oneCell']
          case c3 => unfold maxLen; omega
          case c4 => omega
          case c5 => simp; omega
          intro v' w3 hown' hgrow _ hat
          have R := Lib.hid (RowL.put (l := ⟨A, B, C⟩) hown')
          have Ac := Lib.hid (hacc1.append hgrow hat)
          clear hown hown' hgrow hat hacc1 e0 e1 e2
          go_wp2
          go_roundw
          case rel => exact ⟨i + 1, by omega, by go_num, by rw [sift_in Hl.out Hb.out, Hzs.out]; exact R.out, Ac.out⟩
          case measure => simp [intOf]; omega
      · have hge : ls.length ≤ i := by omega
        rw [sift_all hge] at hrow
        go_wp2
        go_ret
        exact ⟨_, rfl, hrow.le (by omega), hacc.ret hBel.out (by omega)⟩

theorem specUndosOf_any (a h s q : Int) (hq : q < 2 ^ 63) (w : World) :
    Calls Try.prog 43 #[.agg #[.int .i64 a, .int .i64 h, .int .i64 s], .int .i64 q] w (RetL w (undoL a h s q)) := by
  cases h1 : pOk a h s q
  · rw [undoL_no h1]; exact specUndosOf_no a h s q hq h1 w
  · obtain ⟨W, H, S, P, rfl, rfl, rfl, rfl, ok, hP⟩ := pOk_nat h1
    rw [undoL_yes h1]; exact specUndosOf_yes W H S P ok hP h1 w

end Go.Proofs.Ytoipnooncnpndaa
